/- The abstract machine: the model's operations do what the abstract ones say (seventh part: slice expressions, maps). Conditions: none. -/
import Derived.Test.YtanifbomohnefaaDoorAb9
namespace Go.Ab
open Go

variable {P : Program} {Γ : Env} {φ : Phi} {A : Nat → Prop} {σ σ' : AState} {w : World} {fr : AFr} {tmps : Array Value} {d : List Deferred} {v : AV}

theorem bytes_extract (l : List UInt8) (a b : Nat) : (ByteArray.mk l.toArray).extract a b = ByteArray.mk ((l.drop a).take (b - a)).toArray := by
  apply ByteArray.ext
  rw [ByteArray.data_extract]
  apply Array.toList_inj.1
  rw [Array.toList_extract, List.extract_eq_take_drop]

/-- A bound of a slice expression as it stands in the model. -/
def BoundIs (b : Option Value) (n : Option Int) : Prop := match n with
  | none => b = none
  | some i => ∃ k, b = some (.int k i)

theorem evInt_ok (hf : FrOk φ A fr tmps) {x : Option Operand} {n : Option Int} (h : evInt fr x = some n) : BoundIs (x.map (Act.eval ⟨tmps, d⟩)) n := by
  cases x with
  | none => simp only [evInt, Option.some.injEq] at h; subst h; rfl
  | some x =>
    simp only [evInt] at h
    split at h
    · rename_i k i hx
      injection h with h
      subst h
      obtain ⟨k1, _⟩ := ev_ok (d := d) hf hx
      exact ⟨k, by simp [k1]⟩
    · cases h

theorem sliceBound_run {k : IntKind} {i : Int} {y : Nat} {code : BoundsCode} (h : 0 ≤ i ∧ i ≤ y) (w : World) :
    (Instr.sliceBound (.int k i) y code).run P w = .ok i.toNat w := by
  simp only [Instr.sliceBound, asIntOf, Sem.run_bind, Sem.run_pure, Result.andThen_ok]
  rw [if_pos h]; rfl

theorem sliceBounds_run {s : Bool} {len cap : Nat} {lo hi mx : Option Value} {l' h' m' : Option Int} (hl : BoundIs lo l') (hh : BoundIs hi h') (hm : BoundIs mx m') (hmh : m' ≠ none → h' ≠ none)
    {l h m : Nat} (em : (m : Int) = m'.getD (cap : Int)) (eh : (h : Int) = h'.getD (len : Int)) (el : (l : Int) = l'.getD 0)
    (c1 : m ≤ cap) (c2 : h' ≠ none → h ≤ m) (c3 : l' ≠ none → l ≤ h) (w : World) :
    (Instr.sliceBounds s len cap lo hi mx).run P w = .ok (l, h, m) w := by
  have e3 : ∀ (code : BoundsCode), (match lo with | some v => Instr.sliceBound v h code | none => pure 0 : Sem Nat).run P w = .ok l w := by
    intro code
    cases l' with
    | none => simp only [BoundIs] at hl; subst hl; simp only [Option.getD] at el; simp; omega
    | some i =>
      obtain ⟨k, rfl⟩ := hl
      simp only [Option.getD] at el ⊢
      have := c3 (by simp)
      rw [sliceBound_run (by omega)]
      congr 1; omega
  cases m' with
  | none =>
    simp only [BoundIs] at hm; subst hm
    simp only [Option.getD] at em
    have em : m = cap := by omega
    subst em
    cases h' with
    | none =>
      simp only [BoundIs] at hh; subst hh
      simp only [Option.getD] at eh
      have eh : h = len := by omega
      subst eh
      cases l' with
      | none => simp only [BoundIs] at hl; subst hl; simp only [Option.getD] at el; have : l = 0 := by omega
                subst this; rfl
      | some i =>
        have := e3 (if s = true then .sliceB else .sliceB)
        obtain ⟨k, rfl⟩ := hl
        simp only [Instr.sliceBounds, Sem.run_bind, Sem.run_pure, Result.andThen_ok]
        simp only [Option.getD] at el
        have := c3 (by simp)
        rw [sliceBound_run (by omega)]
        simp only [Result.andThen_ok, Sem.run_pure]
        congr 2; omega
    | some j =>
      obtain ⟨kh, rfl⟩ := hh
      simp only [Option.getD] at eh
      have c2 := c2 (by simp)
      cases l' with
      | none =>
        simp only [BoundIs] at hl; subst hl; simp only [Option.getD] at el; have : l = 0 := by omega
        subst this
        simp only [Instr.sliceBounds, Sem.run_bind, Sem.run_pure, Result.andThen_ok]
        rw [sliceBound_run (by omega)]
        simp only [Result.andThen_ok, Sem.run_pure]
        have : j.toNat = h := by omega
        rw [this]
      | some i =>
        obtain ⟨k, rfl⟩ := hl
        simp only [Option.getD] at el
        have := c3 (by simp)
        simp only [Instr.sliceBounds, Sem.run_bind, Sem.run_pure, Result.andThen_ok]
        rw [sliceBound_run (by omega)]
        simp only [Result.andThen_ok, Sem.run_pure]
        have e1 : j.toNat = h := by omega
        rw [e1, sliceBound_run (by omega)]
        simp only [Result.andThen_ok, Sem.run_pure]
        have e2 : i.toNat = l := by omega
        rw [e2]
  | some q =>
    obtain ⟨km, rfl⟩ := hm
    simp only [Option.getD] at em
    cases h' with
    | none => exact absurd rfl (hmh (by simp))
    | some j =>
      obtain ⟨kh, rfl⟩ := hh
      simp only [Option.getD] at eh
      have c2 := c2 (by simp)
      cases l' with
      | none =>
        simp only [BoundIs] at hl; subst hl; simp only [Option.getD] at el; have : l = 0 := by omega
        subst this
        simp only [Instr.sliceBounds, Sem.run_bind]
        rw [sliceBound_run (by omega)]
        simp only [Result.andThen_ok, Sem.run_bind]
        have e0 : q.toNat = m := by omega
        rw [e0, sliceBound_run (by omega)]
        simp only [Result.andThen_ok, Sem.run_pure]
        have : j.toNat = h := by omega
        rw [this]
      | some i =>
        obtain ⟨k, rfl⟩ := hl
        simp only [Option.getD] at el
        have := c3 (by simp)
        simp only [Instr.sliceBounds, Sem.run_bind]
        rw [sliceBound_run (by omega)]
        simp only [Result.andThen_ok, Sem.run_bind]
        have e0 : q.toNat = m := by omega
        rw [e0, sliceBound_run (by omega)]
        simp only [Result.andThen_ok, Sem.run_bind]
        have e1 : j.toNat = h := by omega
        rw [e1, sliceBound_run (by omega)]
        simp only [Result.andThen_ok, Sem.run_pure]
        have e2 : i.toNat = l := by omega
        rw [e2]


theorem slice_run {e : TypeId} {E : ATy} (hE : TyOk P e E) {t : TypeId} (hd : ∀ w, (underlying t).run P w = .ok (.slice e) w) {b : Nat} {p : List Nat} {st len cap : Nat} {lo hi mx : Option Value} {l' h' m' : Option Int}
    (hl : BoundIs lo l') (hh : BoundIs hi h') (hm : BoundIs mx m') (hmh : m' ≠ none → h' ≠ none) {n : Nat} (hsh : (φ b).sh.at p = some (.arr n E.sh)) (hok : (AV.slice b p st len cap).ok φ A)
    {l h m : Nat} (em : (m : Int) = m'.getD (cap : Int)) (eh : (h : Int) = h'.getD (len : Int)) (el : (l : Int) = l'.getD 0)
    (c1 : m ≤ cap) (c2 : h ≤ m) (c3 : l ≤ h) (c4 : l = 0 ∨ l < m) (c5 : m' ≠ none → (φ b).spare = 0) (w : World) :
    (Instr.slice t ((AV.slice b p st len cap).conc φ) lo hi mx).run P w = .ok ((AV.slice b p (st + l) (h - l) (m - l)).conc φ) w ∧ (AV.slice b p (st + l) (h - l) (m - l)).ok φ A := by
  simp only [AV.ok] at hok
  obtain ⟨a1, a2, a3, n', es, a4, a5⟩ := hok
  rw [hsh] at a4; simp only [Option.some.injEq, Sh.arr.injEq] at a4
  obtain ⟨rfl, rfl⟩ := a4
  refine ⟨?_, ?_⟩
  · -- the capacity in the model
    have hcap : ∃ M : Nat, (M : Int) = m'.getD ((cap + spareOf (φ b) p st cap : Nat) : Int) ∧ m + spareOf (φ b) p (st + l) (m - l) - 0 = M ∧ M ≤ cap + spareOf (φ b) p st cap := by
      cases m' with
      | none =>
        simp only [Option.getD] at em
        have em : m = cap := by omega
        subst em
        refine ⟨m + spareOf (φ b) p st m, rfl, ?_, Nat.le_refl _⟩
        have : spareOf (φ b) p (st + l) (m - l) = spareOf (φ b) p st m := by
          unfold spareOf
          split
          · have : st + l + (m - l) = st + m := by omega
            rw [this]
          · rfl
        omega
      | some i =>
        simp only [Option.getD] at em
        have hz := c5 (by simp)
        have h0 : spareOf (φ b) p (st + l) (m - l) = 0 := by
          unfold spareOf; split
          · rw [hz]; simp
          · rfl
        exact ⟨m, em, by omega, by omega⟩
    obtain ⟨M, hM1, hM2, hM3⟩ := hcap
    simp only [conc_slice, Instr.slice, Sem.run_bind, hd, Result.andThen_ok]
    rw [sliceBounds_run hl hh hm hmh (l := l) (h := h) (m := M) hM1 eh el hM3 (fun _ => by omega) (fun _ => c3)]
    simp only [Result.andThen_ok, Sem.run_bind, hE.run_size, Sem.run_pure]
    congr 1
    have hes : elemSize (φ b).sh p = E.size := by simp only [elemSize, hsh, hE.size_eq]
    congr 1
    · by_cases hMl : M = l
      · have : l = 0 := by omega
        subst this
        simp [hMl]
      · simp only [hMl, if_false, Option.map_some, addr_add, hes]
        rw [Nat.add_mul]
        simp only [Nat.add_assoc]
    · omega
  · simp only [AV.ok]
    exact ⟨a1, a2, by omega, n, E.sh, hsh, by omega⟩

theorem op_slice {o : Oper} (hG : GOk P Γ) (hs : Sim φ A σ w) (hf : FrOk φ A fr tmps) {t : TypeId} {x : Operand} {lo hi mx : Option Operand} (ho : o.op = .slice t x lo hi mx)
    (h : (aop Γ fr σ (.slice t x lo hi mx)).gives v σ') : OpRes P φ A σ w (execOp (Act.eval ⟨tmps, d⟩) o) v σ' := by
  cases hT0 : Γ.ty.get t with
  | none => simp only [aop, hT0] at h; exact h.elim
  | some T =>
  cases hlo : evInt fr lo with
  | none => simp only [aop, hT0, hlo] at h; exact h.elim
  | some l' =>
  cases hhi : evInt fr hi with
  | none => simp only [aop, hT0, hlo, hhi] at h; exact h.elim
  | some h' =>
  cases hmx : evInt fr mx with
  | none => simp only [aop, hT0, hlo, hhi, hmx] at h; exact h.elim
  | some m' =>
  simp only [aop, hT0, hlo, hhi, hmx] at h
  have hT := hG.ty _ _ hT0
  have bl := evInt_ok (d := d) hf hlo
  have bh := evInt_ok (d := d) hf hhi
  have bm := evInt_ok (d := d) hf hmx
  obtain ⟨dd, hd, hkd⟩ := hT.under_ex
  have hd : ∀ w, (underlying t).run P w = .ok dd w := fun w => run_underlying hd w
  split at h
  · -- an array
    rename_i n e hk
    rw [hk] at hkd
    cases dd <;> simp [kindOf] at hkd
    obtain ⟨rfl, rfl⟩ := hkd
    repeat' split at h
    all_goals first | exact False.elim h | skip
    rename_i n e _ _ b p hx _ _ _ _ E hE _ sh y ex hb _ m es hsp _ hbq _ hpe
    obtain ⟨rfl, rfl⟩ := h
    have hE := hG.ty _ _ hE
    simp only [Bool.and_eq_true] at hbq
    have hnm := Nat.eq_of_beq_eq_true hbq.1
    have hse := beq_sound _ _ hbq.2
    subst hnm hse
    obtain ⟨k1, k2⟩ := ev_ok (d := d) hf hx
    simp only [AV.ok] at k2
    have hobj := hs.obj b _ hb
    have hshb : (φ b).sh = sh := hobj.1
    refine .same hs ?_ ?_
    · simp only [execOp, ho, k1, conc_ptr, Instr.sliceAt, Sem.run_bind, hd, Result.andThen_ok, Instr.sureAddr, Sem.run_pure, Option.map_none]
      rw [sliceBounds_run (l' := none) (h' := none) (m' := none) rfl rfl rfl (by simp) (l := 0) (h := n) (m := n) rfl rfl rfl (Nat.le_refl _) (by simp) (by simp)]
      simp only [Result.andThen_ok, Sem.run_bind, hE.run_size, Sem.run_pure, conc_slice, hshb]
      congr 3
      · rw [Nat.zero_mul, Nat.zero_mul]
        split <;> simp [Addr.add]
      · unfold spareOf
        cases p with
        | nil => simp at hpe
        | cons _ _ => cases (φ b).sh <;> simp
    · simp only [AV.ok, hshb]
      exact ⟨k2.1, hshb ▸ k2.2, Nat.le_refl _, n, E.sh, hsp, by omega⟩
  · -- a string
    rename_i hk
    rw [hk] at hkd
    cases dd <;> simp [kindOf] at hkd
    repeat' split at h
    all_goals first | exact False.elim h | skip
    rename_i s hx _
    obtain ⟨k1, k2⟩ := ev_ok (d := d) hf hx
    simp only [evInt, Option.some.injEq] at hmx
    subst hmx
    have hrun : ∀ (l h : Nat) (r : List UInt8), (l : Int) = l'.getD 0 → (h : Int) = h'.getD (s.length : Int) → l ≤ h → h ≤ s.length → (s.drop l).take (h - l) = r →
        OpRes P φ A σ w (execOp (Act.eval ⟨tmps, d⟩) o) (.str r) σ := by
      intro l h r el eh c1 c2 hr
      refine .same hs ?_ (by simp [AV.ok])
      simp only [execOp, ho, k1, conc_str, Instr.sliceAt, Instr.slice, Sem.run_bind, hd, Result.andThen_ok, Option.map_none, Option.isSome_none, Bool.false_eq_true, if_false]
      rw [sliceBounds_run (m' := none) bl bh rfl (by simp) (l := l) (h := h) (m := s.length) (by simp [ByteArray.size]) (by rw [eh]; simp [ByteArray.size]) el (by simp [ByteArray.size]) (fun _ => c2) (fun _ => c1)]
      simp only [Result.andThen_ok, Sem.run_pure, bytes_extract, hr]
    unfold asliceStr at h
    cases l' with
    | none =>
      cases h' with
      | none =>
        obtain ⟨rfl, rfl⟩ := h
        exact hrun 0 s.length s rfl rfl (by omega) (by omega) (by simp)
      | some j =>
        obtain ⟨h0, rfl, rfl⟩ := h
        exact hrun 0 j.toNat _ rfl (by simp; omega) (by omega) (by omega) (by simp)
    | some i =>
      cases h' with
      | none =>
        obtain ⟨h0, rfl, rfl⟩ := h
        exact hrun i.toNat s.length _ (by simp; omega) rfl (by omega) (by omega) (by rw [List.take_of_length_le]; simp)
      | some j =>
        obtain ⟨h0, rfl, rfl⟩ := h
        exact hrun i.toNat j.toNat _ (by simp; omega) (by simp; omega) (by omega) (by omega) rfl
  · -- a slice
    rename_i e hk
    rw [hk] at hkd
    cases dd <;> simp [kindOf] at hkd
    subst hkd
    repeat' split at h
    all_goals first | exact False.elim h | skip
    rename_i E hE _ b p st len cap hx _ sh y ex hb _ n es hsp _ hbq
    have hE := hG.ty _ _ hE
    have hse := beq_sound _ _ hbq
    subst hse
    obtain ⟨k1, k2⟩ := ev_ok (d := d) hf hx
    have hobj := hs.obj b _ hb
    have hshb : (φ b).sh = sh := hobj.1
    have hlc : len ≤ cap := by simp only [AV.ok] at k2; exact k2.2.2.1
    have hrun : ∀ (l h m : Nat), (m : Int) = m'.getD (cap : Int) → (h : Int) = h'.getD (len : Int) → (l : Int) = l'.getD 0 →
        m ≤ cap → h ≤ m → l ≤ h → (l = 0 ∨ l < m) → (m' ≠ none → (φ b).spare = 0) → (m' ≠ none → h' ≠ none) → OpRes P φ A σ w (execOp (Act.eval ⟨tmps, d⟩) o) (.slice b p (st + l) (h - l) (m - l)) σ := by
      intro l h m em eh el c1 c2 c3 c4 c5 c6
      obtain ⟨r1, r2⟩ := slice_run (φ := φ) (A := A) hE hd bl bh bm c6 (by rw [hshb]; exact hsp) k2 em eh el c1 c2 c3 c4 c5 w
      refine .same hs ?_ r2
      simp only [execOp, ho, k1, Instr.sliceAt, Sem.run_bind, hd, Result.andThen_ok]
      rw [r1]; rfl
    unfold asliceSl at h
    cases m' with
    | none =>
      cases l' with
      | none =>
        cases h' with
        | none =>
          obtain ⟨rfl, rfl⟩ := h
          have := hrun 0 len cap rfl rfl rfl (Nat.le_refl _) hlc (by omega) (.inl rfl) (by simp) (by simp)
          simpa using this
        | some j =>
          obtain ⟨h0, rfl, rfl⟩ := h
          have := hrun 0 j.toNat cap rfl (by simp; omega) rfl (Nat.le_refl _) (by omega) (by omega) (.inl rfl) (by simp) (by simp)
          simpa using this
      | some i =>
        cases h' with
        | none =>
          obtain ⟨h0, rfl, rfl⟩ := h
          exact hrun i.toNat len cap rfl rfl (by simp; omega) (Nat.le_refl _) hlc (by omega) (by omega) (by simp) (by simp)
        | some j =>
          obtain ⟨h0, rfl, rfl⟩ := h
          exact hrun i.toNat j.toNat cap rfl (by simp; omega) (by simp; omega) (Nat.le_refl _) (by omega) (by omega) (by omega) (by simp) (by simp)
    | some q =>
      cases ex <;> simp only at h <;> first | exact h.elim | skip
      cases l' with
      | none => exact h.elim
      | some i =>
        cases h' with
        | none => exact h.elim
        | some j =>
          obtain ⟨h0, rfl, rfl⟩ := h
          obtain ⟨_, _, _, _, _, _, _, _, _, _, hsp0, _⟩ := hobj
          exact hrun i.toNat j.toNat q.toNat (by simp; omega) (by simp; omega) (by simp; omega) (by omega) (by omega) (by omega) (by omega) (fun _ => hsp0 rfl) (by simp)
  · exact h.elim

end Go.Ab
