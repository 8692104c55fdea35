/- The abstract machine: the model's operations do what the abstract ones say (fourth part: composed values, addresses, new slices, cuts). Conditions: none. -/
import Derived.Test.YtanifbomohnefaaDoorAb6
namespace Go.Ab
open Go

variable {P : Program} {Γ : Env} {φ : Phi} {A : Nat → Prop} {σ σ' : AState} {w : World} {fr : AFr} {tmps : Array Value} {d : List Deferred} {v : AV}

theorem fieldsFit_nth : (fs : List (Nat × TypeId)) → (ss : List Sh) → (o f : Nat) → fieldsFit P o fs ss = true → ∀ s, nth ss f = some s →
    ∃ ft i, nth fs f = some (o + Sh.sizes (ss.take f), ft) ∧ P.info? ft = some i ∧ i.size = s.size
  | [], [], _, _, _, _, h => by simp [nth] at h
  | [], _ :: _, _, _, h, _, _ => by simp [fieldsFit] at h
  | _ :: _, [], _, _, h, _, _ => by simp [fieldsFit] at h
  | (o', t) :: fs, s0 :: ss, o, f, h, s, hn => by
    simp only [fieldsFit, Bool.and_eq_true] at h
    obtain ⟨⟨h1, h2⟩, h3⟩ := h
    have h1 := Nat.eq_of_beq_eq_true h1
    subst h1
    cases f with
    | zero =>
      simp only [nth, Option.some.injEq] at hn
      subst hn
      cases hi : P.info? t with
      | none => simp [hi] at h2
      | some i => simp only [hi] at h2; exact ⟨t, i, by simp [nth, Sh.sizes], hi, Nat.eq_of_beq_eq_true h2⟩
    | succ f =>
      simp only [nth] at hn
      obtain ⟨ft, i, g1, g2, g3⟩ := fieldsFit_nth fs ss (o + s0.size) f h3 s hn
      exact ⟨ft, i, by simp [nth, g1, Sh.sizes, Nat.add_assoc], g2, g3⟩

theorem at_app : (p : List Nat) → (s sp : Sh) → (i : Nat) → s.at p = some sp → s.at (p ++ [i]) = sp.at [i] ∧ s.off (p ++ [i]) = s.off p + sp.off [i] ∧ (s.valid p → sp.valid [i] → s.valid (p ++ [i]))
  | [], s, sp, i, h => by
    have : s = sp := by cases s <;> simpa [Sh.at] using h
    subst this
    refine ⟨rfl, by cases s <;> simp [Sh.off], fun _ h => h⟩
  | j :: p, .leaf, sp, i, h => by simp [Sh.at] at h
  | j :: p, .node ss, sp, i, h => by
    cases hn : nth ss j with
    | none => simp [Sh.at, hn] at h
    | some s =>
      simp only [Sh.at, hn] at h
      obtain ⟨g1, g2, g3⟩ := at_app p s sp i h
      refine ⟨by simp [Sh.at, hn, g1], by simp [Sh.off, hn, g2, Nat.add_assoc], fun hv hi => ?_⟩
      simp only [Sh.valid, hn, List.cons_append] at hv ⊢
      exact g3 hv hi
  | j :: p, .arr n s, sp, i, h => by
    simp only [Sh.at] at h
    obtain ⟨g1, g2, g3⟩ := at_app p s sp i h
    refine ⟨by simp [Sh.at, g1], by simp [Sh.off, g2, Nat.add_assoc], fun hv hi => ?_⟩
    simp only [Sh.valid, List.cons_append] at hv ⊢
    exact ⟨hv.1, g3 hv.2 hi⟩

theorem addr_add (b o n : Nat) : (⟨b, o, none⟩ : Addr).add n = ⟨b, o + n, none⟩ := add_at b o n

theorem op_fieldAddr {o : Oper} (hG : GOk P Γ) (hs : Sim φ A σ w) (hf : FrOk φ A fr tmps) {t : TypeId} {x : Operand} {f : Nat} (ho : o.op = .fieldAddr t x f)
    (h : (aop Γ fr σ (.fieldAddr t x f)).gives v σ') : OpRes P φ A σ w (execOp (Act.eval ⟨tmps, d⟩) o) v σ' := by
  simp only [aop] at h
  repeat' split at h
  all_goals first | exact False.elim h | skip
  rename_i T hT _ b p hx _ sh y e hb _ s hsp _ hbq _ fs hk _ ss hsh _ s' hn _ hz
  obtain ⟨rfl, rfl⟩ := h
  have hT := hG.ty _ _ hT
  obtain ⟨k1, k2⟩ := ev_ok (d := d) hf hx
  have hse := beq_sound _ _ hbq
  subst hse
  simp only [AV.ok] at k2
  have hobj := hs.obj b _ hb
  have hshb : (φ b).sh = sh := hobj.1
  rw [hsh] at hsp
  obtain ⟨g1, g2, g3⟩ := at_app p sh (.node ss) f hsp
  have hfit := hT.shape
  rw [hk, hsh] at hfit
  simp only [shapeFits] at hfit
  obtain ⟨ft, i, q1, q2, q3⟩ := fieldsFit_nth fs ss 0 f hfit s' hn
  refine .same hs ?_ ?_
  · obtain ⟨dd, hd, hkd⟩ := hT.run_under w
    rw [hk] at hkd
    cases dd <;> simp [kindOf] at hkd
    rename_i fields
    rw [← hkd, nth_map, nth_eq] at q1
    cases hfl : fields.toList[f]? with
    | none => simp [hfl] at q1
    | some fl =>
      simp only [hfl, Option.map_some, Option.some.injEq, Prod.mk.injEq] at q1
      have hfa : fields[f]? = some fl := by simpa using hfl
      simp only [execOp, ho, k1, conc_ptr, Instr.fieldAt, Sem.run_bind, hd, Result.andThen_ok, hfa, Instr.sureAddr, Sem.run_pure, fieldPlace, sizeOf, typeInfo, run_program]
      rw [q1.2, q2]
      have hne : i.size ≠ 0 := by rw [q3]; intro e; rw [e] at hz; exact absurd hz (by decide)
      simp only [Sem.run_pure, Result.andThen_ok, hne, if_false, addr_add]
      rw [q1.1, hshb, g2]
      simp [Sh.off, hn, Nat.add_assoc]
  · simp only [AV.ok, hshb]
    refine ⟨k2.1, g3 (hshb ▸ k2.2) ?_⟩
    simp [Sh.valid, hn]

/-- A part of a composed value. -/
theorem part_run {t : TypeId} {F : ATy} (hF : TyOk P t F) {y : AV} (hy : HasSh F.sh y) {cs : Array Value} {X Y : List Value} (hc : cs.toList = X ++ y.flat φ ++ Y) (w : World) :
    (part t cs X.length).run P w = .ok (y.conc φ) w := by
  have hl := flat_length (φ := φ) F.sh y hy
  simp only [part, Sem.run_bind, hF.run_agg, Result.andThen_ok]
  have hext : (cs.extract X.length (X.length + F.size)).toList = y.flat φ := by
    rw [Array.toList_extract, List.extract_eq_take_drop, hc, ← hF.size_eq, ← hl]
    simp
  cases hsh : F.sh with
  | leaf =>
    rw [hsh] at hy
    simp only [HasSh] at hy
    simp only [Sh.isLeaf, Bool.not_true, Bool.false_eq_true, if_false]
    have : cs[X.length]? = some (y.conc φ) := by
      rw [← Array.getElem?_toList, hc, flat_scalar hy]
      simp
    simp [this]
  | node ss =>
    simp only [Sh.isLeaf, Bool.not_false, if_true, Sem.run_bind, hF.run_size, Result.andThen_ok, Sem.run_pure]
    rw [hsh] at hy
    cases y <;> simp [HasSh] at hy
    rename_i vs
    have : cs.extract X.length (X.length + F.size) = (AV.flats φ vs).toArray := Array.toList_inj.1 (by rw [hext]; simp [AV.flat])
    rw [this]; rfl
  | arr n s =>
    simp only [Sh.isLeaf, Bool.not_false, if_true, Sem.run_bind, hF.run_size, Result.andThen_ok, Sem.run_pure]
    rw [hsh] at hy
    cases y <;> simp [HasSh] at hy
    rename_i m f
    have : cs.extract X.length (X.length + F.size) = ((List.range m).flatMap fun i => (f i).flat φ).toArray := Array.toList_inj.1 (by rw [hext]; simp [AV.flat])
    rw [this]; rfl

theorem op_field {o : Oper} (hG : GOk P Γ) (hs : Sim φ A σ w) (hf : FrOk φ A fr tmps) {t : TypeId} {x : Operand} {f : Nat} (ho : o.op = .field t x f)
    (h : (aop Γ fr σ (.field t x f)).gives v σ') : OpRes P φ A σ w (execOp (Act.eval ⟨tmps, d⟩) o) v σ' := by
  simp only [aop] at h
  repeat' split at h
  all_goals first | exact False.elim h | skip
  rename_i T hT _ fs hk _ _ ft hfs _ F hF _ ss hsh _ s hn _ hbq _ vs hx _ hfit _ y hy
  obtain ⟨rfl, rfl⟩ := h
  have hT := hG.ty _ _ hT
  have hF := hG.ty _ _ hF
  obtain ⟨k1, k2⟩ := ev_ok (d := d) hf hx
  have hse := beq_sound _ _ hbq
  subst hse
  simp only [AV.ok] at k2
  obtain ⟨y', X, Y, g1, g2, g3, g4, _, _, g7⟩ := nth_split (φ := φ) ss vs f F.sh (fitss_sound _ _ hfit) hn
  rw [hy] at g1; injection g1 with g1; subst g1
  have hfits := hT.shape
  rw [hk, hsh] at hfits
  simp only [shapeFits] at hfits
  obtain ⟨ft', i, q1, q2, q3⟩ := fieldsFit_nth fs ss 0 f hfits F.sh hn
  rw [hfs] at q1
  simp only [Option.some.injEq, Prod.mk.injEq] at q1
  refine .same hs ?_ (g7 φ A k2).1
  obtain ⟨dd, hd, hkd⟩ := hT.run_under w
  rw [hk] at hkd
  cases dd <;> simp [kindOf] at hkd
  rename_i fields
  rw [← hkd, nth_map, nth_eq] at hfs
  cases hfl : fields.toList[f]? with
  | none => simp [hfl] at hfs
  | some fl =>
    simp only [hfl, Option.map_some, Option.some.injEq, Prod.mk.injEq] at hfs
    have hfa : fields[f]? = some fl := by simpa using hfl
    simp only [execOp, ho, k1, conc_strct, Instr.field, Sem.run_bind, hd, Result.andThen_ok, hfa, asAgg, Sem.run_pure]
    rw [hfs.2, hfs.1, q1.1, Nat.zero_add, ← g3]
    rw [part_run hF g2 (by simpa using g4)]
    rfl

theorem sizes_take (k : Nat) : (ss : List Sh) → (∀ s ∈ ss, s.size = k) → (i : Nat) → i ≤ ss.length → Sh.sizes (ss.take i) = i * k
  | _, _, 0, _ => by simp [Sh.sizes]
  | [], _, i + 1, h => by simp at h
  | s :: ss, h, i + 1, hi => by
    simp only [List.take_succ_cons, Sh.sizes]
    rw [sizes_take k ss (fun s hs => h s (by simp [hs])) i (by simpa using hi), h s (by simp), Nat.succ_mul]
    omega

theorem op_indexAddr {o : Oper} (hG : GOk P Γ) (hs : Sim φ A σ w) (hf : FrOk φ A fr tmps) {t : TypeId} {x i : Operand} (ho : o.op = .indexAddr t x i)
    (h : (aop Γ fr σ (.indexAddr t x i)).gives v σ') : OpRes P φ A σ w (execOp (Act.eval ⟨tmps, d⟩) o) v σ' := by
  simp only [aop] at h
  repeat' split at h
  all_goals first | exact False.elim h | skip
  · rename_i k n hi _ T hT _ e hk _ E hE _ b p s len cap hx _ sh y ex hb _ m es hsp _ hbq
    obtain ⟨h0, rfl, rfl⟩ := h
    have hT := hG.ty _ _ hT
    have hE := hG.ty _ _ hE
    obtain ⟨k1, k2⟩ := ev_ok (d := d) hf hx
    obtain ⟨k3, k4⟩ := ev_ok (d := d) hf hi
    have hse := beq_sound _ _ hbq
    subst hse
    simp only [AV.ok] at k2
    obtain ⟨a1, a2, a3, n', es', a4, a5⟩ := k2
    have hobj := hs.obj b _ hb
    have hshb : (φ b).sh = sh := hobj.1
    rw [hshb] at a2 a4
    rw [hsp] at a4; simp only [Option.some.injEq, Sh.arr.injEq] at a4
    obtain ⟨rfl, rfl⟩ := a4
    obtain ⟨g1, g2, g3⟩ := at_app p sh (.arr m E.sh) (s + n.toNat) hsp
    refine .same hs ?_ ?_
    · obtain ⟨dd, hd, hkd⟩ := hT.run_under w
      rw [hk] at hkd
      cases dd <;> simp [kindOf] at hkd
      subst hkd
      simp only [execOp, ho, k1, k3, conc_slice, conc_int, Instr.indexAt, asIntOf, Sem.run_bind, hd, Result.andThen_ok, Sem.run_pure]
      rw [if_pos h0]
      simp only [Sem.run_bind, hE.run_size, Result.andThen_ok, Sem.run_pure, addr_add, conc_ptr, hshb, g2]
      simp only [Sh.off, elemSize, hsp, hE.size_eq, Nat.add_zero, Nat.add_mul, Nat.add_assoc]
    · simp only [AV.ok, hshb]
      refine ⟨a1, g3 a2 ?_⟩
      simp only [Sh.valid, and_true]
      omega
  · rename_i k n hi _ T hT _ m e hk _ E hE _ b p hx _ sh y ex hb _ s hsp _ hbq
    obtain ⟨h0, rfl, rfl⟩ := h
    have hT := hG.ty _ _ hT
    have hE := hG.ty _ _ hE
    obtain ⟨k1, k2⟩ := ev_ok (d := d) hf hx
    obtain ⟨k3, k4⟩ := ev_ok (d := d) hf hi
    have hse := beq_sound _ _ hbq
    subst hse
    simp only [AV.ok] at k2
    have hobj := hs.obj b _ hb
    have hshb : (φ b).sh = sh := hobj.1
    have hfit := hT.shape
    rw [hk] at hfit
    obtain ⟨ie, hie, hie1, _⟩ := hE.info_ex φ
    have hoff : T.sh.off [n.toNat] = n.toNat * E.size ∧ T.sh.valid [n.toNat] := by
      cases hsh : T.sh with
      | leaf => rw [hsh] at hfit; simp [shapeFits] at hfit
      | node ss =>
        rw [hsh] at hfit
        simp only [shapeFits, hie, Bool.and_eq_true] at hfit
        have hlen := Nat.eq_of_beq_eq_true hfit.1
        have hall : ∀ s ∈ ss, s.size = E.size := fun s hs => by
          have := List.all_eq_true.1 hfit.2 s hs
          rw [← hie1]; exact (Nat.eq_of_beq_eq_true this).symm
        have hlt : n.toNat < ss.length := by omega
        have hn : nth ss n.toNat = some ss[n.toNat] := by rw [nth_eq]; simp [hlt]
        refine ⟨?_, by simp [Sh.valid, hn]⟩
        simp only [Sh.off, hn]
        rw [sizes_take E.size ss hall _ (by omega)]
        cases ss[n.toNat] <;> simp
      | arr m' es =>
        rw [hsh] at hfit
        simp only [shapeFits, hie, Bool.and_eq_true] at hfit
        have hm := Nat.eq_of_beq_eq_true hfit.1
        have hsz := Nat.eq_of_beq_eq_true hfit.2
        subst hm
        refine ⟨?_, by simp only [Sh.valid, and_true]; omega⟩
        simp only [Sh.off, ← hie1, hsz]
        cases es <;> simp
    obtain ⟨g1, g2, g3⟩ := at_app p sh T.sh n.toNat hsp
    refine .same hs ?_ ?_
    · obtain ⟨dd, hd, hkd⟩ := hT.run_under w
      rw [hk] at hkd
      cases dd <;> simp [kindOf] at hkd
      obtain ⟨rfl, rfl⟩ := hkd
      simp only [execOp, ho, k1, k3, conc_ptr, conc_int, Instr.indexAt, asIntOf, Sem.run_bind, hd, Result.andThen_ok, Sem.run_pure, Instr.sureAddr]
      rw [if_pos h0]
      simp only [Sem.run_bind, hE.run_size, Result.andThen_ok, Sem.run_pure, addr_add, hshb, g2, hoff.1, Nat.add_assoc]
    · simp only [AV.ok, hshb]
      exact ⟨k2.1, g3 (hshb ▸ k2.2) hoff.2⟩

theorem op_index {o : Oper} (hG : GOk P Γ) (hs : Sim φ A σ w) (hf : FrOk φ A fr tmps) {t : TypeId} {x i : Operand} (ho : o.op = .index t x i)
    (h : (aop Γ fr σ (.index t x i)).gives v σ') : OpRes P φ A σ w (execOp (Act.eval ⟨tmps, d⟩) o) v σ' := by
  simp only [aop] at h
  repeat' split at h
  all_goals first | exact False.elim h | skip
  · rename_i k n hi _ T hT _ hk _ s hx
    obtain ⟨h0, rfl, rfl⟩ := h
    have hT := hG.ty _ _ hT
    obtain ⟨k1, k2⟩ := ev_ok (d := d) hf hx
    obtain ⟨k3, k4⟩ := ev_ok (d := d) hf hi
    refine .same hs ?_ (by simp [AV.ok])
    obtain ⟨dd, hd, hkd⟩ := hT.run_under w
    rw [hk] at hkd
    cases dd <;> simp [kindOf] at hkd
    have hlt : n.toNat < s.length := by omega
    have hg : (ByteArray.mk s.toArray)[n.toNat]? = some s[n.toNat] := by
      rw [getElem?_pos _ _ (by simpa [ByteArray.size] using hlt)]
      rfl
    simp only [execOp, ho, k1, k3, conc_str, conc_int, Instr.index, asIntOf, Sem.run_bind, hd, Result.andThen_ok, Sem.run_pure, h0.1, if_true, hg]
    simp [List.getD, hlt]
  · rename_i k n hi _ T hT _ m e hk _ E hE _ vs hx _ ss hsh _ hfit _ y hy _ s hn _ hbq
    obtain ⟨h0, rfl, rfl⟩ := h
    have hT := hG.ty _ _ hT
    have hE := hG.ty _ _ hE
    obtain ⟨k1, k2⟩ := ev_ok (d := d) hf hx
    obtain ⟨k3, k4⟩ := ev_ok (d := d) hf hi
    have hse := beq_sound _ _ hbq
    subst hse
    simp only [AV.ok] at k2
    obtain ⟨y', X, Y, g1, g2, g3, g4, _, _, g7⟩ := nth_split (φ := φ) ss vs n.toNat E.sh (fitss_sound _ _ hfit) hn
    rw [hy] at g1; injection g1 with g1; subst g1
    have hfits := hT.shape
    obtain ⟨ie, hie, hie1, _⟩ := hE.info_ex φ
    rw [hk, hsh] at hfits
    simp only [shapeFits, hie, Bool.and_eq_true] at hfits
    have hlen := Nat.eq_of_beq_eq_true hfits.1
    have hall : ∀ s ∈ ss, s.size = E.size := fun s hs => by
      have := List.all_eq_true.1 hfits.2 s hs
      rw [← hie1]; exact (Nat.eq_of_beq_eq_true this).symm
    have hlt : n.toNat < ss.length := by
      rw [nth_eq] at hn; exact (List.getElem?_eq_some_iff.1 hn).1
    refine .same hs ?_ (g7 φ A k2).1
    obtain ⟨dd, hd, hkd⟩ := hT.run_under w
    rw [hk] at hkd
    cases dd <;> simp [kindOf] at hkd
    obtain ⟨rfl, rfl⟩ := hkd
    simp only [execOp, ho, k1, k3, conc_strct, conc_int, Instr.index, asIntOf, Sem.run_bind, hd, Result.andThen_ok, Sem.run_pure]
    rw [if_pos (by omega)]
    simp only [Sem.run_bind, hE.run_size, Result.andThen_ok]
    rw [← sizes_take E.size ss hall n.toNat (by omega), ← g3]
    rw [part_run hE g2 (by simpa using g4)]
    rfl

end Go.Ab
