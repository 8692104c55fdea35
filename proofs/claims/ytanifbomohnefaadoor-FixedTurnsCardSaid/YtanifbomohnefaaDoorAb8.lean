/- The abstract machine: the model's operations do what the abstract ones say (fifth part: literals of structs and slices, make, slice expressions). Conditions: none. -/
import Derived.Test.YtanifbomohnefaaDoorAb7
namespace Go.Ab
open Go

variable {P : Program} {Γ : Env} {φ : Phi} {A : Nat → Prop} {σ σ' : AState} {w : World} {fr : AFr} {tmps : Array Value} {d : List Deferred} {v : AV}

theorem fold_set (off : Nat) : ∀ (l : List Value) (k : Nat) (X old Y : List Value) (cells : Array Value), cells.toList = X ++ old ++ Y → X.length = off + k → old.length = l.length →
    ((l.zipIdx k).foldl (fun cs (p : Value × Nat) => cs.setIfInBounds (off + p.2) p.1) cells).toList = X ++ l ++ Y
  | [], k, X, old, Y, cells, h, _, hl => by
    have : old = [] := List.length_eq_zero_iff.1 (by simpa using hl)
    subst this
    simpa using h
  | x :: l, k, X, [], Y, cells, h, hX, hl => by simp at hl
  | x :: l, k, X, o :: old, Y, cells, h, hX, hl => by
    simp only [List.zipIdx_cons, List.foldl_cons]
    have h' : (cells.setIfInBounds (off + k) x).toList = (X ++ [x]) ++ old ++ Y := by
      rw [Array.toList_setIfInBounds, h, ← hX]
      simp
    rw [fold_set off l (k + 1) (X ++ [x]) old Y _ h' (by simp [hX]; omega) (by simpa using hl)]
    simp

theorem fill_run (place : Nat → Option (Nat × Nat)) (ss : List Sh) (hplace : ∀ i s, nth ss i = some s → place i = some (Sh.sizes (ss.take i), s.size)) :
    ∀ (ps : List (Nat × AV)) (vs : List AV) (cells : Array Value), HasShL ss vs → (∀ p ∈ ps, ∃ s, nth ss p.1 = some s ∧ HasSh s p.2) → cells.toList = AV.flats φ vs →
      ∃ cells', Instr.fill place cells (ps.map fun p => (p.1, p.2.conc φ)) = some cells' ∧ cells'.toList = AV.flats φ (setParts vs ps) ∧ HasShL ss (setParts vs ps)
  | [], vs, cells, h, _, hc => ⟨cells, rfl, hc, h⟩
  | (i, v) :: ps, vs, cells, h, hp, hc => by
    obtain ⟨s, hn, hv⟩ := hp (i, v) (by simp)
    obtain ⟨old, X, Y, g1, g2, g3, g4, g5, g6, _⟩ := nth_split (φ := φ) ss vs i s h hn
    have hlen := flat_length (φ := φ) s v hv
    have hold := flat_length (φ := φ) s old g2
    have hcl := conc_cells (φ := φ) v hv.form
    have hsz : (v.conc φ).cells.size = s.size := by rw [← Array.length_toList, hcl, hlen]
    have htot : cells.size = X.length + s.size + Y.length := by
      rw [← Array.length_toList, hc, g4]; simp [hold]; omega
    have hfold : ((v.conc φ).cells.zipIdx.foldl (fun cs (p : Value × Nat) => cs.setIfInBounds (X.length + p.2) p.1) cells).toList = AV.flats φ (setNth vs i v) := by
      rw [← Array.foldl_toList, Array.toList_zipIdx, hcl, fold_set X.length (v.flat φ) 0 X (old.flat φ) Y cells (by rw [hc, g4]) (by simp) (by rw [hlen, hold]), g5]
    obtain ⟨cells', k1, k2, k3⟩ := fill_run place ss hplace ps (setNth vs i v) _ (g6 v hv) (fun p hpm => hp p (by simp [hpm])) hfold
    refine ⟨cells', ?_, k2, k3⟩
    simp only [List.map_cons, Instr.fill, hplace i s hn]
    rw [if_neg (by rw [hsz, ← g3, htot]; simp), ← g3]
    exact k1

theorem evParts_ok (hf : FrOk φ A fr tmps) : {xs : List (Nat × Operand)} → {ps : List (Nat × AV)} → evParts fr xs = some ps →
    (xs.map fun p => (p.1, Act.eval ⟨tmps, d⟩ p.2)) = ps.map (fun p => (p.1, p.2.conc φ)) ∧ ∀ p ∈ ps, p.2.ok φ A
  | [], ps, h => by simp only [evParts, Option.some.injEq] at h; subst h; simp
  | (i, x) :: xs, ps, h => by
    simp only [evParts] at h
    cases h1 : ev fr x with
    | none => simp [h1] at h
    | some v =>
      cases h2 : evParts fr xs with
      | none => simp [h1, h2] at h
      | some r =>
        simp only [h1, h2, Option.some.injEq] at h
        subst h
        obtain ⟨a, b⟩ := ev_ok (d := d) hf h1
        obtain ⟨c, e⟩ := evParts_ok hf h2
        refine ⟨by simp [a, c], fun p hp => ?_⟩
        rcases List.mem_cons.1 hp with rfl | hp
        · exact b
        · exact e p hp

theorem partsFit_sound : (ps : List (Nat × AV)) → (ss : List Sh) → partsFit ps ss = true → ∀ p ∈ ps, ∃ s, nth ss p.1 = some s ∧ HasSh s p.2
  | [], _, _ => by simp
  | (i, v) :: r, ss, h => by
    simp only [partsFit] at h
    cases hn : nth ss i with
    | none => simp [hn] at h
    | some s =>
      simp only [hn, Bool.and_eq_true] at h
      intro p hp
      rcases List.mem_cons.1 hp with rfl | hp
      · exact ⟨s, hn, fits_sound _ _ h.1⟩
      · exact partsFit_sound r ss h.2 p hp

theorem oks_setParts : (ps : List (Nat × AV)) → (vs : List AV) → AV.oks φ A vs → (∀ p ∈ ps, p.2.ok φ A) → AV.oks φ A (setParts vs ps)
  | [], _, h, _ => h
  | (i, v) :: r, vs, h, hp => by
    simp only [setParts]
    refine oks_setParts r _ ?_ (fun p hp' => hp p (by simp [hp']))
    have hv := hp (i, v) (by simp)
    have aux : ∀ (vs : List AV) (i : Nat), AV.oks φ A vs → AV.oks φ A (setNth vs i v) := by
      intro vs
      induction vs with
      | nil => intro i h; simpa [setNth] using h
      | cons x xs ih =>
        intro i h
        simp only [AV.oks] at h
        cases i with
        | zero => simp [setNth, AV.oks, hv, h.2]
        | succ i => simp [setNth, AV.oks, h.1, ih i h.2]
    exact aux vs i h

theorem op_build {o : Oper} (hG : GOk P Γ) (hs : Sim φ A σ w) (hf : FrOk φ A fr tmps) {t : TypeId} {parts : Array (Nat × Operand)} (ho : o.op = .build t parts)
    (h : (aop Γ fr σ (.build t parts)).gives v σ') : OpRes P φ A σ w (execOp (Act.eval ⟨tmps, d⟩) o) v σ' := by
  simp only [aop] at h
  repeat' split at h
  all_goals first | exact False.elim h | skip
  rename_i T hT _ ps hps _ vs hz _ ss hsh _ hfit
  obtain ⟨rfl, rfl⟩ := h
  have hT := hG.ty _ _ hT
  obtain ⟨k1, k2⟩ := evParts_ok (d := d) hf hps
  have hzero := hT.zero
  rw [hz, hsh] at hzero
  simp only [HasSh] at hzero
  have hzok := hT.ok φ A
  rw [hz] at hzok
  simp only [AV.ok] at hzok
  have hpf := partsFit_sound ps ss hfit
  have hzc : (T.zero.conc φ).cells.toList = AV.flats φ vs := by rw [hz]; simp [Value.cells]
  have hparts : (parts.map fun (i, x) => (i, Act.eval ⟨tmps, d⟩ x)).toList = ps.map (fun p => (p.1, p.2.conc φ)) := by
    rw [Array.toList_map]; exact k1
  refine .same hs ?_ (by simp only [AV.ok]; exact oks_setParts ps vs hzok k2)
  obtain ⟨dd, hd, hkd⟩ := hT.run_under w
  have hfits := hT.shape
  rw [hsh] at hfits
  simp only [execOp, ho, Instr.build, Sem.run_bind, hT.run_zero φ, Result.andThen_ok, hd, hparts]
  cases hk : T.kind <;> rw [hk] at hfits hkd <;> simp only [shapeFits] at hfits <;> first | (cases hfits; done) | skip
  case array n e =>
    cases dd <;> simp [kindOf] at hkd
    obtain ⟨rfl, rfl⟩ := hkd
    rename_i n e
    cases hie : P.info? e with
    | none => simp [hie] at hfits
    | some ie =>
      simp only [hie, Bool.and_eq_true] at hfits
      have hall : ∀ s ∈ ss, s.size = ie.size := fun s hs => (Nat.eq_of_beq_eq_true (List.all_eq_true.1 hfits.2 s hs)).symm
      obtain ⟨cells', q1, q2, q3⟩ := fill_run (φ := φ) (fun i => some (i * ie.size, ie.size)) ss (fun i s hn => by
        have hlt : i < ss.length := by rw [nth_eq] at hn; exact (List.getElem?_eq_some_iff.1 hn).1
        rw [sizes_take ie.size ss hall i (by omega), hall s (by rw [nth_eq] at hn; exact List.mem_of_getElem? hn)]) ps vs _ hzero hpf hzc
      simp only [Sem.run_bind, sizeOf, typeInfo, run_program, Result.andThen_ok, hie, Sem.run_pure, q1]
      rw [conc_strct, ← q2]
  case struct fs =>
    cases dd <;> simp [kindOf] at hkd
    rename_i fields
    -- the places of the fields
    have hmap : ∀ (l : List Field) (o : Nat) (ss : List Sh), fieldsFit P o (l.map fun f => (f.offset, f.type)) ss = true →
        ∃ pl : List (Nat × Nat), (l.mapM (m := Sem) fun f => do pure (f.offset, ← sizeOf f.type)).run P w = .ok pl w ∧ ∀ i s, nth ss i = some s → pl[i]? = some (o + Sh.sizes (ss.take i), s.size) := by
      intro l
      induction l with
      | nil =>
        intro o ss hff
        cases ss with
        | nil => exact ⟨[], rfl, fun i s hn => by simp [nth] at hn⟩
        | cons s ss => simp [fieldsFit] at hff
      | cons f l ih =>
        intro o ss hff
        cases ss with
        | nil => simp [fieldsFit] at hff
        | cons s ss =>
          simp only [List.map_cons, fieldsFit, Bool.and_eq_true] at hff
          obtain ⟨⟨h1, h2⟩, h3⟩ := hff
          have h1 := Nat.eq_of_beq_eq_true h1
          obtain ⟨pl, p1, p2⟩ := ih (o + s.size) ss h3
          cases hi : P.info? f.type with
          | none => simp [hi] at h2
          | some i =>
            simp only [hi] at h2
            have h2 := Nat.eq_of_beq_eq_true h2
            refine ⟨(f.offset, i.size) :: pl, ?_, fun j s' hn => ?_⟩
            · simp only [List.mapM_cons, Sem.run_bind, sizeOf, typeInfo, run_program, Result.andThen_ok, hi, Sem.run_pure]
              simp only [sizeOf, typeInfo] at p1
              rw [p1]; rfl
            · cases j with
              | zero =>
                simp only [nth, Option.some.injEq] at hn
                subst hn
                simp [Sh.sizes, h1, h2]
              | succ j =>
                simp only [nth] at hn
                simp [p2 j s' hn, Sh.sizes, Nat.add_assoc]
    rw [← hkd] at hfits
    obtain ⟨pl, p1, p2⟩ := hmap fields.toList 0 ss hfits
    have hmA : (fields.mapM (m := Sem) fun f => do pure (f.offset, ← sizeOf f.type)).run P w = .ok pl.toArray w := by
      have : (fields.mapM (m := Sem) fun f => do pure (f.offset, ← sizeOf f.type)) = List.toArray <$> (fields.toList.mapM (m := Sem) fun f => do pure (f.offset, ← sizeOf f.type)) := by
        exact Array.mapM_eq_mapM_toList
      rw [this, Sem.run_map, p1]; rfl
    obtain ⟨cells', q1, q2, q3⟩ := fill_run (φ := φ) (fun i => pl.toArray[i]?) ss (fun i s hn => by simpa using p2 i s hn) ps vs _ hzero hpf hzc
    simp only [Sem.run_bind, hmA, Result.andThen_ok, q1, Sem.run_pure]
    rw [conc_strct, ← q2]

end Go.Ab
