/- The abstract machine: the model's operations do what the abstract ones say (sixth part: literals of slices, make, slice expressions). Conditions: none. -/
import Derived.Test.YtanifbomohnefaaDoorAb8
namespace Go.Ab
open Go

variable {P : Program} {Γ : Env} {φ : Phi} {A : Nat → Prop} {σ σ' : AState} {w : World} {fr : AFr} {tmps : Array Value} {d : List Deferred} {v : AV}

theorem flats_repl (φ : Phi) (z : AV) : (n : Nat) → AV.flats φ (repl n z) = (List.range n).flatMap fun _ => z.flat φ
  | 0 => rfl
  | n + 1 => by
    rw [List.range_succ_eq_map, List.flatMap_cons]
    simp only [repl, AV.flats, flats_repl φ z n]
    simp [List.flatMap_map]

theorem range_cells (z : Array Value) : (n : Nat) → (List.range (n * z.size)).map (fun j => z[j % z.size]!) = (List.range n).flatMap fun _ => z.toList
  | 0 => by simp
  | n + 1 => by
    rw [Nat.succ_mul, List.range_add, List.map_append, range_cells z n, List.range_succ, List.flatMap_append]
    congr 1
    simp only [List.map_map, List.flatMap_cons, List.flatMap_nil, List.append_nil]
    apply List.ext_getElem
    · simp
    · intro i h1 h2
      simp at h1
      simp only [List.getElem_map, List.getElem_range, Function.comp]
      rw [Nat.mul_comm, Nat.mul_add_mod, Nat.mod_eq_of_lt h1]
      simp [h1]

/-- The cells of n zero values. -/
theorem zero_cells {E : ATy} {e : TypeId} (hE : TyOk P e E) (n : Nat) (φ : Phi) :
    ∃ z : Array Value, (n * E.size = 0 → z = #[]) ∧ (n * E.size ≠ 0 → z = (E.zero.conc φ).cells) ∧
      ((Array.range (n * E.size)).map (z[· % z.size]!)).toList = (List.range n).flatMap fun _ => E.zero.flat φ := by
  have hl := flat_length (φ := φ) E.sh E.zero hE.zero
  rw [hE.size_eq] at hl
  have hc := conc_cells (φ := φ) E.zero hE.zero.form
  by_cases h : n * E.size = 0
  · refine ⟨#[], fun _ => rfl, fun e => absurd h e, ?_⟩
    rw [h]
    symm
    rw [Nat.mul_eq_zero] at h
    rcases h with rfl | h
    · simp
    · have : E.zero.flat φ = [] := List.length_eq_zero_iff.1 (by omega)
      simp [this]
  · refine ⟨(E.zero.conc φ).cells, fun e => absurd e h, fun _ => rfl, ?_⟩
    have hsz : (E.zero.conc φ).cells.size = E.size := by rw [← Array.length_toList, hc, hl]
    rw [Array.toList_map, Array.toList_range, ← hsz, range_cells, hc]

theorem hasL_repl {s : Sh} {z : AV} (h : HasSh s z) : (n : Nat) → HasShL (List.replicate n s) (repl n z)
  | 0 => by simp [repl, HasShL]
  | n + 1 => by simp [repl, List.replicate_succ, HasShL, h, hasL_repl h n]

theorem oks_repl {z : AV} (h : z.ok φ A) : (n : Nat) → AV.oks φ A (repl n z)
  | 0 => by simp [repl, AV.oks]
  | n + 1 => by simp [repl, AV.oks, h, oks_repl h n]

theorem listFn_ok (dv : AV) (s : Sh) : (n : Nat) → (l : List AV) → HasShL (List.replicate n s) l →
    (∀ φ, (List.range n).flatMap (fun i => (listFn dv l i).flat φ) = AV.flats φ l) ∧ (∀ i, i < n → HasSh s (listFn dv l i)) ∧ (∀ φ A, AV.oks φ A l → ∀ i, i < n → (listFn dv l i).ok φ A)
  | 0, [], _ => by simp [AV.flats]
  | 0, _ :: _, h => by simp [HasShL] at h
  | n + 1, [], h => by simp [List.replicate_succ, HasShL] at h
  | n + 1, v :: l, h => by
    simp only [List.replicate_succ, HasShL] at h
    obtain ⟨h1, h2, h3⟩ := listFn_ok dv s n l h.2
    refine ⟨fun φ => ?_, fun i hi => ?_, fun φ A ho i hi => ?_⟩
    · rw [List.range_succ_eq_map, List.flatMap_cons, List.flatMap_map]
      simp only [listFn, AV.flats, h1]
    · cases i with
      | zero => exact h.1
      | succ i => exact h2 i (by omega)
    · simp only [AV.oks] at ho
      cases i with
      | zero => exact ho.1
      | succ i => exact h3 φ A ho.2 i (by omega)

theorem partsFitE_sound (n : Nat) (s : Sh) : (ps : List (Nat × AV)) → partsFitE n s ps = true → ∀ p ∈ ps, ∃ s', nth (List.replicate n s) p.1 = some s' ∧ HasSh s' p.2
  | [], _ => by simp
  | (i, v) :: r, h => by
    simp only [partsFitE, Bool.and_eq_true] at h
    intro p hp
    rcases List.mem_cons.1 hp with rfl | hp
    · refine ⟨s, ?_, fits_sound _ _ h.2.1⟩
      have := Nat.le_of_ble_eq_true h.1
      rw [nth_eq, List.getElem?_replicate, if_pos (Nat.lt_of_succ_le this)]
    · exact partsFitE_sound n s r h.2.2 p hp

theorem slice_new {nx n m : Nat} {spare : Nat} {s : Sh} {blk : Nat} : (AV.slice nx [] 0 n m).conc (upd φ nx ⟨blk, 0, spare, .arr m s⟩) = .slice (some ⟨blk, 0, none⟩) n (m + spare) := by
  simp [upd, Sh.off, spareOf]

theorem slice_new_ok {nx n m : Nat} {spare : Nat} {s : Sh} {blk : Nat} (h : n ≤ m) : (AV.slice nx [] 0 n m).ok (upd φ nx ⟨blk, 0, spare, .arr m s⟩) (fun b => A b ∨ b = nx) := by
  simp only [AV.ok, upd, if_true]
  exact ⟨by simp, trivial, h, m, s, rfl, by omega⟩

theorem op_buildSlice {o : Oper} (hG : GOk P Γ) (hs : Sim φ A σ w) (hf : FrOk φ A fr tmps) {t : TypeId} {n : Nat} {parts : Array (Nat × Operand)} (ho : o.op = .buildSlice t n parts)
    (h : (aop Γ fr σ (.buildSlice t n parts)).gives v σ') : OpRes P φ A σ w (execOp (Act.eval ⟨tmps, d⟩) o) v σ' := by
  obtain ⟨nx, hp⟩ := σ
  simp only [aop] at h
  repeat' split at h
  all_goals first | exact False.elim h | skip
  rename_i T hT _ e hk _ E hE _ ps hps _ hfit _ hble
  obtain ⟨rfl, rfl⟩ := h
  have hT := hG.ty _ _ hT
  have hE := hG.ty _ _ hE
  obtain ⟨k1, k2⟩ := evParts_ok (d := d) hf hps
  have hpf := partsFitE_sound n E.sh ps hfit
  have hparts : (parts.map fun (i, x) => (i, Act.eval ⟨tmps, d⟩ x)).toList = ps.map (fun p => (p.1, p.2.conc φ)) := by
    rw [Array.toList_map]; exact k1
  obtain ⟨z, hz0, hz1, hz2⟩ := zero_cells hE n φ
  obtain ⟨cells', q1, q2, q3⟩ := fill_run (φ := φ) (fun i => some (i * E.size, E.size)) (List.replicate n E.sh) (fun i s hn => by
    rw [nth_eq] at hn
    have hlt : i < n := by simpa using (List.getElem?_eq_some_iff.1 hn).1
    have hse : s = E.sh := List.eq_of_mem_replicate (List.mem_of_getElem? hn)
    subst hse
    rw [sizes_take E.size _ (fun s hs => by rw [List.eq_of_mem_replicate hs, hE.size_eq]) i (by simp; omega), hE.size_eq]) ps (repl n E.zero) _ (hasL_repl hE.zero n) hpf (by rw [hz2, flats_repl])
  obtain ⟨f1, f2, f3⟩ := listFn_ok .undef E.sh n _ q3
  have hoks := oks_setParts (φ := φ) (A := A) ps _ (oks_repl (hE.ok φ A) n) k2
  obtain ⟨s1, s2, s3⟩ := alloc_mem hs (sh := .arr n E.sh) (y := .arr n (listFn .undef (setParts (repl n E.zero) ps))) (by simp only [HasSh]; exact ⟨trivial, f2⟩) (by simp only [AV.ok]; exact f3 φ A hoks)
    cells' [] (by rw [q2, List.append_nil]; simp only [AV.flat]; rw [f1]) e .tight 0 (fun _ => rfl) (by simp)
  refine ⟨_, _, _, .value ((AV.slice nx [] 0 n n).conc (upd φ nx ⟨w.heap.size, 0, 0, .arr n E.sh⟩)), ?_, .inl rfl, slice_new_ok (Nat.le_refl _), s1, s2⟩
  rw [slice_new]
  obtain ⟨dd, hd, hkd⟩ := hT.run_under w
  rw [hk] at hkd
  cases dd <;> simp [kindOf] at hkd
  subst hkd
  have hb := Nat.le_of_ble_eq_true hble
  simp only [execOp, ho, Instr.buildSlice, Sem.run_bind, hd, Result.andThen_ok, hE.run_size, hparts]
  rw [if_neg (by omega)]
  by_cases hz : n * E.size = 0
  · rw [hz0 hz] at q1
    simp only [hz, if_true]
    rw [hz] at q1
    simp only [Sem.run_bind, Sem.run_pure, Result.andThen_ok, q1, newRow, run_newObj, World.alloc_eq, Nat.add_zero]
  · rw [hz1 hz] at q1
    simp only [hz, if_false, Sem.run_bind, Sem.run_pure, Result.andThen_ok, hE.run_zero φ, q1, newRow, run_newObj, World.alloc_eq, Nat.add_zero]

theorem op_makeSlice {o : Oper} (hG : GOk P Γ) (hs : Sim φ A σ w) (hf : FrOk φ A fr tmps) {t : TypeId} {x y : Operand} (ho : o.op = .makeSlice t x y)
    (h : (aop Γ fr σ (.makeSlice t x y)).gives v σ') : OpRes P φ A σ w (execOp (Act.eval ⟨tmps, d⟩) o) v σ' := by
  obtain ⟨nx, hp⟩ := σ
  simp only [aop] at h
  repeat' split at h
  all_goals first | exact False.elim h | skip
  rename_i T hT _ e hk _ E hE _ kl n hl _ km m hm
  obtain ⟨⟨h0, h1, h2⟩, rfl, rfl⟩ := h
  have hT := hG.ty _ _ hT
  have hE := hG.ty _ _ hE
  obtain ⟨k1, _⟩ := ev_ok (d := d) hf hl
  obtain ⟨k3, _⟩ := ev_ok (d := d) hf hm
  have hroom : m * (E.bytes + 1) ≤ 35184372088832 := by simpa [room] using h2
  have hm2 : m ≤ 35184372088832 := by
    have : m * 1 ≤ m * ((E.bytes : Int) + 1) := Int.mul_le_mul_of_nonneg_left (by omega) (by omega)
    omega
  have hbm : (E.bytes : Int) * m ≤ 35184372088832 := by
    have e1 : m * ((E.bytes : Int) + 1) = E.bytes * m + m := by rw [Int.mul_add, Int.mul_one, Int.mul_comm]
    omega
  have hbn : (E.bytes : Int) * n ≤ 35184372088832 := by
    have : (E.bytes : Int) * n ≤ E.bytes * m := Int.mul_le_mul_of_nonneg_left h1 (by omega)
    omega
  have hwr : ∀ i : Int, 0 ≤ i → i ≤ 35184372088832 → IntKind.i64.wrap i = i := by
    intro i a b
    have e1 : i % (2 : Int) ^ 64 = i := Int.emod_eq_of_lt a (by omega)
    simp only [IntKind.wrap, IntKind.bits, IntKind.signed, e1]
    rw [if_neg]
    simp
    omega
  obtain ⟨z, hz0, hz1, hz2⟩ := zero_cells hE m.toNat φ
  obtain ⟨s1, s2, s3⟩ := alloc_mem hs (sh := .arr m.toNat E.sh) (y := .arr m.toNat (fun _ => E.zero)) (by simp only [HasSh]; exact ⟨trivial, fun _ _ => hE.zero⟩) (by simp only [AV.ok]; exact fun _ _ => hE.ok φ A)
    ((Array.range (m.toNat * E.size)).map (z[· % z.size]!)) [] (by rw [hz2, List.append_nil]; simp only [AV.flat]) e .tight 0 (fun _ => rfl) (by simp)
  refine ⟨_, _, _, .value ((AV.slice nx [] 0 n.toNat m.toNat).conc (upd φ nx ⟨w.heap.size, 0, 0, .arr m.toNat E.sh⟩)), ?_, .inl rfl, slice_new_ok (by omega), s1, s2⟩
  rw [slice_new]
  obtain ⟨dd, hd, hkd⟩ := hT.run_under w
  rw [hk] at hkd
  cases dd <;> simp [kindOf] at hkd
  subst hkd
  obtain ⟨i, hi, _, hib, _⟩ := hE.run_info φ w
  simp only [execOp, ho, k1, k3, conc_int, Instr.makeSlice, asInt, asIntOf, Sem.run_bind, Sem.run_pure, hd, Result.andThen_ok, hi, hib, hwr n h0 (by omega), hwr m (by omega) hm2]
  rw [if_neg]
  · simp only [Sem.run_bind, run_askRoom, Result.andThen_ok, hE.run_size]
    by_cases hz : m.toNat * E.size = 0
    · rw [hz0 hz]
      simp only [hz, if_true, Sem.run_bind, Sem.run_pure, Result.andThen_ok, newRow, run_newObj, World.alloc_eq, Nat.add_zero]
    · rw [hz1 hz]
      simp only [hz, if_false, Sem.run_bind, Sem.run_pure, Result.andThen_ok, hE.run_zero φ, newRow, run_newObj, World.alloc_eq, Nat.add_zero]
  · simp only [Bool.or_eq_true, decide_eq_true_eq]
    omega

end Go.Ab
