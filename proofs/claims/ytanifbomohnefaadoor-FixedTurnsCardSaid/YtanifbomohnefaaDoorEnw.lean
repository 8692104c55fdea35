/- The environment of the abstract machine for the translated program: that it is sound. Conditions: none. -/
import Derived.Test.YtanifbomohnefaaDoorEnv
import Derived.Laws.BitsAllLaws
import Derived.Laws.BitsLemmas
import Derived.Laws.StructEq
namespace Go.Ab
open Go Go.Proofs
set_option maxRecDepth 100000

theorem eqItems_words {P : Program} {e : TypeId} {k0 : IntKind} (he : P.underlying e = some (.int k0)) (hc : P.cellsOf e = 1) (φ : Phi) (w : World) (d : Nat) :
    (n : Nat) → (xs ys : List AV) → (off : Nat) → (pre pre' : List Value) → pre.length = off → pre'.length = off → (k : IntKind) → (z : Int) → AV.alikes (List.replicate n (.int k z)) xs = true → AV.alikes (List.replicate n (.int k z)) ys = true → (r : Bool) → AV.eqBs xs ys = some r →
    (Op.eqItems (d + 1) e (P.cellsOf e) (pre ++ AV.flats φ xs).toArray (pre' ++ AV.flats φ ys).toArray (List.range' off n)).run P w = .ok r w
  | 0, [], [], off, pre, pre', _, _, k, z, _, _, r, hr => by simp [AV.eqBs] at hr; subst hr; simp [Op.eqItems]
  | n + 1, x :: xs, y :: ys, off, pre, pre', hp, hp', k, z, hx, hy, r, hr => by
    simp only [List.replicate_succ, AV.alikes, Bool.and_eq_true] at hx hy
    cases x <;> simp [AV.alike] at hx
    cases y <;> simp [AV.alike] at hy
    rename_i k1 a k2 b
    have e1 : k1 = k := by cases k <;> cases k1 <;> simp [kindEq] at hx <;> rfl
    have e2 : k2 = k := by cases k <;> cases k2 <;> simp [kindEq] at hy <;> rfl
    subst e1; subst e2
    have hk : kindEq k2 k2 = true := by cases k2 <;> rfl
    simp only [AV.eqBs, AV.eqB, hk] at hr
    cases hrest : AV.eqBs xs ys with
    | none => simp [hrest] at hr
    | some r' =>
      simp only [hrest, Option.some.injEq] at hr
      subst hr
      have ih := eqItems_words he hc φ w d n xs ys (off + 1) (pre ++ [.int k2 a]) (pre' ++ [.int k2 b]) (by simp [hp]) (by simp [hp']) k2 z hx.2 hy.2 r' hrest
      have hpl : P.plainKey e = true := by simp [Program.plainKey, he]
      rw [List.range'_succ]
      simp only [Op.eqItems, hc, Nat.mul_one, Sem.run_bind]
      have g1 : (pre ++ AV.flats φ (.int k2 a :: xs)).toArray[off]? = some (.int k2 a) := by simp [AV.flats, AV.flat, ← hp]
      have g2 : (pre' ++ AV.flats φ (.int k2 b :: ys)).toArray[off]? = some (.int k2 b) := by simp [AV.flats, AV.flat, ← hp']
      rw [run_part_plain _ hpl g1, Result.andThen_ok, run_part_plain _ hpl g2, Result.andThen_ok, run_equalIn_int _ _ _ _ _ _ _ he, Result.andThen_ok]
      cases hab : (a == b)
      · simp
      · simp only [AV.flats, AV.flat, List.append_assoc, List.singleton_append, List.cons_append, List.nil_append] at ih ⊢
        simp only [Bool.true_and, if_true]
        rw [hc] at ih
        exact ih
  | n + 1, [], _, _, _, _, _, _, _, _, hx, _, _, _ => by simp [List.replicate_succ, AV.alikes] at hx
  | n + 1, _ :: _, [], _, _, _, _, _, _, _, _, hy, _, _ => by simp [List.replicate_succ, AV.alikes] at hy
  | 0, _ :: _, _, _, _, _, _, _, _, _, hx, _, _, _ => by simp [AV.alikes] at hx
  | 0, [], _ :: _, _, _, _, _, _, _, _, _, hy, _, _ => by simp [AV.alikes] at hy

/-- An array of words: equality. -/
theorem equal_words {P : Program} {t e : TypeId} {n : Nat} {k0 : IntKind} (hu : P.underlying t = some (.array n e)) (hi : (P.info? e).isSome = true) (hc : P.cellsOf e = 1)
    (he : P.underlying e = some (.int k0)) (k : IntKind) (z : Int) (xs ys : List AV)
    (ha : AV.alikes (List.replicate n (.int k z)) xs = true) (hb : AV.alikes (List.replicate n (.int k z)) ys = true) (r : Bool) (hr : AV.eqBs xs ys = some r) (φ : Phi) (w : World) :
    (Op.equal t ((AV.strct xs).conc φ) ((AV.strct ys).conc φ)).run P w = .ok r w := by
  obtain ⟨i, hi⟩ := Option.isSome_iff_exists.1 hi
  simp only [conc_strct, Op.equal, Op.maxDepth]
  rw [run_equalIn_array w 9999 _ _ hu hi, List.range_eq_range']
  exact eqItems_words he hc φ w 9998 n xs ys 0 [] [] rfl rfl k z ha hb r hr

noncomputable def Γd (t : Tab SpecFn) : Env := ⟨tdtys, tdfns, t, [], [25, 39]⟩

theorem Γd_g (t : Tab SpecFn) : GOk Tryd.prog (Γd t) where
  ty := fun t T h => tys_get tdtys_ok t T h
  fn := fun f F h => let ⟨h1, h2, h3, _⟩ := fns_get tdfns_ok f F h; ⟨h1, h2, h3⟩
  meth := fun t name f h => by simp [Γd, findMeth] at h
  mixed := by kernel_rfl
  eqt := fun t hm T hT => by
    have ht : t = 25 ∨ t = 39 := by
      have := (memB_iff (l := [25, 39])).1 hm
      simpa using this
    rcases ht with rfl | rfl
    · have hT : T = tdty25 := by injection hT with h; exact h.symm
      subst hT
      exact ⟨by kernel_rfl, fun xs ys r hx hy hr φ w => equal_words (n := 2) (e := 23) (k0 := .u16) (by kernel_rfl) (by kernel_rfl) (by kernel_rfl) (by kernel_rfl) .u16 0 xs ys hx hy r hr φ w⟩
    · have hT : T = tdty39 := by injection hT with h; exact h.symm
      subst hT
      exact ⟨by kernel_rfl, fun xs ys r hx hy hr φ w => equal_words (n := 3) (e := 23) (k0 := .u16) (by kernel_rfl) (by kernel_rfl) (by kernel_rfl) (by kernel_rfl) .u16 0 xs ys hx hy r hr φ w⟩

theorem Γd_ok {t : Tab SpecFn} (h : Specs Tryd.prog t) : EOk Tryd.prog (Γd t) where
  g := Γd_g t
  s := fun f s hf => specs_get h f s hf
  b := fun f F h => (fns_get tdfns_ok f F h).2.2.2

/-- The word's value. -/
def wordV (x : Int) : Int := if x % 32768 ≥ 16384 then x % 32768 - 32767 else x % 32768

theorem and15 (x : Int) (hx : 0 ≤ x ∧ x < 65536) : ((BitVec.ofInt IntKind.u16.bits x &&& BitVec.ofInt IntKind.u16.bits 32767).toNat : Int) = x % 32768 := by
  obtain ⟨n, rfl⟩ := Int.eq_ofNat_of_zero_le hx.1
  show ((BitVec.ofInt 16 (n : Int) &&& BitVec.ofInt 16 32767).toNat : Int) = _
  have h1 : BitVec.ofInt 16 (n : Int) = BitVec.ofNat 16 n := by simp
  have h2 : BitVec.ofInt 16 32767 = BitVec.ofNat 16 (2 ^ 15 - 1) := by decide
  rw [h1, h2, BitVec.toNat_and, BitVec.toNat_ofNat, BitVec.toNat_ofNat, Nat.mod_eq_of_lt (a := n) (by omega), Nat.mod_eq_of_lt (a := 2 ^ 15 - 1) (by decide), Nat.and_two_pow_sub_one_eq_mod]
  omega

theorem t24 (x : Int) (hx : 0 ≤ x ∧ x < 65536) : ACalls Tryd.prog 24 [.int .u16 x] ⟨4, []⟩ fun v _ => v = .int .i64 (wordV x) := by
  refine .of_run (Γd_ok (t := .nil) trivial) 1000 (F := Tryd.f24) rfl rfl ?_
  conv => whnf
  refine br (fun hb => ?_) (fun hb => ?_)
  all_goals
    conv => whnf
  all_goals
    simp only [packResults, and15 x hx, IntKind.wrap_u16, IntKind.wrap_i64, decide_eq_true_eq, decide_eq_false_iff_not, wordV] at hb ⊢
    congr 1
    split <;> omega
end Go.Ab
