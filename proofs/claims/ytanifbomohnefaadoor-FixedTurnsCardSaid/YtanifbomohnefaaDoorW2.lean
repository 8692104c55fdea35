/- Walks, second part. Conditions: none. -/
import Derived.Test.YtanifbomohnefaaDoorW1
namespace Go.Ab
open Go Go.Proofs
set_option maxRecDepth 100000
attribute [local irreducible] AW ACalls

/-- Word of the reference. -/
theorem t16 (x : Int) (hx : 0 ≤ x ∧ x < 65536) : ACalls Tryd.prog 16 [.int .u16 x] ⟨4, []⟩ fun v _ => v = .int .i64 (wordV x) := by
  refine .of_run (Γd_ok (t := .nil) trivial) 1000 (F := Tryd.f16) rfl rfl ?_
  conv => whnf
  refine And.intro (by decide) ?_
  conv => whnf
  refine br (fun hb => ?_) (fun hb => ?_)
  all_goals
    conv => whnf
  all_goals
    simp only [packResults, IntKind.wrap_i64, decide_eq_true_eq, decide_eq_false_iff_not, wordV] at hb ⊢
    congr 1
    rw [show (x + 9223372036854775808) % 18446744073709551616 - 9223372036854775808 = x by omega, Int.tmod_eq_emod_of_nonneg hx.1] at *
    split <;> omega

def bnd (a b : Int) : Int := if a > b then b else if a < -b then -b else a

/-- bounded. -/
theorem t26 (a b : Int) (hb : 0 ≤ b ∧ b < 2 ^ 62) : ACalls Tryd.prog 26 [.int .i64 a, .int .i64 b] ⟨4, []⟩ fun v _ => v = .tuple [.int .i64 (bnd a b), .bool (decide (a > b ∨ a < -b))] := by
  refine .of_run (Γd_ok (t := .nil) trivial) 1000 (F := Tryd.f26) rfl rfl ?_
  conv => whnf
  refine br (fun h1 => ?_) (fun h1 => ?_)
  · conv => whnf
    simp only [decide_eq_true_eq] at h1
    simp [packResults, bnd, h1]
  · conv => whnf
    refine br (fun h2 => ?_) (fun h2 => ?_)
    all_goals
      conv => whnf
    all_goals
      simp only [packResults, IntKind.wrap_i64, decide_eq_true_eq, decide_eq_false_iff_not] at h1 h2 ⊢
      rw [show (0 - b + 9223372036854775808) % 18446744073709551616 - 9223372036854775808 = -b by omega] at *
      simp [bnd, h1, h2]
end Go.Ab
