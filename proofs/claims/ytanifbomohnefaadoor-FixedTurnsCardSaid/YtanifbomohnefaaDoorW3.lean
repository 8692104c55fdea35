/- Walks, third part: the rounded quotient. Conditions: none. -/
import Derived.Test.YtanifbomohnefaaDoorW2
namespace Go.Ab
open Go Go.Proofs
set_option maxRecDepth 100000
attribute [local irreducible] AW ACalls

def quoN (a b : Int) : Int := if a % b ≥ b - a % b then a / b + 1 else a / b
def quoV (a b : Int) : Int := if a < 0 then -quoN (-a) b else quoN a b

theorem i64_wrap (n : Int) (h : -9223372036854775808 ≤ n ∧ n ≤ 9223372036854775807) : IntKind.i64.wrap n = n := by rw [IntKind.wrap_i64]; omega

/-- The rounded quotient of a number that is not negative. -/
theorem t20n (σ : AState) (a b : Int) (ha : 0 ≤ a ∧ a < 2 ^ 62) (hb : 0 < b ∧ b < 2 ^ 62) : ACalls Tryd.prog 20 [.int .i64 a, .int .i64 b] σ fun v σ' => v = .int .i64 (quoN a b) ∧ σ' = σ := by
  have hm1 := Int.emod_nonneg a (b := b) (by omega)
  have hm2 := Int.emod_lt_of_pos a hb.1
  have hd1 : 0 ≤ a / b := Int.ediv_nonneg ha.1 (by omega)
  have hd2 : a / b ≤ a := Int.ediv_le_self b ha.1
  have e1 : a.tdiv b = a / b := Int.tdiv_eq_ediv_of_nonneg ha.1
  have e2 : a.tmod b = a % b := Int.tmod_eq_emod_of_nonneg ha.1
  refine .of_run (Γd_ok (t := .nil) trivial) 1000 (F := Tryd.f20) rfl rfl ?_
  conv => whnf
  refine br (fun h1 => absurd h1 (by simp; omega)) (fun h1 => ?_)
  conv => whnf
  refine AW.draw (Γd_ok (t := .nil) trivial) (pl := pld20_3) (by kernel_rfl) ?_
  conv => whnf
  repeat' (refine And.intro ?_ ?_)
  all_goals try omega
  all_goals
    conv => whnf
  all_goals try trivial
  refine arun_sound (Γd_g .nil) (Γd_ok (t := .nil) trivial).s 1000 _ ?_
  conv => whnf
  refine br (fun h2 => ?_) (fun h2 => ?_)
  all_goals
    conv => whnf
  all_goals
    simp only [e1, e2, decide_eq_true_eq, decide_eq_false_iff_not] at h2 ⊢
    rw [i64_wrap (b - a % b) (by omega)] at h2
    rw [i64_wrap (a / b) (by omega)]
    refine ⟨?_, rfl⟩
    simp only [packResults, quoN, h2, if_true, if_false]
  rw [i64_wrap (a / b + 1) (by omega)]

theorem t20 (σ : AState) (a b : Int) (ha : -(2 ^ 62) < a ∧ a < 2 ^ 62) (hb : 0 < b ∧ b < 2 ^ 62) : ACalls Tryd.prog 20 [.int .i64 a, .int .i64 b] σ fun v σ' => v = .int .i64 (quoV a b) ∧ σ' = σ := by
  by_cases h0 : a < 0
  · have hm1 := Int.emod_nonneg (-a) (b := b) (by omega)
    have hm2 := Int.emod_lt_of_pos (-a) hb.1
    have hd1 : 0 ≤ -a / b := Int.ediv_nonneg (by omega) (by omega)
    have hd2 : -a / b ≤ -a := Int.ediv_le_self b (by omega)
    have hq : 0 ≤ quoN (-a) b ∧ quoN (-a) b ≤ -a + 1 := by unfold quoN; split <;> omega
    refine .of_run (Γd_ok (t := .nil) trivial) 1000 (F := Tryd.f20) rfl rfl ?_
    conv => whnf
    refine br (fun h1 => ?_) (fun h1 => absurd h1 (by simp; omega))
    conv => whnf
    rw [i64_wrap (0 - a) (by omega), Int.zero_sub]
    refine (t20n _ (-a) b (by omega) hb).mono ?_
    rintro v σ' ⟨rfl, rfl⟩
    refine arun_sound (Γd_g .nil) (Γd_ok (t := .nil) trivial).s 1000 _ ?_
    conv => whnf
    refine ⟨?_, rfl⟩
    simp only [packResults, quoV, h0, if_true]
    rw [i64_wrap _ (by omega), Int.zero_sub]
  · have := t20n σ a b (by omega) hb
    simp only [quoV, h0, if_false]
    exact this
end Go.Ab
