/- Walks, first part: the words of a fraction. Conditions: none. -/
import Derived.Test.YtanifbomohnefaaDoorEnw
import Derived.Test.YtanifbomohnefaaDoorPlans
namespace Go.Ab
open Go Go.Proofs
set_option maxRecDepth 100000
attribute [local irreducible] AW ACalls

def s24 : SpecFn := fun l σ => match l with
  | [.int .u16 x] => some (some (0 ≤ x ∧ x < 65536), .int .i64 (wordV x), σ)
  | _ => none

theorem s24_ok : SpecAt Tryd.prog 24 s24 := by
  intro l σ p v σ' h hp
  unfold s24 at h
  split at h
  · rename_i x
    injection h with h; injection h with h1 h; injection h with h2 h3
    subst h1; subst h2; subst h3
    exact ACalls.pure (Q := fun v => v = .int .i64 (wordV x)) (h0 := []) rfl rfl (t24 x (hp _ rfl)) (fun v hv => by subst hv; rfl) (fun _ _ h => by simp [hget] at h)
  · cases h

noncomputable def Γ1 : Env := Γd (.node 24 s24 .nil .nil)
theorem Γ1_ok : EOk Tryd.prog Γ1 := Γd_ok ⟨s24_ok, trivial, trivial⟩

theorem wordV_le (x : Int) : -16383 ≤ wordV x ∧ wordV x ≤ 16383 := by
  unfold wordV
  split <;> omega

theorem t18 (x y : Int) (hx : 0 ≤ x ∧ x < 65536) (hy : 0 ≤ y ∧ y < 65536) : ACalls Tryd.prog 18 [.strct [.int .u16 x, .int .u16 y]] ⟨4, []⟩ fun v _ => v = .int .i64 (wordV x * 16384 + wordV y) := by
  refine .of_run Γ1_ok 1000 (F := Tryd.f18) rfl rfl ?_
  conv => whnf
  refine AW.draw Γ1_ok (pl := pld18_1) (by kernel_rfl) ?_
  conv => whnf
  repeat' (refine And.intro ?_ ?_)
  all_goals try omega
  all_goals
    conv => whnf
  all_goals try trivial
  refine arun_sound Γ1_ok.g Γ1_ok.s 1000 _ ?_
  conv => whnf
  have h1 := wordV_le x
  have h2 := wordV_le y
  simp only [packResults, IntKind.wrap_i64]
  congr 1
  omega
end Go.Ab
