/- Walks, fifth part: effects of the functions walked so far; Value, Clamp, exactly. Conditions: none. -/
import Derived.Test.YtanifbomohnefaaDoorW4
namespace Go.Ab
open Go Go.Proofs
set_option maxRecDepth 100000
attribute [local irreducible] AW ACalls

def s16 : SpecFn := fun l σ => match l with
  | [.int .u16 x] => some (some (0 ≤ x ∧ x < 65536), .int .i64 (wordV x), σ)
  | _ => none
def s18 : SpecFn := fun l σ => match l with
  | [.strct [.int .u16 x, .int .u16 y]] => some (some ((0 ≤ x ∧ x < 65536) ∧ (0 ≤ y ∧ y < 65536)), .int .i64 (wordV x * 16384 + wordV y), σ)
  | _ => none
def s20 : SpecFn := fun l σ => match l with
  | [.int .i64 a, .int .i64 b] => some (some ((-(2 ^ 62) < a ∧ a < 2 ^ 62) ∧ (0 < b ∧ b < 2 ^ 62)), .int .i64 (quoV a b), σ)
  | _ => none
def s26 : SpecFn := fun l σ => match l with
  | [.int .i64 a, .int .i64 b] => some (some (0 ≤ b ∧ b < 2 ^ 62), .tuple [.int .i64 (bnd a b), .bool (decide (a > b ∨ a < -b))], σ)
  | _ => none
def s28 : SpecFn := fun l σ => match l with
  | [.int .i64 n] => some (some (-(2 ^ 28) < n ∧ n < 2 ^ 28), encV n, σ)
  | _ => none

theorem s16_ok : SpecAt Tryd.prog 16 s16 := by
  intro l σ p v σ' h hp
  unfold s16 at h
  split at h
  · rename_i x
    injection h with h; injection h with h1 h; injection h with h2 h3
    subst h1; subst h2; subst h3
    exact ACalls.pure (Q := fun v => v = .int .i64 (wordV x)) (h0 := []) rfl rfl (t16 x (hp _ rfl)) (fun v hv => by subst hv; rfl) (fun _ _ h => by simp [hget] at h)
  · cases h
theorem s18_ok : SpecAt Tryd.prog 18 s18 := by
  intro l σ p v σ' h hp
  unfold s18 at h
  split at h
  · rename_i x y
    injection h with h; injection h with h1 h; injection h with h2 h3
    subst h1; subst h2; subst h3
    have hp := hp _ rfl
    exact ACalls.pure (Q := fun v => v = .int .i64 (wordV x * 16384 + wordV y)) (h0 := []) rfl rfl (t18 x y hp.1 hp.2) (fun v hv => by subst hv; rfl) (fun _ _ h => by simp [hget] at h)
  · cases h
theorem s20_ok : SpecAt Tryd.prog 20 s20 := by
  intro l σ p v σ' h hp
  unfold s20 at h
  split at h
  · rename_i a b
    injection h with h; injection h with h1 h; injection h with h2 h3
    subst h1; subst h2; subst h3
    have hp := hp _ rfl
    exact t20 σ a b hp.1 hp.2
  · cases h
theorem s26_ok : SpecAt Tryd.prog 26 s26 := by
  intro l σ p v σ' h hp
  unfold s26 at h
  split at h
  · rename_i a b
    injection h with h; injection h with h1 h; injection h with h2 h3
    subst h1; subst h2; subst h3
    exact ACalls.pure (Q := fun v => v = .tuple [.int .i64 (bnd a b), .bool (decide (a > b ∨ a < -b))]) (h0 := []) rfl rfl (t26 a b (hp _ rfl)) (fun v hv => by subst hv; rfl) (fun _ _ h => by simp [hget] at h)
  · cases h
theorem s28_ok : SpecAt Tryd.prog 28 s28 := by
  intro l σ p v σ' h hp
  unfold s28 at h
  split at h
  · rename_i n
    injection h with h; injection h with h1 h; injection h with h2 h3
    subst h1; subst h2; subst h3
    exact ACalls.pure (Q := fun v => v = encV n) (h0 := []) rfl rfl (t28 n (hp _ rfl)) (fun v hv => by subst hv; rfl) (fun _ _ h => by simp [hget] at h)
  · cases h

noncomputable def Γ2 : Env := Γd (.node 20 s20 (.node 16 s16 .nil (.node 18 s18 .nil .nil)) (.node 26 s26 (.node 24 s24 .nil .nil) (.node 28 s28 .nil .nil)))
theorem Γ2_ok : EOk Tryd.prog Γ2 := Γd_ok ⟨s20_ok, ⟨s16_ok, trivial, s18_ok, trivial, trivial⟩, s26_ok, ⟨s24_ok, trivial, trivial⟩, s28_ok, trivial, trivial⟩

theorem bnd_le (a b : Int) (hb : 0 ≤ b) : -b ≤ bnd a b ∧ bnd a b ≤ b := by unfold bnd; split <;> (try split) <;> omega

/-- Value of the reference. -/
theorem t5 (x y : Int) (hx : 0 ≤ x ∧ x < 65536) (hy : 0 ≤ y ∧ y < 65536) : ACalls Tryd.prog 5 [.strct [.int .u16 x, .int .u16 y]] ⟨4, []⟩ fun v _ => v = .int .i64 (wordV x * 16384 + wordV y) := by
  refine .of_run Γ2_ok 1000 (F := Tryd.f5) rfl rfl ?_
  conv => whnf
  refine AW.draw Γ2_ok (pl := pld5_1) (by kernel_rfl) ?_
  conv => whnf
  repeat' (refine And.intro ?_ ?_)
  all_goals try omega
  all_goals
    conv => whnf
  all_goals try trivial
  refine arun_sound Γ2_ok.g Γ2_ok.s 1000 _ ?_
  conv => whnf
  have h1 := wordV_le x
  have h2 := wordV_le y
  simp only [packResults, IntKind.wrap_i64]
  congr 1
  omega

/-- exactly. -/
theorem t19 (n : Int) : ACalls Tryd.prog 19 [.int .i64 n] ⟨4, []⟩ fun v _ => v = encV (bnd n 268435455) := by
  have hb := bnd_le n 268435455 (by omega)
  refine .of_run Γ2_ok 1000 (F := Tryd.f19) rfl rfl ?_
  conv => whnf
  refine .of_run Γ2_ok 1000 (F := Tryd.f25) rfl rfl ?_
  conv => whnf
  refine And.intro (by decide) ?_
  conv => whnf
  refine And.intro (by omega) ?_
  conv => whnf
  refine arun_sound Γ2_ok.g Γ2_ok.s 1000 _ ?_
  conv => whnf
  rfl
end Go.Ab
