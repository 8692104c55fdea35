/- Walks, eighth part: lives is true. Conditions: none. -/
import Derived.Test.YtanifbomohnefaaDoorW7
namespace Go.Ab
open Go Go.Proofs
set_option maxRecDepth 100000
attribute [local irreducible] AW ACalls
def s9 : SpecFn := fun l σ => match l with
  | [.strct [.int .u16 x, .int .u16 y], .strct [.int .u16 z, .int .u16 w]] => some (some (x = 4096 ∧ y = 0 ∧ z = 8192 ∧ w = 0), .tuple [.strct [.int .u16 8192, .int .u16 0], .bool false], σ)
  | _ => none
theorem s9_ok : SpecAt Tryd.prog 9 s9 := by
  intro l σ p v σ' h hp
  unfold s9 at h
  split at h
  · rename_i x y z w
    injection h with h; injection h with h1 h; injection h with h2 h3
    subst h1; subst h2; subst h3
    obtain ⟨rfl, rfl, rfl, rfl⟩ := hp _ rfl
    exact ACalls.pure (Q := fun v => v = .tuple [.strct [.int .u16 8192, .int .u16 0], .bool false]) (h0 := []) rfl rfl (t9) (fun v hv => by subst hv; rfl) (fun _ _ h => by simp [hget] at h)
  · cases h
def s12 : SpecFn := fun l σ => match l with
  | [.strct [.int .u16 x, .int .u16 y]] => some (some (x = 4096 ∧ y = 0), .tuple [.strct [.int .u16 8192, .int .u16 0], .bool false], σ)
  | _ => none
theorem s12_ok : SpecAt Tryd.prog 12 s12 := by
  intro l σ p v σ' h hp
  unfold s12 at h
  split at h
  · rename_i x y
    injection h with h; injection h with h1 h; injection h with h2 h3
    subst h1; subst h2; subst h3
    obtain ⟨rfl, rfl⟩ := hp _ rfl
    exact ACalls.pure (Q := fun v => v = .tuple [.strct [.int .u16 8192, .int .u16 0], .bool false]) (h0 := []) rfl rfl (t12) (fun v hv => by subst hv; rfl) (fun _ _ h => by simp [hget] at h)
  · cases h
def s15 : SpecFn := fun l σ => match l with
  | [.strct [.int .u16 x, .int .u16 y], .strct [.int .u16 z, .int .u16 w]] => some (some (x = 0 ∧ y = 1 ∧ z = 8192 ∧ w = 0), .strct [.int .u16 0, .int .u16 0, .int .u16 8192], σ)
  | _ => none
theorem s15_ok : SpecAt Tryd.prog 15 s15 := by
  intro l σ p v σ' h hp
  unfold s15 at h
  split at h
  · rename_i x y z w
    injection h with h; injection h with h1 h; injection h with h2 h3
    subst h1; subst h2; subst h3
    obtain ⟨rfl, rfl, rfl, rfl⟩ := hp _ rfl
    exact ACalls.pure (Q := fun v => v = .strct [.int .u16 0, .int .u16 0, .int .u16 8192]) (h0 := []) rfl rfl (t15) (fun v hv => by subst hv; rfl) (fun _ _ h => by simp [hget] at h)
  · cases h
noncomputable def Γ9 : Env := Γd (.node 17 s17 (.node 10 s10 (.node 7 s7 (.node 6 s6 (.node 5 s5 .nil .nil) .nil) (.node 9 s9 (.node 8 s8 .nil .nil) .nil)) (.node 14 s14 (.node 12 s12 (.node 11 s11 .nil .nil) .nil) (.node 16 s16 (.node 15 s15 .nil .nil) .nil))) (.node 23 s23 (.node 20 s20 (.node 19 s19 (.node 18 s18 .nil .nil) .nil) (.node 22 s22 (.node 21 s21 .nil .nil) .nil)) (.node 26 s26 (.node 25 s25 (.node 24 s24 .nil .nil) .nil) (.node 28 s28 .nil .nil))))
theorem Γ9_ok : EOk Tryd.prog Γ9 := Γd_ok ⟨s17_ok, ⟨s10_ok, ⟨s7_ok, ⟨s6_ok, ⟨s5_ok, trivial, trivial⟩, trivial⟩, ⟨s9_ok, ⟨s8_ok, trivial, trivial⟩, trivial⟩⟩, ⟨s14_ok, ⟨s12_ok, ⟨s11_ok, trivial, trivial⟩, trivial⟩, ⟨s16_ok, ⟨s15_ok, trivial, trivial⟩, trivial⟩⟩⟩, ⟨s23_ok, ⟨s20_ok, ⟨s19_ok, ⟨s18_ok, trivial, trivial⟩, trivial⟩, ⟨s22_ok, ⟨s21_ok, trivial, trivial⟩, trivial⟩⟩, ⟨s26_ok, ⟨s25_ok, ⟨s24_ok, trivial, trivial⟩, trivial⟩, ⟨s28_ok, trivial, trivial⟩⟩⟩⟩

theorem t4 : ACalls Tryd.prog 4 [] ⟨4, [(0, some sines)]⟩ fun v _ => v = .bool true := by
  refine .of_run Γ9_ok 1000 (F := Tryd.f4) rfl rfl ?_
  conv => whnf
  refine And.intro (by decide) ?_
  conv => whnf
  refine And.intro (by decide) ?_
  conv => whnf
  refine .of_run Γ9_ok 1000 (F := Tryd.f13) rfl rfl ?_
  conv => whnf
  refine arun_sound Γ9_ok.g Γ9_ok.s 1000 _ ?_
  conv => whnf
  refine AW.draw Γ9_ok (pl := pld13_6) (by kernel_rfl) ?_
  conv => whnf
  repeat' (refine And.intro ?_ ?_)
  all_goals first | trivial | assumption | decide | omega | skip
  all_goals try (conv => whnf)
  all_goals first | trivial | skip
  repeat' (refine And.intro ?_ ?_)
  all_goals first | trivial | assumption | decide | omega | skip
  all_goals try (conv => whnf)
  all_goals first | trivial | skip
  repeat' (refine And.intro ?_ ?_)
  all_goals first | trivial | assumption | decide | omega | skip
  all_goals try (conv => whnf)
  all_goals first | trivial | skip
  repeat' (refine And.intro ?_ ?_)
  all_goals first | trivial | assumption | decide | omega | skip
  all_goals try (conv => whnf)
  all_goals first | trivial | skip
  repeat' (refine And.intro ?_ ?_)
  all_goals first | trivial | assumption | decide | omega | skip
  all_goals try (conv => whnf)
  all_goals first | trivial | skip
  repeat' (refine And.intro ?_ ?_)
  all_goals first | trivial | assumption | decide | omega | skip
  all_goals try (conv => whnf)
  all_goals first | trivial | skip
  repeat' (refine And.intro ?_ ?_)
  all_goals first | trivial | assumption | decide | omega | skip
  all_goals try (conv => whnf)
  all_goals first | trivial | skip
  refine arun_sound Γ9_ok.g Γ9_ok.s 1000 _ ?_
  conv => whnf
  refine AW.draw Γ9_ok (pl := pld13_6) (by kernel_rfl) ?_
  conv => whnf
  repeat' (refine And.intro ?_ ?_)
  all_goals first | trivial | assumption | decide | omega | skip
  all_goals try (conv => whnf)
  all_goals first | trivial | skip
  repeat' (refine And.intro ?_ ?_)
  all_goals first | trivial | assumption | decide | omega | skip
  all_goals try (conv => whnf)
  all_goals first | trivial | skip
  repeat' (refine And.intro ?_ ?_)
  all_goals first | trivial | assumption | decide | omega | skip
  all_goals try (conv => whnf)
  all_goals first | trivial | skip
  repeat' (refine And.intro ?_ ?_)
  all_goals first | trivial | assumption | decide | omega | skip
  all_goals try (conv => whnf)
  all_goals first | trivial | skip
  repeat' (refine And.intro ?_ ?_)
  all_goals first | trivial | assumption | decide | omega | skip
  all_goals try (conv => whnf)
  all_goals first | trivial | skip
  repeat' (refine And.intro ?_ ?_)
  all_goals first | trivial | assumption | decide | omega | skip
  all_goals try (conv => whnf)
  all_goals first | trivial | skip
  repeat' (refine And.intro ?_ ?_)
  all_goals first | trivial | assumption | decide | omega | skip
  all_goals try (conv => whnf)
  all_goals first | trivial | skip
  refine arun_sound Γ9_ok.g Γ9_ok.s 1000 _ ?_
  conv => whnf
  refine arun_sound Γ9_ok.g Γ9_ok.s 1000 _ ?_
  conv => whnf
  refine .forget (n := 13) (fr := [(6, .bool false), (4, .bool false), (2, .bool false), (5, .ptr 12 []), (3, .ptr 5 []), (1, .ptr 4 [])]) (h := [(12, some (.mem tdty25.sh (.strct [.int .u16 8192, .int .u16 0]) .tight)), (5, some (.mem tdty25.sh (.strct [.int .u16 8192, .int .u16 0]) .tight)), (4, some (.mem tdty25.sh (.strct [.int .u16 8192, .int .u16 0]) .tight)), (0, some sines)]) ?_ ⟨rfl, rfl, rfl, by kernel_rfl, rfl, rfl, trivial⟩ rfl ⟨rfl, rfl, rfl, rfl, trivial⟩
  refine arun_sound Γ9_ok.g Γ9_ok.s 1000 _ ?_
  conv => whnf
  refine AW.draw Γ9_ok (pl := pld4_4) (by kernel_rfl) ?_
  conv => whnf
  repeat' (refine And.intro ?_ ?_)
  all_goals first | trivial | assumption | decide | omega | skip
  all_goals try (conv => whnf)
  all_goals first | trivial | skip
  repeat' (refine And.intro ?_ ?_)
  all_goals first | trivial | assumption | decide | omega | skip
  all_goals try (conv => whnf)
  all_goals first | trivial | skip
  repeat' (refine And.intro ?_ ?_)
  all_goals first | trivial | assumption | decide | omega | skip
  all_goals try (conv => whnf)
  all_goals first | trivial | skip
  repeat' (refine And.intro ?_ ?_)
  all_goals first | trivial | assumption | decide | omega | skip
  all_goals try (conv => whnf)
  all_goals first | trivial | skip
  repeat' (refine And.intro ?_ ?_)
  all_goals first | trivial | assumption | decide | omega | skip
  all_goals try (conv => whnf)
  all_goals first | trivial | skip
  repeat' (refine And.intro ?_ ?_)
  all_goals first | trivial | assumption | decide | omega | skip
  all_goals try (conv => whnf)
  all_goals first | trivial | skip
  repeat' (refine And.intro ?_ ?_)
  all_goals first | trivial | assumption | decide | omega | skip
  all_goals try (conv => whnf)
  all_goals first | trivial | skip
  repeat' (refine And.intro ?_ ?_)
  all_goals first | trivial | assumption | decide | omega | skip
  all_goals try (conv => whnf)
  all_goals first | trivial | skip
  repeat' (refine And.intro ?_ ?_)
  all_goals first | trivial | assumption | decide | omega | skip
  all_goals try (conv => whnf)
  all_goals first | trivial | skip
  repeat' (refine And.intro ?_ ?_)
  all_goals first | trivial | assumption | decide | omega | skip
  all_goals try (conv => whnf)
  all_goals first | trivial | skip
  repeat' (refine And.intro ?_ ?_)
  all_goals first | trivial | assumption | decide | omega | skip
  all_goals try (conv => whnf)
  all_goals first | trivial | skip
  repeat' (refine And.intro ?_ ?_)
  all_goals first | trivial | assumption | decide | omega | skip
  all_goals try (conv => whnf)
  all_goals first | trivial | skip
  repeat' (refine And.intro ?_ ?_)
  all_goals first | trivial | assumption | decide | omega | skip
  all_goals try (conv => whnf)
  all_goals first | trivial | skip
  repeat' (refine And.intro ?_ ?_)
  all_goals first | trivial | assumption | decide | omega | skip
  all_goals try (conv => whnf)
  all_goals first | trivial | skip
  refine arun_sound Γ9_ok.g Γ9_ok.s 1000 _ ?_
  conv => whnf
  kernel_rfl

def s4 : SpecFn := fun l σ => match l with
  | [] => some (some (isSines (σ.get 0)), .bool true, σ)
  | _ => none
theorem s4_ok : SpecAt Tryd.prog 4 s4 := by
  intro l σ p v σ' h hp
  unfold s4 at h
  split at h
  · injection h with h; injection h with h1 h; injection h with h2 h3
    subst h1; subst h2; subst h3
    have hs := hp _ rfl
    refine ACalls.pure (Q := fun v => v = .bool true) (h0 := [(0, some sines)]) rfl rfl t4 (fun v hv => by subst hv; rfl) (fun b o h => ?_)
    simp only [hget] at h
    split at h
    · rename_i hb
      have := Nat.eq_of_beq_eq_true hb
      subst this
      rw [← h]; exact hs
    · simp at h
  · cases h
noncomputable def Γa : Env := Γd (.node 6 s6 (.node 5 s5 (.node 4 s4 .nil .nil) .nil) (.node 8 s8 (.node 7 s7 .nil .nil) .nil))
theorem Γa_ok : EOk Tryd.prog Γa := Γd_ok ⟨s6_ok, ⟨s5_ok, ⟨s4_ok, trivial, trivial⟩, trivial⟩, ⟨s8_ok, ⟨s7_ok, trivial, trivial⟩, trivial⟩⟩

end Go.Ab
