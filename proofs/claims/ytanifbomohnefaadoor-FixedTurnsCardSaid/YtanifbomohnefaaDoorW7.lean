/- Walks, seventh part: Double, Sin, Cos, and what lives calls. Conditions: none. -/
import Derived.Test.YtanifbomohnefaaDoorP1
namespace Go.Ab
open Go Go.Proofs
set_option maxRecDepth 100000
attribute [local irreducible] AW ACalls

theorem t6p (n : Int) (hn : 0 ≤ n ∧ n < 268435456) : ACalls Tryd.prog 6 [.int .i64 n] ⟨4, []⟩ fun v _ => v = encV n := by
  refine .of_run Γ3_ok 1000 (F := Tryd.f6) rfl rfl ?_
  conv => whnf
  refine br (fun h1 => absurd h1 (by simp; omega)) (fun h1 => ?_)
  conv => whnf
  refine And.intro (by decide) ?_
  conv => whnf
  refine And.intro (by decide) ?_
  conv => whnf
  have e1 : n.tdiv 16384 = n / 16384 := Int.tdiv_eq_ediv_of_nonneg hn.1
  have e2 : n.tmod 16384 = n % 16384 := Int.tmod_eq_emod_of_nonneg hn.1
  simp only [packResults, AV.set, setParts, setNth, encV, encHi, encLo, if_neg (show ¬ n < 0 by omega), IntKind.wrap_i64, IntKind.wrap_u16, e1, e2]
  congr 3
  · omega
  · rw [show n % 16384 % 65536 = n % 16384 by omega]

theorem t6q (σ : AState) (n : Int) (hn : 0 ≤ n ∧ n < 268435456) : ACalls Tryd.prog 6 [.int .i64 n] σ fun v σ' => v = encV n ∧ σ' = σ :=
  ACalls.pure (Q := fun v => v = encV n) (h0 := []) rfl rfl (t6p n hn) (fun v hv => by subst hv; rfl) (fun _ _ h => by simp [hget] at h)

theorem t6 (n : Int) (hn : -268435456 < n ∧ n < 268435456) : ACalls Tryd.prog 6 [.int .i64 n] ⟨4, []⟩ fun v _ => v = encV n := by
  by_cases h0 : 0 ≤ n
  · exact t6p n ⟨h0, hn.2⟩
  · refine .of_run Γ3_ok 1000 (F := Tryd.f6) rfl rfl ?_
    conv => whnf
    refine br (fun h1 => ?_) (fun h1 => absurd h1 (by simp; omega))
    conv => whnf
    rw [i64_wrap (0 - n) (by omega), Int.zero_sub]
    refine (t6q _ (-n) (by omega)).mono ?_
    rintro v σ' ⟨rfl, rfl⟩
    refine arun_sound Γ3_ok.g Γ3_ok.s 1000 _ ?_
    conv => whnf
    refine And.intro (by decide) ?_
    conv => whnf
    refine And.intro (by decide) ?_
    conv => whnf
    simp only [packResults, AV.set, setParts, setNth, encV, encHi, encLo, if_neg (show ¬ -n < 0 by omega), if_pos (show n < 0 by omega), IntKind.wrap_u16]
    congr 3
    · omega
    · congr 2; omega

def s6 : SpecFn := fun l σ => match l with
  | [.int .i64 n] => some (some (-268435456 < n ∧ n < 268435456), encV n, σ)
  | _ => none
theorem s6_ok : SpecAt Tryd.prog 6 s6 := by
  intro l σ p v σ' h hp
  unfold s6 at h
  split at h
  · rename_i n
    injection h with h; injection h with h1 h; injection h with h2 h3
    subst h1; subst h2; subst h3
    exact ACalls.pure (Q := fun v => v = encV n) (h0 := []) rfl rfl (t6 n (hp _ rfl)) (fun v hv => by subst hv; rfl) (fun _ _ h => by simp [hget] at h)
  · cases h
def s5 : SpecFn := fun l σ => match l with
  | [.strct [.int .u16 x, .int .u16 y]] => some (some ((0 ≤ x ∧ x < 65536) ∧ (0 ≤ y ∧ y < 65536)), .int .i64 (wordV x * 16384 + wordV y), σ)
  | _ => none
theorem s5_ok : SpecAt Tryd.prog 5 s5 := by
  intro l σ p v σ' h hp
  unfold s5 at h
  split at h
  · rename_i x y
    injection h with h; injection h with h1 h; injection h with h2 h3
    subst h1; subst h2; subst h3
    have hp := hp _ rfl
    exact ACalls.pure (Q := fun v => v = .int .i64 (wordV x * 16384 + wordV y)) (h0 := []) rfl rfl (t5 x y hp.1 hp.2) (fun v hv => by subst hv; rfl) (fun _ _ h => by simp [hget] at h)
  · cases h

/-- The effect of sine: where its table is as it was. -/
def isSines : Option AObj → Prop := fun o => o = some sines
def s17 : SpecFn := fun l σ => match l with
  | [.int .i64 x] => some (some (isSines (σ.get 0)), sinV (red x), σ)
  | _ => none
theorem s17_ok : SpecAt Tryd.prog 17 s17 := by
  intro l σ p v σ' h hp
  unfold s17 at h
  split at h
  · rename_i n
    injection h with h; injection h with h1 h; injection h with h2 h3
    subst h1; subst h2; subst h3
    have hs : σ.get 0 = some sines := hp _ rfl
    refine ACalls.pure (Q := fun v => v = sinV (red n)) (h0 := [(0, some sines)]) rfl rfl (t17 n) (fun v hv => by subst hv; rfl) (fun b o h => ?_)
    simp only [hget] at h
    split at h
    · rename_i hb
      have := Nat.eq_of_beq_eq_true hb
      subst this
      rw [hs, ← h]
    · simp at h
  · cases h

noncomputable def Γ4 : Env := Γd (.node 19 s19 (.node 17 s17 (.node 6 s6 (.node 5 s5 .nil .nil) (.node 16 s16 .nil .nil)) (.node 18 s18 .nil .nil)) (.node 26 s26 (.node 20 s20 .nil (.node 24 s24 .nil .nil)) (.node 28 s28 .nil .nil)))
theorem Γ4_ok : EOk Tryd.prog Γ4 := Γd_ok ⟨s19_ok, ⟨s17_ok, ⟨s6_ok, ⟨s5_ok, trivial, trivial⟩, ⟨s16_ok, trivial, trivial⟩⟩, ⟨s18_ok, trivial, trivial⟩⟩, ⟨s26_ok, ⟨s20_ok, trivial, ⟨s24_ok, trivial, trivial⟩⟩, ⟨s28_ok, trivial, trivial⟩⟩⟩

theorem t7 (x y : Int) (hx : 0 ≤ x ∧ x < 65536) (hy : 0 ≤ y ∧ y < 65536) : ACalls Tryd.prog 7 [.strct [.int .u16 x, .int .u16 y]] ⟨4, [(0, some sines)]⟩ fun v _ => v = sinV (red (wordV x * 16384 + wordV y)) := by
  refine .of_run Γ4_ok 1000 (F := Tryd.f7) rfl rfl ?_
  conv => whnf
  refine And.intro ⟨hx, hy⟩ ?_
  conv => whnf
  refine And.intro rfl ?_
  conv => whnf
  rfl

theorem t8 (x y : Int) (hx : 0 ≤ x ∧ x < 65536) (hy : 0 ≤ y ∧ y < 65536) : ACalls Tryd.prog 8 [.strct [.int .u16 x, .int .u16 y]] ⟨4, [(0, some sines)]⟩ fun v _ => v = sinV (red (wordV x * 16384 + wordV y + 67108864)) := by
  have h1 := wordV_le x
  have h2 := wordV_le y
  refine .of_run Γ4_ok 1000 (F := Tryd.f8) rfl rfl ?_
  conv => whnf
  refine And.intro ⟨hx, hy⟩ ?_
  conv => whnf
  refine And.intro rfl ?_
  conv => whnf
  rw [i64_wrap _ (by omega)]
  rfl

def s7 : SpecFn := fun l σ => match l with
  | [.strct [.int .u16 x, .int .u16 y]] => some (some (((0 ≤ x ∧ x < 65536) ∧ (0 ≤ y ∧ y < 65536)) ∧ isSines (σ.get 0)), sinV (red (wordV x * 16384 + wordV y)), σ)
  | _ => none
theorem s7_ok : SpecAt Tryd.prog 7 s7 := by
  intro l σ p v σ' h hp
  unfold s7 at h
  split at h
  · rename_i x y
    injection h with h; injection h with h1 h; injection h with h2 h3
    subst h1; subst h2; subst h3
    obtain ⟨⟨hx, hy⟩, hs⟩ := hp _ rfl
    refine ACalls.pure (Q := fun v => v = sinV (red (wordV x * 16384 + wordV y))) (h0 := [(0, some sines)]) rfl rfl (t7 x y hx hy) (fun v hv => by subst hv; rfl) (fun b o h => ?_)
    simp only [hget] at h
    split at h
    · rename_i hb
      have := Nat.eq_of_beq_eq_true hb
      subst this
      rw [← h]; exact hs
    · simp at h
  · cases h
def s8 : SpecFn := fun l σ => match l with
  | [.strct [.int .u16 x, .int .u16 y]] => some (some (((0 ≤ x ∧ x < 65536) ∧ (0 ≤ y ∧ y < 65536)) ∧ isSines (σ.get 0)), sinV (red (wordV x * 16384 + wordV y + 67108864)), σ)
  | _ => none
theorem s8_ok : SpecAt Tryd.prog 8 s8 := by
  intro l σ p v σ' h hp
  unfold s8 at h
  split at h
  · rename_i x y
    injection h with h; injection h with h1 h; injection h with h2 h3
    subst h1; subst h2; subst h3
    obtain ⟨⟨hx, hy⟩, hs⟩ := hp _ rfl
    refine ACalls.pure (Q := fun v => v = sinV (red (wordV x * 16384 + wordV y + 67108864))) (h0 := [(0, some sines)]) rfl rfl (t8 x y hx hy) (fun v hv => by subst hv; rfl) (fun b o h => ?_)
    simp only [hget] at h
    split at h
    · rename_i hb
      have := Nat.eq_of_beq_eq_true hb
      subst this
      rw [← h]; exact hs
    · simp at h
  · cases h

/-- A closed call. -/
theorem t10 : ACalls Tryd.prog 10 [] ⟨4, []⟩ fun v _ => v = .strct [.int .u16 4096, .int .u16 0] := by
  refine .of_run Γ4_ok 1000 (F := Tryd.f10) rfl rfl ?_
  conv => whnf
  rfl
theorem t11 : ACalls Tryd.prog 11 [] ⟨4, []⟩ fun v _ => v = .strct [.int .u16 8192, .int .u16 0] := by
  refine .of_run Γ4_ok 1000 (F := Tryd.f11) rfl rfl ?_
  conv => whnf
  rfl
def s10 : SpecFn := fun l σ => match l with
  | [] => some (none, .strct [.int .u16 4096, .int .u16 0], σ)
  | _ => none
theorem s10_ok : SpecAt Tryd.prog 10 s10 := by
  intro l σ p v σ' h hp
  unfold s10 at h
  split at h
  · injection h with h; injection h with h1 h; injection h with h2 h3
    subst h1; subst h2; subst h3
    exact ACalls.pure (Q := fun v => v = .strct [.int .u16 4096, .int .u16 0]) (h0 := []) rfl rfl t10 (fun v hv => by subst hv; rfl) (fun _ _ h => by simp [hget] at h)
  · cases h
def s11 : SpecFn := fun l σ => match l with
  | [] => some (none, .strct [.int .u16 8192, .int .u16 0], σ)
  | _ => none
theorem s11_ok : SpecAt Tryd.prog 11 s11 := by
  intro l σ p v σ' h hp
  unfold s11 at h
  split at h
  · injection h with h; injection h with h1 h; injection h with h2 h3
    subst h1; subst h2; subst h3
    exact ACalls.pure (Q := fun v => v = .strct [.int .u16 8192, .int .u16 0]) (h0 := []) rfl rfl t11 (fun v hv => by subst hv; rfl) (fun _ _ h => by simp [hget] at h)
  · cases h


def valV (x y : Int) : Int := wordV x * 16384 + wordV y
/-- Mul. -/
theorem t14 (x y z w : Int) (hx : 0 ≤ x ∧ x < 65536) (hy : 0 ≤ y ∧ y < 65536) (hz : 0 ≤ z ∧ z < 65536) (hw : 0 ≤ w ∧ w < 65536) (hm : -(2 ^ 62) < IntKind.i64.wrap (valV x y * valV z w) ∧ IntKind.i64.wrap (valV x y * valV z w) < 2 ^ 62) :
    ACalls Tryd.prog 14 [.strct [.int .u16 x, .int .u16 y], .strct [.int .u16 z, .int .u16 w]] ⟨4, []⟩ fun v _ => v = encV (bnd (quoV (IntKind.i64.wrap (valV x y * valV z w)) 268435456) 268435455) := by
  refine .of_run Γ4_ok 1000 (F := Tryd.f14) rfl rfl ?_
  conv => whnf
  refine AW.draw Γ4_ok (pl := pld14_1) (by kernel_rfl) ?_
  conv => whnf
  repeat' (refine And.intro ?_ ?_)
  all_goals first | trivial | assumption | exact hm.1 | exact hm.2 | decide | omega | skip
  all_goals try (conv => whnf)
  all_goals first | trivial | skip
  repeat' (refine And.intro ?_ ?_)
  all_goals first | trivial | assumption | exact hm.1 | exact hm.2 | decide | omega | skip
  all_goals try (conv => whnf)
  all_goals first | trivial | skip
  repeat' (refine And.intro ?_ ?_)
  all_goals first | trivial | assumption | exact hm.1 | exact hm.2 | decide | omega | skip
  all_goals try (conv => whnf)
  all_goals first | trivial | skip
  repeat' (refine And.intro ?_ ?_)
  all_goals first | trivial | assumption | exact hm.1 | exact hm.2 | decide | omega | skip
  all_goals try (conv => whnf)
  all_goals first | trivial | skip
  repeat' (refine And.intro ?_ ?_)
  all_goals first | trivial | assumption | exact hm.1 | exact hm.2 | decide | omega | skip
  all_goals try (conv => whnf)
  all_goals first | trivial | skip
  refine arun_sound Γ4_ok.g Γ4_ok.s 1000 _ ?_
  conv => whnf
  rfl
def s14 : SpecFn := fun l σ => match l with
  | [.strct [.int .u16 x, .int .u16 y], .strct [.int .u16 z, .int .u16 w]] => some (some ((0 ≤ x ∧ x < 65536) ∧ (0 ≤ y ∧ y < 65536) ∧ (0 ≤ z ∧ z < 65536) ∧ (0 ≤ w ∧ w < 65536) ∧ (-(2 ^ 62) < IntKind.i64.wrap (valV x y * valV z w) ∧ IntKind.i64.wrap (valV x y * valV z w) < 2 ^ 62)), encV (bnd (quoV (IntKind.i64.wrap (valV x y * valV z w)) 268435456) 268435455), σ)
  | _ => none
theorem s14_ok : SpecAt Tryd.prog 14 s14 := by
  intro l σ p v σ' h hp
  unfold s14 at h
  split at h
  · rename_i x y z w
    injection h with h; injection h with h1 h; injection h with h2 h3
    subst h1; subst h2; subst h3
    obtain ⟨hx, hy, hz, hw, hm⟩ := hp _ rfl
    exact ACalls.pure (Q := fun v => v = encV (bnd (quoV (IntKind.i64.wrap (valV x y * valV z w)) 268435456) 268435455)) (h0 := []) rfl rfl (t14 x y z w hx hy hz hw hm) (fun v hv => by subst hv; rfl) (fun _ _ h => by simp [hget] at h)
  · cases h

/-- Clamp. -/
theorem t25 (n : Int) : ACalls Tryd.prog 25 [.int .i64 n] ⟨4, []⟩ fun v _ => v = .tuple [encV (bnd n 268435455), .bool (decide (n > 268435455 ∨ n < -268435455))] := by
  have hb := bnd_le n 268435455 (by omega)
  refine .of_run Γ4_ok 1000 (F := Tryd.f25) rfl rfl ?_
  conv => whnf
  refine And.intro (by decide) ?_
  conv => whnf
  refine And.intro (by omega) ?_
  conv => whnf
  rfl
def s25 : SpecFn := fun l σ => match l with
  | [.int .i64 n] => some (none, .tuple [encV (bnd n 268435455), .bool (decide (n > 268435455 ∨ n < -268435455))], σ)
  | _ => none
theorem s25_ok : SpecAt Tryd.prog 25 s25 := by
  intro l σ p v σ' h hp
  unfold s25 at h
  split at h
  · rename_i n
    injection h with h; injection h with h1 h; injection h with h2 h3
    subst h1; subst h2; subst h3
    skip
    exact ACalls.pure (Q := fun v => v = .tuple [encV (bnd n 268435455), .bool (decide (n > 268435455 ∨ n < -268435455))]) (h0 := []) rfl rfl (t25 n) (fun v hv => by subst hv; rfl) (fun _ _ h => by simp [hget] at h)
  · cases h
noncomputable def Γ5 : Env := Γd (.node 17 s17 (.node 10 s10 (.node 7 s7 (.node 6 s6 (.node 5 s5 .nil .nil) .nil) (.node 8 s8 .nil .nil)) (.node 14 s14 (.node 11 s11 .nil .nil) (.node 16 s16 .nil .nil))) (.node 24 s24 (.node 19 s19 (.node 18 s18 .nil .nil) (.node 20 s20 .nil .nil)) (.node 26 s26 (.node 25 s25 .nil .nil) (.node 28 s28 .nil .nil))))
theorem Γ5_ok : EOk Tryd.prog Γ5 := Γd_ok ⟨s17_ok, ⟨s10_ok, ⟨s7_ok, ⟨s6_ok, ⟨s5_ok, trivial, trivial⟩, trivial⟩, ⟨s8_ok, trivial, trivial⟩⟩, ⟨s14_ok, ⟨s11_ok, trivial, trivial⟩, ⟨s16_ok, trivial, trivial⟩⟩⟩, ⟨s24_ok, ⟨s19_ok, ⟨s18_ok, trivial, trivial⟩, ⟨s20_ok, trivial, trivial⟩⟩, ⟨s26_ok, ⟨s25_ok, trivial, trivial⟩, ⟨s28_ok, trivial, trivial⟩⟩⟩⟩

/-- Div at a quarter and a half. -/
theorem t9 : ACalls Tryd.prog 9 [.strct [.int .u16 4096, .int .u16 0], .strct [.int .u16 8192, .int .u16 0]] ⟨4, []⟩ fun v _ => v = .tuple [.strct [.int .u16 8192, .int .u16 0], .bool false] := by
  refine .of_run Γ5_ok 1000 (F := Tryd.f9) rfl rfl ?_
  conv => whnf
  refine AW.draw Γ5_ok (pl := pld9_1) (by kernel_rfl) ?_
  conv => whnf
  repeat' (refine And.intro ?_ ?_)
  all_goals first | trivial | assumption | decide | omega | skip
  all_goals try (conv => whnf)
  all_goals first | trivial | skip
  repeat' (refine And.intro ?_ ?_)
  all_goals first | trivial | assumption | decide | omega | skip
  all_goals try (conv => whnf)
  all_goals first | trivial | skip
  repeat' (refine And.intro ?_ ?_)
  all_goals first | trivial | assumption | decide | omega | skip
  all_goals try (conv => whnf)
  all_goals first | trivial | skip
  refine arun_sound Γ5_ok.g Γ5_ok.s 1000 _ ?_
  conv => whnf
  refine And.intro (by decide) ?_
  conv => whnf
  rfl
/-- The root of 2^54. -/
theorem t21 : ACalls Tryd.prog 21 [.int .i64 18014398509481984] ⟨4, []⟩ fun v _ => v = .int .i64 134217728 := by
  refine .of_run Γ5_ok 1000 (F := Tryd.f21) rfl rfl ?_
  conv => whnf
  refine arun_sound Γ5_ok.g Γ5_ok.s 3000 _ ?_
  iterate 31
    conv => whnf
    refine And.intro (by decide) ?_
  conv => whnf
  rfl
def s21 : SpecFn := fun l σ => match l with
  | [.int .i64 n] => some (some (n = 18014398509481984), .int .i64 134217728, σ)
  | _ => none
theorem s21_ok : SpecAt Tryd.prog 21 s21 := by
  intro l σ p v σ' h hp
  unfold s21 at h
  split at h
  · rename_i n
    injection h with h; injection h with h1 h; injection h with h2 h3
    subst h1; subst h2; subst h3
    obtain rfl : n = 18014398509481984 := hp _ rfl
    exact ACalls.pure (Q := fun v => v = .int .i64 134217728) (h0 := []) rfl rfl (t21) (fun v hv => by subst hv; rfl) (fun _ _ h => by simp [hget] at h)
  · cases h
noncomputable def Γ6 : Env := Γd (.node 17 s17 (.node 10 s10 (.node 7 s7 (.node 6 s6 (.node 5 s5 .nil .nil) .nil) (.node 8 s8 .nil .nil)) (.node 14 s14 (.node 11 s11 .nil .nil) (.node 16 s16 .nil .nil))) (.node 24 s24 (.node 20 s20 (.node 19 s19 (.node 18 s18 .nil .nil) .nil) (.node 21 s21 .nil .nil)) (.node 26 s26 (.node 25 s25 .nil .nil) (.node 28 s28 .nil .nil))))
theorem Γ6_ok : EOk Tryd.prog Γ6 := Γd_ok ⟨s17_ok, ⟨s10_ok, ⟨s7_ok, ⟨s6_ok, ⟨s5_ok, trivial, trivial⟩, trivial⟩, ⟨s8_ok, trivial, trivial⟩⟩, ⟨s14_ok, ⟨s11_ok, trivial, trivial⟩, ⟨s16_ok, trivial, trivial⟩⟩⟩, ⟨s24_ok, ⟨s20_ok, ⟨s19_ok, ⟨s18_ok, trivial, trivial⟩, trivial⟩, ⟨s21_ok, trivial, trivial⟩⟩, ⟨s26_ok, ⟨s25_ok, trivial, trivial⟩, ⟨s28_ok, trivial, trivial⟩⟩⟩⟩
/-- Sqrt at a quarter. -/
theorem t12 : ACalls Tryd.prog 12 [.strct [.int .u16 4096, .int .u16 0]] ⟨4, []⟩ fun v _ => v = .tuple [.strct [.int .u16 8192, .int .u16 0], .bool false] := by
  refine .of_run Γ6_ok 1000 (F := Tryd.f12) rfl rfl ?_
  conv => whnf
  refine And.intro (by decide) ?_
  conv => whnf
  refine And.intro (by decide) ?_
  conv => whnf
  rfl
/-- MakeTriple at 8192. -/
theorem t23 : ACalls Tryd.prog 23 [.int .i64 8192] ⟨4, []⟩ fun v _ => v = .tuple [.strct [.int .u16 0, .int .u16 0, .int .u16 8192], .int .i64 0] := by
  refine .of_run Γ6_ok 1000 (F := Tryd.f23) rfl rfl ?_
  conv => whnf
  refine And.intro (by decide) ?_
  conv => whnf
  refine .of_run Γ6_ok 1000 (F := Tryd.f27) rfl rfl ?_
  conv => whnf
  refine .of_run Γ6_ok 1000 (F := Tryd.f29) rfl rfl ?_
  conv => whnf
  iterate 3
    refine arun_sound Γ6_ok.g Γ6_ok.s 1000 _ ?_
    conv => whnf
    refine .of_run Γ6_ok 1000 (F := Tryd.f30) rfl rfl ?_
    conv => whnf
    refine And.intro (by decide) ?_
    conv => whnf
  refine arun_sound Γ6_ok.g Γ6_ok.s 1000 _ ?_
  conv => whnf
  refine arun_sound Γ6_ok.g Γ6_ok.s 1000 _ ?_
  conv => whnf
  rfl
def s23 : SpecFn := fun l σ => match l with
  | [.int .i64 n] => some (some (n = 8192), .tuple [.strct [.int .u16 0, .int .u16 0, .int .u16 8192], .int .i64 0], σ)
  | _ => none
theorem s23_ok : SpecAt Tryd.prog 23 s23 := by
  intro l σ p v σ' h hp
  unfold s23 at h
  split at h
  · rename_i n
    injection h with h; injection h with h1 h; injection h with h2 h3
    subst h1; subst h2; subst h3
    obtain rfl : n = 8192 := hp _ rfl
    exact ACalls.pure (Q := fun v => v = .tuple [.strct [.int .u16 0, .int .u16 0, .int .u16 8192], .int .i64 0]) (h0 := []) rfl rfl (t23) (fun v hv => by subst hv; rfl) (fun _ _ h => by simp [hget] at h)
  · cases h
noncomputable def Γ7 : Env := Γd (.node 18 s18 (.node 10 s10 (.node 7 s7 (.node 6 s6 (.node 5 s5 .nil .nil) .nil) (.node 8 s8 .nil .nil)) (.node 16 s16 (.node 14 s14 (.node 11 s11 .nil .nil) .nil) (.node 17 s17 .nil .nil))) (.node 24 s24 (.node 21 s21 (.node 20 s20 (.node 19 s19 .nil .nil) .nil) (.node 23 s23 .nil .nil)) (.node 26 s26 (.node 25 s25 .nil .nil) (.node 28 s28 .nil .nil))))
theorem Γ7_ok : EOk Tryd.prog Γ7 := Γd_ok ⟨s18_ok, ⟨s10_ok, ⟨s7_ok, ⟨s6_ok, ⟨s5_ok, trivial, trivial⟩, trivial⟩, ⟨s8_ok, trivial, trivial⟩⟩, ⟨s16_ok, ⟨s14_ok, ⟨s11_ok, trivial, trivial⟩, trivial⟩, ⟨s17_ok, trivial, trivial⟩⟩⟩, ⟨s24_ok, ⟨s21_ok, ⟨s20_ok, ⟨s19_ok, trivial, trivial⟩, trivial⟩, ⟨s23_ok, trivial, trivial⟩⟩, ⟨s26_ok, ⟨s25_ok, trivial, trivial⟩, ⟨s28_ok, trivial, trivial⟩⟩⟩⟩
/-- MulTriple at the least fraction and a half. -/
theorem t15 : ACalls Tryd.prog 15 [.strct [.int .u16 0, .int .u16 1], .strct [.int .u16 8192, .int .u16 0]] ⟨4, []⟩ fun v _ => v = .strct [.int .u16 0, .int .u16 0, .int .u16 8192] := by
  refine .of_run Γ7_ok 1000 (F := Tryd.f15) rfl rfl ?_
  conv => whnf
  refine AW.draw Γ7_ok (pl := pld15_1) (by kernel_rfl) ?_
  conv => whnf
  repeat' (refine And.intro ?_ ?_)
  all_goals first | trivial | assumption | decide | omega | skip
  all_goals try (conv => whnf)
  all_goals first | trivial | skip
  repeat' (refine And.intro ?_ ?_)
  all_goals first | trivial | assumption | decide | omega | skip
  all_goals try (conv => whnf)
  all_goals first | trivial | skip
  repeat' (refine And.intro ?_ ?_)
  all_goals first | trivial | assumption | decide | omega | skip
  all_goals try (conv => whnf)
  all_goals first | trivial | skip
  repeat' (refine And.intro ?_ ?_)
  all_goals first | trivial | assumption | decide | omega | skip
  all_goals try (conv => whnf)
  all_goals first | trivial | skip
  repeat' (refine And.intro ?_ ?_)
  all_goals first | trivial | assumption | decide | omega | skip
  all_goals try (conv => whnf)
  all_goals first | trivial | skip
  repeat' (refine And.intro ?_ ?_)
  all_goals first | trivial | assumption | decide | omega | skip
  all_goals try (conv => whnf)
  all_goals first | trivial | skip
  refine arun_sound Γ7_ok.g Γ7_ok.s 1000 _ ?_
  conv => whnf
  rfl
/-- Add. -/
theorem t22 (x y z w : Int) (hx : 0 ≤ x ∧ x < 65536) (hy : 0 ≤ y ∧ y < 65536) (hz : 0 ≤ z ∧ z < 65536) (hw : 0 ≤ w ∧ w < 65536) :
    ACalls Tryd.prog 22 [.strct [.int .u16 x, .int .u16 y], .strct [.int .u16 z, .int .u16 w]] ⟨4, []⟩ fun v _ => v = .tuple [encV (bnd (IntKind.i64.wrap (valV x y + valV z w)) 268435455), .bool (decide (IntKind.i64.wrap (valV x y + valV z w) > 268435455 ∨ IntKind.i64.wrap (valV x y + valV z w) < -268435455))] := by
  refine .of_run Γ7_ok 1000 (F := Tryd.f22) rfl rfl ?_
  conv => whnf
  refine AW.draw Γ7_ok (pl := pld22_1) (by kernel_rfl) ?_
  conv => whnf
  repeat' (refine And.intro ?_ ?_)
  all_goals first | trivial | assumption | decide | omega | skip
  all_goals try (conv => whnf)
  all_goals first | trivial | skip
  repeat' (refine And.intro ?_ ?_)
  all_goals first | trivial | assumption | decide | omega | skip
  all_goals try (conv => whnf)
  all_goals first | trivial | skip
  repeat' (refine And.intro ?_ ?_)
  all_goals first | trivial | assumption | decide | omega | skip
  all_goals try (conv => whnf)
  all_goals first | trivial | skip
  repeat' (refine And.intro ?_ ?_)
  all_goals first | trivial | assumption | decide | omega | skip
  all_goals try (conv => whnf)
  all_goals first | trivial | skip
  repeat' (refine And.intro ?_ ?_)
  all_goals first | trivial | assumption | decide | omega | skip
  all_goals try (conv => whnf)
  all_goals first | trivial | skip
  repeat' (refine And.intro ?_ ?_)
  all_goals first | trivial | assumption | decide | omega | skip
  all_goals try (conv => whnf)
  all_goals first | trivial | skip
  refine arun_sound Γ7_ok.g Γ7_ok.s 1000 _ ?_
  conv => whnf
  rfl
def s22 : SpecFn := fun l σ => match l with
  | [.strct [.int .u16 x, .int .u16 y], .strct [.int .u16 z, .int .u16 w]] => some (some ((0 ≤ x ∧ x < 65536) ∧ (0 ≤ y ∧ y < 65536) ∧ (0 ≤ z ∧ z < 65536) ∧ (0 ≤ w ∧ w < 65536)), .tuple [encV (bnd (IntKind.i64.wrap (valV x y + valV z w)) 268435455), .bool (decide (IntKind.i64.wrap (valV x y + valV z w) > 268435455 ∨ IntKind.i64.wrap (valV x y + valV z w) < -268435455))], σ)
  | _ => none
theorem s22_ok : SpecAt Tryd.prog 22 s22 := by
  intro l σ p v σ' h hp
  unfold s22 at h
  split at h
  · rename_i x y z w
    injection h with h; injection h with h1 h; injection h with h2 h3
    subst h1; subst h2; subst h3
    obtain ⟨hx, hy, hz, hw⟩ := hp _ rfl
    exact ACalls.pure (Q := fun v => v = .tuple [encV (bnd (IntKind.i64.wrap (valV x y + valV z w)) 268435455), .bool (decide (IntKind.i64.wrap (valV x y + valV z w) > 268435455 ∨ IntKind.i64.wrap (valV x y + valV z w) < -268435455))]) (h0 := []) rfl rfl (t22 x y z w hx hy hz hw) (fun v hv => by subst hv; rfl) (fun _ _ h => by simp [hget] at h)
  · cases h
noncomputable def Γ8 : Env := Γd (.node 18 s18 (.node 10 s10 (.node 7 s7 (.node 6 s6 (.node 5 s5 .nil .nil) .nil) (.node 8 s8 .nil .nil)) (.node 16 s16 (.node 14 s14 (.node 11 s11 .nil .nil) .nil) (.node 17 s17 .nil .nil))) (.node 23 s23 (.node 21 s21 (.node 20 s20 (.node 19 s19 .nil .nil) .nil) (.node 22 s22 .nil .nil)) (.node 26 s26 (.node 25 s25 (.node 24 s24 .nil .nil) .nil) (.node 28 s28 .nil .nil))))
theorem Γ8_ok : EOk Tryd.prog Γ8 := Γd_ok ⟨s18_ok, ⟨s10_ok, ⟨s7_ok, ⟨s6_ok, ⟨s5_ok, trivial, trivial⟩, trivial⟩, ⟨s8_ok, trivial, trivial⟩⟩, ⟨s16_ok, ⟨s14_ok, ⟨s11_ok, trivial, trivial⟩, trivial⟩, ⟨s17_ok, trivial, trivial⟩⟩⟩, ⟨s23_ok, ⟨s21_ok, ⟨s20_ok, ⟨s19_ok, trivial, trivial⟩, trivial⟩, ⟨s22_ok, trivial, trivial⟩⟩, ⟨s26_ok, ⟨s25_ok, ⟨s24_ok, trivial, trivial⟩, trivial⟩, ⟨s28_ok, trivial, trivial⟩⟩⟩⟩

/-- Poly at a half. -/
theorem t13 (h0 : List (Nat × Option AObj)) (hh : h0 = []) (f : Nat → AV) (hf : f = listFn .undef [.strct [.int .u16 4096, .int .u16 0], .strct [.int .u16 8192, .int .u16 0]]) :
    ACalls Tryd.prog 13 [.strct [.int .u16 8192, .int .u16 0], .slice 4 [] 0 2 2] ⟨5, [(4, some (.mem (.arr 2 tdty25.sh) (.arr 2 f) .tight))]⟩ fun v _ => v = .tuple [.strct [.int .u16 8192, .int .u16 0], .bool false] := by
  subst hf
  refine .of_run Γ8_ok 1000 (F := Tryd.f13) rfl rfl ?_
  conv => whnf
  refine arun_sound Γ8_ok.g Γ8_ok.s 1000 _ ?_
  conv => whnf
  refine AW.draw Γ8_ok (pl := pld13_6) (by kernel_rfl) ?_
  conv => whnf
  repeat' (refine And.intro ?_ ?_)
  all_goals first | trivial | assumption | decide | omega | skip
  all_goals try (conv => whnf)
  all_goals first | trivial | skip
  repeat' (refine And.intro ?_ ?_)
  all_goals first | trivial | assumption | decide | omega | skip
  all_goals try (conv => whnf)
  all_goals first | trivial | skip
  repeat' (refine And.intro ?_ ?_)
  all_goals first | trivial | assumption | decide | omega | skip
  all_goals try (conv => whnf)
  all_goals first | trivial | skip
  repeat' (refine And.intro ?_ ?_)
  all_goals first | trivial | assumption | decide | omega | skip
  all_goals try (conv => whnf)
  all_goals first | trivial | skip
  repeat' (refine And.intro ?_ ?_)
  all_goals first | trivial | assumption | decide | omega | skip
  all_goals try (conv => whnf)
  all_goals first | trivial | skip
  repeat' (refine And.intro ?_ ?_)
  all_goals first | trivial | assumption | decide | omega | skip
  all_goals try (conv => whnf)
  all_goals first | trivial | skip
  repeat' (refine And.intro ?_ ?_)
  all_goals first | trivial | assumption | decide | omega | skip
  all_goals try (conv => whnf)
  all_goals first | trivial | skip
  refine arun_sound Γ8_ok.g Γ8_ok.s 1000 _ ?_
  conv => whnf
  refine AW.draw Γ8_ok (pl := pld13_6) (by kernel_rfl) ?_
  conv => whnf
  repeat' (refine And.intro ?_ ?_)
  all_goals first | trivial | assumption | decide | omega | skip
  all_goals try (conv => whnf)
  all_goals first | trivial | skip
  repeat' (refine And.intro ?_ ?_)
  all_goals first | trivial | assumption | decide | omega | skip
  all_goals try (conv => whnf)
  all_goals first | trivial | skip
  repeat' (refine And.intro ?_ ?_)
  all_goals first | trivial | assumption | decide | omega | skip
  all_goals try (conv => whnf)
  all_goals first | trivial | skip
  repeat' (refine And.intro ?_ ?_)
  all_goals first | trivial | assumption | decide | omega | skip
  all_goals try (conv => whnf)
  all_goals first | trivial | skip
  repeat' (refine And.intro ?_ ?_)
  all_goals first | trivial | assumption | decide | omega | skip
  all_goals try (conv => whnf)
  all_goals first | trivial | skip
  repeat' (refine And.intro ?_ ?_)
  all_goals first | trivial | assumption | decide | omega | skip
  all_goals try (conv => whnf)
  all_goals first | trivial | skip
  repeat' (refine And.intro ?_ ?_)
  all_goals first | trivial | assumption | decide | omega | skip
  all_goals try (conv => whnf)
  all_goals first | trivial | skip
  refine arun_sound Γ8_ok.g Γ8_ok.s 1000 _ ?_
  conv => whnf
  kernel_rfl
end Go.Ab
