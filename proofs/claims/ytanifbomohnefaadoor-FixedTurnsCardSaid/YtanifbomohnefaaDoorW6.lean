/- Walks, sixth part: sine. Conditions: none. -/
import Derived.Test.YtanifbomohnefaaDoorW5
import Derived.Test.YtanifbomohnefaaDoorAb22
namespace Go.Ab
open Go Go.Proofs
set_option maxRecDepth 100000
attribute [local irreducible] AW ACalls

theorem mul_bound {x y X Y : Int} (hx : 0 ≤ x ∧ x ≤ X) (hy : -Y ≤ y ∧ y ≤ Y) (hY : 0 ≤ Y) : -(X * Y) ≤ x * y ∧ x * y ≤ X * Y := by
  have h1 : x * y ≤ x * Y := Int.mul_le_mul_of_nonneg_left hy.2 hx.1
  have h2 : x * Y ≤ X * Y := Int.mul_le_mul_of_nonneg_right hx.2 hY
  have h3 : x * (-Y) ≤ x * y := Int.mul_le_mul_of_nonneg_left hy.1 hx.1
  rw [Int.mul_neg] at h3
  omega

theorem quoV_le {a B : Int} (h : -(B * 268435456) ≤ a ∧ a ≤ B * 268435456) : -(B + 1) ≤ quoV a 268435456 ∧ quoV a 268435456 ≤ B + 1 := by
  unfold quoV quoN
  split <;> split <;> omega

theorem quoV_nonneg {a : Int} (h : 0 ≤ a) : 0 ≤ quoV a 268435456 := by
  unfold quoV quoN
  rw [if_neg (by omega)]
  split <;> omega

def sinS (r : Int) : Int := quoV (IntKind.i64.wrap (IntKind.i64.wrap (4 * r) * IntKind.i64.wrap (4 * r))) 268435456
def sinStep (s c p : Int) : Int := IntKind.i64.wrap (c + quoV (IntKind.i64.wrap (s * p)) 268435456)

theorem sinS_le {r : Int} (hr : -67108864 ≤ r ∧ r ≤ 67108864) : IntKind.i64.wrap (4 * r) = 4 * r ∧ IntKind.i64.wrap (4 * r * (4 * r)) = 4 * r * (4 * r) ∧ 0 ≤ 4 * r * (4 * r) ∧ 4 * r * (4 * r) ≤ 72057594037927936 ∧ 0 ≤ sinS r ∧ sinS r ≤ 268435457 := by
  have e1 : IntKind.i64.wrap (4 * r) = 4 * r := i64_wrap _ (by omega)
  have h2 : 0 ≤ 4 * r * (4 * r) ∧ 4 * r * (4 * r) ≤ 72057594037927936 := by
    rcases Int.le_total 0 r with h | h
    · have h1 := mul_bound (x := 4 * r) (y := 4 * r) (X := 268435456) (Y := 268435456) (by omega) (by omega) (by omega)
      have h2 := Int.mul_nonneg (a := 4 * r) (b := 4 * r) (by omega) (by omega)
      omega
    · have e : 4 * r * (4 * r) = (-(4 * r)) * (-(4 * r)) := by rw [Int.neg_mul_neg]
      rw [e]
      have h1 := mul_bound (x := -(4 * r)) (y := -(4 * r)) (X := 268435456) (Y := 268435456) (by omega) (by omega) (by omega)
      have h2 := Int.mul_nonneg (a := -(4 * r)) (b := -(4 * r)) (by omega) (by omega)
      omega
  have e2 : IntKind.i64.wrap (4 * r * (4 * r)) = 4 * r * (4 * r) := i64_wrap _ (by omega)
  refine ⟨e1, e2, h2.1, h2.2, ?_, ?_⟩
  · unfold sinS; rw [e1, e2]; exact quoV_nonneg h2.1
  · unfold sinS; rw [e1, e2]; exact (quoV_le (B := 268435456) (by omega)).2

/-- A round of the polynomial: no product wraps. -/
theorem sinStep_le {s c p B : Int} (hs : 0 ≤ s ∧ s ≤ 268435457) (hp : -B ≤ p ∧ p ≤ B) (hB : 0 ≤ B ∧ B ≤ 1073741824) (hc : -1073741824 ≤ c ∧ c ≤ 1073741824) :
    IntKind.i64.wrap (s * p) = s * p ∧ -(2 ^ 60) ≤ s * p ∧ s * p ≤ 2 ^ 60 ∧ sinStep s c p = c + quoV (s * p) 268435456 ∧ -(B + 5) ≤ quoV (s * p) 268435456 ∧ quoV (s * p) 268435456 ≤ B + 5 := by
  have h1 := mul_bound hs hp hB.1
  have e1 : IntKind.i64.wrap (s * p) = s * p := i64_wrap _ (by omega)
  have h2 := quoV_le (a := s * p) (B := B + 4) (by omega)
  refine ⟨e1, by omega, by omega, ?_, by omega, by omega⟩
  unfold sinStep
  rw [e1, i64_wrap _ (by omega)]

def s19 : SpecFn := fun l σ => match l with
  | [.int .i64 n] => some (none, encV (bnd n 268435455), σ)
  | _ => none
theorem s19_ok : SpecAt Tryd.prog 19 s19 := by
  intro l σ p v σ' h hp
  unfold s19 at h
  split at h
  · rename_i n
    injection h with h; injection h with h1 h; injection h with h2 h3
    subst h1; subst h2; subst h3
    exact ACalls.pure (Q := fun v => v = encV (bnd n 268435455)) (h0 := []) rfl rfl (t19 n) (fun v hv => by subst hv; rfl) (fun _ _ h => by simp [hget] at h)
  · cases h

noncomputable def Γ3 : Env := Γd (.node 20 s20 (.node 19 s19 (.node 16 s16 .nil (.node 18 s18 .nil .nil)) .nil) (.node 26 s26 (.node 24 s24 .nil .nil) (.node 28 s28 .nil .nil)))
theorem Γ3_ok : EOk Tryd.prog Γ3 := Γd_ok ⟨s20_ok, ⟨s19_ok, ⟨s16_ok, trivial, s18_ok, trivial, trivial⟩, trivial⟩, s26_ok, ⟨s24_ok, trivial, trivial⟩, s28_ok, trivial, trivial⟩

def sines : AObj := .mem tdty47.sh (.strct [.int .i64 8, .int .i64 (-483), .int .i64 21534, .int .i64 (-628374), .int .i64 10696163, .int .i64 (-86699834), .int .i64 210828714]) .ro

def sinP (r : Int) : Int := sinStep (sinS r) 210828714 (sinStep (sinS r) (-86699834) (sinStep (sinS r) 10696163 (sinStep (sinS r) (-628374) (sinStep (sinS r) 21534 (sinStep (sinS r) (-483) 8)))))
def sinV (r : Int) : AV := encV (bnd (quoV (IntKind.i64.wrap (IntKind.i64.wrap (4 * r) * sinP r)) 268435456) 268435455)


theorem and28 (x : Int) : ((BitVec.ofInt IntKind.i64.bits x &&& BitVec.ofInt IntKind.i64.bits 268435455).toNat : Int) = x % 268435456 := by
  show ((BitVec.ofInt 64 x &&& BitVec.ofInt 64 268435455).toNat : Int) = _
  have h2 : BitVec.ofInt 64 268435455 = BitVec.ofNat 64 (2 ^ 28 - 1) := by decide
  rw [h2, BitVec.toNat_and, BitVec.toNat_ofNat, Nat.mod_eq_of_lt (a := 2 ^ 28 - 1) (by decide), Nat.and_two_pow_sub_one_eq_mod]
  rw [BitVec.toNat_ofInt]
  have : ((x % ((2 ^ 64 : Nat) : Int)).toNat : Int) = x % ((2 ^ 64 : Nat) : Int) := Int.toNat_of_nonneg (Int.emod_nonneg _ (by decide))
  omega

def red0 (x : Int) : Int := if x % 268435456 ≥ 134217728 then x % 268435456 - 268435456 else x % 268435456
def red (x : Int) : Int := if red0 x > 67108864 then 134217728 - red0 x else if red0 x < -67108864 then -134217728 - red0 x else red0 x

theorem red_le (x : Int) : -67108864 ≤ red x ∧ red x ≤ 67108864 := by
  unfold red red0
  split <;> split <;> (try split) <;> omega


theorem sinStep_some {s c p B : Int} (hs : 0 ≤ s ∧ s ≤ 268435457) (hp : -B ≤ p ∧ p ≤ B) (hB : 0 ≤ B ∧ B ≤ 1073741000) (hc : -1073741000 ≤ c ∧ c ≤ 1073741000) (C : Int) (hC : -C + B + 5 ≤ c ∧ c + B + 5 ≤ C) :
    (-(2 ^ 62) < IntKind.i64.wrap (s * p) ∧ IntKind.i64.wrap (s * p) < 2 ^ 62) ∧ -C ≤ sinStep s c p ∧ sinStep s c p ≤ C := by
  obtain ⟨h1, h2, h3, h4, h5, h6⟩ := sinStep_le hs hp (by omega) (by omega : -1073741824 ≤ c ∧ c ≤ 1073741824)
  rw [h4]
  omega

theorem tail17 {r : Int} (hr : -67108864 ≤ r ∧ r ≤ 67108864) (fr : AFr) (z : AObj) (h4 : fget fr 4 = some (.int .i64 (IntKind.i64.wrap (4 * r)))) (h5 : fget fr 5 = some (.int .i64 (sinS r))) (h6 : fget fr 6 = some (.int .i64 8)) (h32 : fget fr 32 = some (.int .i64 0))
    (h2 : fget fr 2 = some (.ptr 4 [])) (hz : z = .mem tdty25.sh tdty25.zero .tight) :
    AW Tryd.prog ⟨17, loopT Tryd.f17 0, fr, ⟨5, [(4, some z), (0, some sines)]⟩⟩ fun v _ => v = sinV r := by
  subst hz
  obtain ⟨s1, s2, s3, s4, s5, s6⟩ := sinS_le hr
  have e7 : sinV r = encV (bnd (quoV (IntKind.i64.wrap (IntKind.i64.wrap (4 * r) * sinP r)) 268435456) 268435455) := rfl
  unfold sinP at e7
  rw [e7]
  clear e7
  generalize sinS r = s at *
  refine .same (fr := [(32, .int .i64 0), (6, .int .i64 8), (5, .int .i64 s), (4, .int .i64 (IntKind.i64.wrap (4 * r))), (2, .ptr 4 [])]) ?_ ⟨h32, h6, h5, h4, h2, trivial⟩ rfl
  refine arun_sound Γ3_ok.g Γ3_ok.s 1000 _ ?_
  conv => whnf
  obtain ⟨hn0, hp1⟩ := sinStep_some (c := (-483)) (p := 8) ⟨s5, s6⟩ (B := 8) (by omega) (by omega) (by omega) 496 (by omega)
  refine AW.draw Γ3_ok (pl := pld17_14) (by kernel_rfl) ?_
  conv => whnf
  repeat' (refine And.intro ?_ ?_)
  all_goals first | exact hn0.1 | exact hn0.2 | decide | skip
  all_goals
    conv => whnf
  all_goals try trivial
  generalize hq0 : sinStep s (-483) 8 = p1 at hp1 ⊢
  rw [show IntKind.i64.wrap ((-483) + quoV (IntKind.i64.wrap (s * 8)) 268435456) = p1 from hq0]
  refine arun_sound Γ3_ok.g Γ3_ok.s 1000 _ ?_
  conv => whnf
  refine .same (fr := [(7, .int .i64 1), (32, .int .i64 1), (6, .int .i64 p1), (5, .int .i64 s), (4, .int .i64 (IntKind.i64.wrap (4 * r))), (2, .ptr 4 [])]) (σ := ⟨5, [(4, some (.mem tdty25.sh tdty25.zero .tight)), (0, some sines)]⟩) ?_ ⟨rfl, rfl, rfl, rfl, rfl, rfl, trivial⟩ rfl
  obtain ⟨hn1, hp2⟩ := sinStep_some (c := 21534) (p := p1) ⟨s5, s6⟩ (B := 496) hp1 (by omega) (by omega) 22035 (by omega)
  refine AW.draw Γ3_ok (pl := pld17_14) (by kernel_rfl) ?_
  conv => whnf
  repeat' (refine And.intro ?_ ?_)
  all_goals first | exact hn1.1 | exact hn1.2 | decide | skip
  all_goals
    conv => whnf
  all_goals try trivial
  generalize hq1 : sinStep s 21534 p1 = p2 at hp2 ⊢
  rw [show IntKind.i64.wrap (21534 + quoV (IntKind.i64.wrap (s * p1)) 268435456) = p2 from hq1]
  refine arun_sound Γ3_ok.g Γ3_ok.s 1000 _ ?_
  conv => whnf
  refine .same (fr := [(7, .int .i64 2), (32, .int .i64 2), (6, .int .i64 p2), (5, .int .i64 s), (4, .int .i64 (IntKind.i64.wrap (4 * r))), (2, .ptr 4 [])]) (σ := ⟨5, [(4, some (.mem tdty25.sh tdty25.zero .tight)), (0, some sines)]⟩) ?_ ⟨rfl, rfl, rfl, rfl, rfl, rfl, trivial⟩ rfl
  obtain ⟨hn2, hp3⟩ := sinStep_some (c := (-628374)) (p := p2) ⟨s5, s6⟩ (B := 22035) hp2 (by omega) (by omega) 650414 (by omega)
  refine AW.draw Γ3_ok (pl := pld17_14) (by kernel_rfl) ?_
  conv => whnf
  repeat' (refine And.intro ?_ ?_)
  all_goals first | exact hn2.1 | exact hn2.2 | decide | skip
  all_goals
    conv => whnf
  all_goals try trivial
  generalize hq2 : sinStep s (-628374) p2 = p3 at hp3 ⊢
  rw [show IntKind.i64.wrap ((-628374) + quoV (IntKind.i64.wrap (s * p2)) 268435456) = p3 from hq2]
  refine arun_sound Γ3_ok.g Γ3_ok.s 1000 _ ?_
  conv => whnf
  refine .same (fr := [(7, .int .i64 3), (32, .int .i64 3), (6, .int .i64 p3), (5, .int .i64 s), (4, .int .i64 (IntKind.i64.wrap (4 * r))), (2, .ptr 4 [])]) (σ := ⟨5, [(4, some (.mem tdty25.sh tdty25.zero .tight)), (0, some sines)]⟩) ?_ ⟨rfl, rfl, rfl, rfl, rfl, rfl, trivial⟩ rfl
  obtain ⟨hn3, hp4⟩ := sinStep_some (c := 10696163) (p := p3) ⟨s5, s6⟩ (B := 650414) hp3 (by omega) (by omega) 11346582 (by omega)
  refine AW.draw Γ3_ok (pl := pld17_14) (by kernel_rfl) ?_
  conv => whnf
  repeat' (refine And.intro ?_ ?_)
  all_goals first | exact hn3.1 | exact hn3.2 | decide | skip
  all_goals
    conv => whnf
  all_goals try trivial
  generalize hq3 : sinStep s 10696163 p3 = p4 at hp4 ⊢
  rw [show IntKind.i64.wrap (10696163 + quoV (IntKind.i64.wrap (s * p3)) 268435456) = p4 from hq3]
  refine arun_sound Γ3_ok.g Γ3_ok.s 1000 _ ?_
  conv => whnf
  refine .same (fr := [(7, .int .i64 4), (32, .int .i64 4), (6, .int .i64 p4), (5, .int .i64 s), (4, .int .i64 (IntKind.i64.wrap (4 * r))), (2, .ptr 4 [])]) (σ := ⟨5, [(4, some (.mem tdty25.sh tdty25.zero .tight)), (0, some sines)]⟩) ?_ ⟨rfl, rfl, rfl, rfl, rfl, rfl, trivial⟩ rfl
  obtain ⟨hn4, hp5⟩ := sinStep_some (c := (-86699834)) (p := p4) ⟨s5, s6⟩ (B := 11346582) hp4 (by omega) (by omega) 98046421 (by omega)
  refine AW.draw Γ3_ok (pl := pld17_14) (by kernel_rfl) ?_
  conv => whnf
  repeat' (refine And.intro ?_ ?_)
  all_goals first | exact hn4.1 | exact hn4.2 | decide | skip
  all_goals
    conv => whnf
  all_goals try trivial
  generalize hq4 : sinStep s (-86699834) p4 = p5 at hp5 ⊢
  rw [show IntKind.i64.wrap ((-86699834) + quoV (IntKind.i64.wrap (s * p4)) 268435456) = p5 from hq4]
  refine arun_sound Γ3_ok.g Γ3_ok.s 1000 _ ?_
  conv => whnf
  refine .same (fr := [(7, .int .i64 5), (32, .int .i64 5), (6, .int .i64 p5), (5, .int .i64 s), (4, .int .i64 (IntKind.i64.wrap (4 * r))), (2, .ptr 4 [])]) (σ := ⟨5, [(4, some (.mem tdty25.sh tdty25.zero .tight)), (0, some sines)]⟩) ?_ ⟨rfl, rfl, rfl, rfl, rfl, rfl, trivial⟩ rfl
  obtain ⟨hn5, hp6⟩ := sinStep_some (c := 210828714) (p := p5) ⟨s5, s6⟩ (B := 98046421) hp5 (by omega) (by omega) 308875140 (by omega)
  refine AW.draw Γ3_ok (pl := pld17_14) (by kernel_rfl) ?_
  conv => whnf
  repeat' (refine And.intro ?_ ?_)
  all_goals first | exact hn5.1 | exact hn5.2 | decide | skip
  all_goals
    conv => whnf
  all_goals try trivial
  generalize hq5 : sinStep s 210828714 p5 = p6 at hp6 ⊢
  rw [show IntKind.i64.wrap (210828714 + quoV (IntKind.i64.wrap (s * p5)) 268435456) = p6 from hq5]
  refine arun_sound Γ3_ok.g Γ3_ok.s 1000 _ ?_
  conv => whnf

  have h9 := mul_bound (x := 4 * r) (y := p6) (X := 268435456) (Y := 308875140)
  have h10 : -(2 ^ 62) < IntKind.i64.wrap (IntKind.i64.wrap (4 * r) * p6) ∧ IntKind.i64.wrap (IntKind.i64.wrap (4 * r) * p6) < 2 ^ 62 := by
    rw [s1]
    have h11 : -(268435456 * 308875140) ≤ 4 * r * p6 ∧ 4 * r * p6 ≤ 268435456 * 308875140 := by
      rcases Int.le_total 0 r with h | h
      · exact mul_bound ⟨by omega, by omega⟩ hp6 (by omega)
      · have := mul_bound (x := -(4 * r)) (y := p6) (X := 268435456) ⟨by omega, by omega⟩ hp6 (by omega)
        rw [Int.neg_mul] at this
        omega
    rw [i64_wrap _ (by omega)]
    omega
  refine And.intro ⟨h10, by omega⟩ ?_
  conv => whnf
  rfl

theorem i64_in {n : Int} (lo hi : Int) (h : lo ≤ n ∧ n ≤ hi) (hlo : -9223372036854775808 ≤ lo) (hhi : hi ≤ 9223372036854775807) : IntKind.i64.wrap n = n := i64_wrap n (by omega)

theorem t17 (x : Int) : ACalls Tryd.prog 17 [.int .i64 x] ⟨4, [(0, some sines)]⟩ fun v _ => v = sinV (red x) := by
  have hr := red_le x
  have e0 : IntKind.i64.wrap (x % 268435456) = x % 268435456 := i64_wrap _ (by omega)
  have e3 : IntKind.i64.wrap (x % 268435456 - 268435456) = x % 268435456 - 268435456 := i64_wrap _ (by omega)
  refine .of_run Γ3_ok 1000 (F := Tryd.f17) rfl rfl ?_
  conv => whnf
  rw [and28, e0]
  refine br (fun h1 => ?_) (fun h1 => ?_)
  · conv => whnf
    rw [e3]
    refine br (fun h2 => ?_) (fun h2 => ?_)
    all_goals simp only [decide_eq_true_eq, decide_eq_false_iff_not] at h1 h2
    · omega
    conv => whnf
    refine br (fun h3 => ?_) (fun h3 => ?_)
    all_goals
      simp only [decide_eq_true_eq, decide_eq_false_iff_not] at h3
      conv => whnf
    · rw [i64_wrap (-134217728 - (x % 268435456 - 268435456)) (by omega)]
      have e4 : -134217728 - (x % 268435456 - 268435456) = red x := by
        unfold red red0; (repeat' split) <;> omega
      rw [e4]
      clear e3 e4 h1 h2 h3 e0
      generalize red x = r at hr ⊢
      obtain ⟨s1, s2, s3, s4, s5, s6⟩ := sinS_le hr
      refine And.intro ⟨by rw [s1, s2]; omega, by omega⟩ ?_
      rw [show quoV (IntKind.i64.wrap (IntKind.i64.wrap (4 * r) * IntKind.i64.wrap (4 * r))) 268435456 = sinS r from rfl]
      conv => whnf
      refine And.intro (by decide) ?_
      conv => whnf
      exact tail17 hr _ _ rfl rfl rfl rfl rfl rfl
    · have e4 : x % 268435456 - 268435456 = red x := by
        unfold red red0; (repeat' split) <;> omega
      rw [e4]
      clear e3 e4 h1 h2 h3 e0
      generalize red x = r at hr ⊢
      obtain ⟨s1, s2, s3, s4, s5, s6⟩ := sinS_le hr
      refine And.intro ⟨by rw [s1, s2]; omega, by omega⟩ ?_
      rw [show quoV (IntKind.i64.wrap (IntKind.i64.wrap (4 * r) * IntKind.i64.wrap (4 * r))) 268435456 = sinS r from rfl]
      conv => whnf
      refine And.intro (by decide) ?_
      conv => whnf
      exact tail17 hr _ _ rfl rfl rfl rfl rfl rfl
  · conv => whnf
    refine br (fun h2 => ?_) (fun h2 => ?_)
    all_goals simp only [decide_eq_true_eq, decide_eq_false_iff_not] at h1 h2
    · conv => whnf
      rw [i64_wrap (134217728 - x % 268435456) (by omega)]
      have e4 : 134217728 - x % 268435456 = red x := by
        unfold red red0; (repeat' split) <;> omega
      rw [e4]
      clear e3 e4 h1 h2 e0
      generalize red x = r at hr ⊢
      obtain ⟨s1, s2, s3, s4, s5, s6⟩ := sinS_le hr
      refine And.intro ⟨by rw [s1, s2]; omega, by omega⟩ ?_
      rw [show quoV (IntKind.i64.wrap (IntKind.i64.wrap (4 * r) * IntKind.i64.wrap (4 * r))) 268435456 = sinS r from rfl]
      conv => whnf
      refine And.intro (by decide) ?_
      conv => whnf
      exact tail17 hr _ _ rfl rfl rfl rfl rfl rfl
    · conv => whnf
      refine br (fun h3 => ?_) (fun h3 => ?_)
      · simp only [decide_eq_true_eq] at h3; omega
      conv => whnf
      have e4 : x % 268435456 = red x := by
        unfold red red0; (repeat' split) <;> omega
      rw [e4]
      clear e3 e4 h1 h2 h3 e0
      generalize red x = r at hr ⊢
      obtain ⟨s1, s2, s3, s4, s5, s6⟩ := sinS_le hr
      refine And.intro ⟨by rw [s1, s2]; omega, by omega⟩ ?_
      rw [show quoV (IntKind.i64.wrap (IntKind.i64.wrap (4 * r) * IntKind.i64.wrap (4 * r))) 268435456 = sinS r from rfl]
      conv => whnf
      refine And.intro (by decide) ?_
      conv => whnf
      exact tail17 hr _ _ rfl rfl rfl rfl rfl rfl
end Go.Ab
