/- The plain law of the turns: the sine is odd, of one period, and mirrored at a quarter. Conditions: none. -/
import Derived.Test.YtanifbomohnefaaDoorW6
namespace Go.Ab
open Go Go.Proofs

theorem quoN_zero : quoN 0 268435456 = 0 := by decide

theorem quoV_neg (a : Int) : quoV (-a) 268435456 = -quoV a 268435456 := by
  unfold quoV
  by_cases h1 : a < 0
  · rw [if_neg (by omega), if_pos h1, Int.neg_neg]
  · by_cases h2 : a = 0
    · subst h2; decide
    · rw [if_pos (by omega), if_neg h1, Int.neg_neg]

theorem bnd_neg (a b : Int) (hb : 0 ≤ b) : bnd (-a) b = -bnd a b := by
  unfold bnd
  split <;> split <;> (try split) <;> omega

theorem sinS_neg {r : Int} (hr : -67108864 ≤ r ∧ r ≤ 67108864) : sinS (-r) = sinS r := by
  obtain ⟨e1, e2, _⟩ := sinS_le hr
  obtain ⟨f1, f2, _⟩ := sinS_le (r := -r) (by omega)
  unfold sinS
  rw [f1, f2, e1, e2]
  congr 1
  have : 4 * -r = -(4 * r) := by omega
  rw [this, Int.neg_mul_neg]

theorem sinP_neg {r : Int} (hr : -67108864 ≤ r ∧ r ≤ 67108864) : sinP (-r) = sinP r := by
  unfold sinP; rw [sinS_neg hr]

/-- The number that the polynomial comes to. -/
def sinN (r : Int) : Int := bnd (quoV (IntKind.i64.wrap (IntKind.i64.wrap (4 * r) * sinP r)) 268435456) 268435455

theorem sinV_eq (r : Int) : sinV r = encV (sinN r) := rfl
theorem sinN_le (r : Int) : -268435455 ≤ sinN r ∧ sinN r ≤ 268435455 := bnd_le _ _ (by omega)

theorem red_neg (v : Int) : red (-v) = -red v := by
  unfold red red0
  split <;> split <;> (try split) <;> (try split) <;> (try split) <;> (try split) <;> omega
theorem red_mirror (v : Int) : red (134217728 - v) = red v := by
  unfold red red0
  split <;> split <;> (try split) <;> (try split) <;> (try split) <;> (try split) <;> omega
theorem red_period (v : Int) : red (v + 268435456) = red v := by
  unfold red red0
  have : (v + 268435456) % 268435456 = v % 268435456 := by omega
  rw [this]

theorem wordV_hi {n : Int} (hn : -268435456 < n ∧ n < 268435456) : wordV (encHi n) * 16384 + wordV (encLo n) = n := by
  unfold wordV encHi encLo
  split <;> split <;> split <;> omega
theorem enc_words {n : Int} (hn : -268435456 < n ∧ n < 268435456) : (0 ≤ encHi n ∧ encHi n < 65536) ∧ (0 ≤ encLo n ∧ encLo n < 65536) := by
  unfold encHi encLo
  split <;> omega
theorem mul_bound2 {x y X Y : Int} (hx : -X ≤ x ∧ x ≤ X) (hy : -Y ≤ y ∧ y ≤ Y) (hY : 0 ≤ Y) : -(X * Y) ≤ x * y ∧ x * y ≤ X * Y := by
  rcases Int.le_total 0 x with h | h
  · exact mul_bound ⟨h, hx.2⟩ hy hY
  · have := mul_bound (x := -x) (y := y) (X := X) (Y := Y) ⟨by omega, by omega⟩ hy hY
    rw [Int.neg_mul] at this
    omega

/-- The polynomial's last product does not wrap. -/
theorem sinP_le {r : Int} (hr : -67108864 ≤ r ∧ r ≤ 67108864) : (-9223372036854775808 ≤ -(4 * r * sinP r) ∧ -(4 * r * sinP r) ≤ 9223372036854775807) ∧ (-9223372036854775808 ≤ 4 * r * sinP r ∧ 4 * r * sinP r ≤ 9223372036854775807) := by
  obtain ⟨s1, s2, s3, s4, s5, s6⟩ := sinS_le hr
  have hp : -308875140 ≤ sinP r ∧ sinP r ≤ 308875140 := by
    unfold sinP
    generalize sinS r = s at *
    have h1 := (sinStep_some (c := (-483)) (p := 8) ⟨s5, s6⟩ (B := 8) (by omega) (by omega) (by omega) 496 (by omega)).2
    generalize sinStep s (-483) 8 = p1 at *
    have h2 := (sinStep_some (c := 21534) (p := p1) ⟨s5, s6⟩ (B := 496) h1 (by omega) (by omega) 22035 (by omega)).2
    generalize sinStep s 21534 p1 = p2 at *
    have h3 := (sinStep_some (c := (-628374)) (p := p2) ⟨s5, s6⟩ (B := 22035) h2 (by omega) (by omega) 650414 (by omega)).2
    generalize sinStep s (-628374) p2 = p3 at *
    have h4 := (sinStep_some (c := 10696163) (p := p3) ⟨s5, s6⟩ (B := 650414) h3 (by omega) (by omega) 11346582 (by omega)).2
    generalize sinStep s 10696163 p3 = p4 at *
    have h5 := (sinStep_some (c := (-86699834)) (p := p4) ⟨s5, s6⟩ (B := 11346582) h4 (by omega) (by omega) 98046421 (by omega)).2
    generalize sinStep s (-86699834) p4 = p5 at *
    exact (sinStep_some (c := 210828714) (p := p5) ⟨s5, s6⟩ (B := 98046421) h5 (by omega) (by omega) 308875140 (by omega)).2
  have := mul_bound2 (x := 4 * r) (y := sinP r) (X := 268435456) (Y := 308875140) (by omega) hp (by omega)
  omega

theorem sinN_neg {r : Int} (hr : -67108864 ≤ r ∧ r ≤ 67108864) : sinN (-r) = -sinN r := by
  obtain ⟨e1, _⟩ := sinS_le hr
  obtain ⟨f1, _⟩ := sinS_le (r := -r) (by omega)
  have hb := sinP_le hr
  unfold sinN
  rw [f1, e1, sinP_neg hr, show 4 * -r = -(4 * r) by omega, Int.neg_mul, i64_wrap _ hb.1, i64_wrap _ hb.2, quoV_neg, bnd_neg _ _ (by omega)]

theorem tmod_self {n : Int} (h : -268435456 < n ∧ n < 268435456) : n.tmod 268435456 = n := by
  rcases Int.le_total 0 n with h0 | h0
  · rw [Int.tmod_eq_emod_of_nonneg h0]; omega
  · have : n = -(-n) := by omega
    rw [this, Int.neg_tmod, Int.tmod_eq_emod_of_nonneg (by omega)]; omega
end Go.Ab
