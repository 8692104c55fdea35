/- Walks, ninth part: FixedTurns is true. Conditions: none. -/
import Derived.Test.YtanifbomohnefaaDoorW8
namespace Go.Ab
open Go Go.Proofs
set_option maxRecDepth 100000
attribute [local irreducible] AW ACalls

theorem t3 (x y : Int) (hx : 0 ≤ x ∧ x < 65536) (hy : 0 ≤ y ∧ y < 65536) : ACalls Tryd.prog 3 [.strct [.int .u16 x, .int .u16 y]] ⟨4, [(0, some sines)]⟩ fun v _ => v = .bool true := by
  have w1 := wordV_le x
  have w2 := wordV_le y
  refine .of_run Γa_ok 1000 (F := Tryd.f3) rfl rfl ?_
  conv => whnf
  refine And.intro rfl ?_
  conv => whnf
  refine And.intro ⟨hx, hy⟩ ?_
  conv => whnf
  refine And.intro (by decide) ?_
  conv => whnf
  rw [tmod_self (n := wordV x * 16384 + wordV y) (by omega)]
  have hn : -268435456 < wordV x * 16384 + wordV y ∧ wordV x * 16384 + wordV y < 268435456 := by omega
  generalize hn' : wordV x * 16384 + wordV y = n at hn
  rw [i64_wrap (0 - n) (by omega), Int.zero_sub]
  refine And.intro (by omega) ?_
  conv => whnf
  refine And.intro ⟨⟨hx, hy⟩, rfl⟩ ?_
  rw [hn']
  have hs := sinN_le (red n)
  conv => whnf
  refine AW.draw Γa_ok (pl := pld3_6) (by kernel_rfl) ?_
  conv => whnf
  refine And.intro ⟨enc_words (n := -n) (by omega), rfl⟩ ?_
  refine And.intro (by (conv => whnf); first | trivial | exact ⟨rfl, trivial⟩ | exact ⟨rfl, rfl, trivial⟩ | exact ⟨rfl, rfl, rfl, trivial⟩) ?_
  conv => whnf
  rw [wordV_hi (n := -n) (by omega)]
  have hsm := sinN_le (red (-n))
  refine And.intro (enc_words (n := sinN (red (-n))) (by omega)) ?_
  refine And.intro (by (conv => whnf); first | trivial | exact ⟨rfl, trivial⟩ | exact ⟨rfl, rfl, trivial⟩ | exact ⟨rfl, rfl, rfl, trivial⟩) ?_
  conv => whnf
  refine And.intro (enc_words (n := sinN (red n)) (by omega)) ?_
  refine And.intro (by (conv => whnf); first | trivial | exact ⟨rfl, trivial⟩ | exact ⟨rfl, rfl, trivial⟩ | exact ⟨rfl, rfl, rfl, trivial⟩) ?_
  conv => whnf
  have hodd : sinN (red (-n)) = -sinN (red n) := by rw [red_neg, sinN_neg (red_le n)]
  refine br (fun hb => ?_) (fun hb => ?_)
  · exfalso
    have hb : ((wordV (encHi (sinN (red (-n)))) * 16384 + wordV (encLo (sinN (red (-n))))) != IntKind.i64.wrap (0 - (wordV (encHi (sinN (red n))) * 16384 + wordV (encLo (sinN (red n)))))) = true := hb
    rw [wordV_hi (by omega), wordV_hi (by omega), i64_wrap _ (by omega)] at hb
    simp at hb
    omega
  clear hb
  conv => whnf
  refine And.intro ⟨enc_words (n := -n) (by omega), rfl⟩ ?_
  refine And.intro (by (conv => whnf); first | trivial | exact ⟨rfl, trivial⟩ | exact ⟨rfl, rfl, trivial⟩ | exact ⟨rfl, rfl, rfl, trivial⟩) ?_
  conv => whnf
  rw [wordV_hi (n := -n) (by omega)]
  refine And.intro ⟨⟨hx, hy⟩, rfl⟩ ?_
  refine And.intro (by (conv => whnf); first | trivial | exact ⟨rfl, trivial⟩ | exact ⟨rfl, rfl, trivial⟩ | exact ⟨rfl, rfl, rfl, trivial⟩) ?_
  conv => whnf
  rw [hn', show red (-n + 67108864) = red (n + 67108864) by rw [← red_mirror]; congr 1; omega]
  refine arun_sound Γa_ok.g Γa_ok.s 1000 _ ?_
  conv => whnf
  refine br (fun hb => ?_) (fun hb => ?_)
  · simp at hb
  clear hb
  conv => whnf
  refine br (fun h0 => ?_) (fun h0 => ?_)
  · conv => whnf
    rw [i64_wrap (n + 268435456) (by omega)]
    simp only [decide_eq_true_eq] at h0
    have hu : 0 < n + 268435456 ∧ n + 268435456 < 268435456 := by omega
    have hr : red (n + 268435456) = red n := red_period n
    refine .forget (n := 7) (fr := [(6, .int .i64 (n + 268435456)), (5, .ptr 6 [])]) (h := [(6, some (.mem tdty25.sh (sinV (red n)) .tight)), (0, some sines)]) ?_ ⟨rfl, rfl, trivial⟩ rfl ⟨rfl, rfl, trivial⟩
    generalize n + 268435456 = u at *
    refine AW.draw Γa_ok (pl := pld3_11) (by kernel_rfl) ?_
    conv => whnf
    refine And.intro (by omega) ?_
    refine And.intro (by (conv => whnf); first | trivial | exact ⟨rfl, trivial⟩ | exact ⟨rfl, rfl, trivial⟩ | exact ⟨rfl, rfl, rfl, trivial⟩) ?_
    conv => whnf
    refine And.intro ⟨enc_words (n := u) (by omega), rfl⟩ ?_
    refine And.intro (by (conv => whnf); first | trivial | exact ⟨rfl, trivial⟩ | exact ⟨rfl, rfl, trivial⟩ | exact ⟨rfl, rfl, rfl, trivial⟩) ?_
    conv => whnf
    rw [wordV_hi (n := u) (by omega), hr]
    refine arun_sound Γa_ok.g Γa_ok.s 1000 _ ?_
    conv => whnf
    refine br (fun hb => ?_) (fun hb => ?_)
    · simp at hb
    clear hb
    conv => whnf
    refine .forget (n := 7) (fr := [(6, .int .i64 u), (5, .ptr 6 [])]) (h := [(6, some (.mem tdty25.sh (sinV (red n)) .tight)), (0, some sines)]) ?_ ⟨rfl, rfl, trivial⟩ rfl ⟨rfl, rfl, trivial⟩
    refine AW.draw Γa_ok (pl := pld3_13) (by kernel_rfl) ?_
    conv => whnf
    refine br (fun h1 => ?_) (fun h1 => ?_)
    · conv => whnf
      refine And.intro (by (conv => whnf); first | trivial | exact ⟨rfl, trivial⟩ | exact ⟨rfl, rfl, trivial⟩ | exact ⟨rfl, rfl, rfl, trivial⟩) ?_
      conv => whnf
      refine And.intro (by (conv => whnf); first | trivial | exact ⟨rfl, trivial⟩ | exact ⟨rfl, rfl, trivial⟩ | exact ⟨rfl, rfl, rfl, trivial⟩) ?_
      conv => whnf
      refine And.intro (by (conv => whnf); first | trivial | exact ⟨rfl, trivial⟩ | exact ⟨rfl, rfl, trivial⟩ | exact ⟨rfl, rfl, rfl, trivial⟩) ?_
      conv => whnf
      refine arun_sound Γa_ok.g Γa_ok.s 1000 _ ?_
      conv => whnf
      rfl
    · conv => whnf
      simp only [decide_eq_false_iff_not] at h1
      rw [i64_wrap (134217728 - u) (by omega)]
      refine And.intro (by omega) ?_
      refine And.intro (by (conv => whnf); first | trivial | exact ⟨rfl, trivial⟩ | exact ⟨rfl, rfl, trivial⟩ | exact ⟨rfl, rfl, rfl, trivial⟩) ?_
      conv => whnf
      refine And.intro ⟨enc_words (n := 134217728 - u) (by omega), rfl⟩ ?_
      refine And.intro (by (conv => whnf); first | trivial | exact ⟨rfl, trivial⟩ | exact ⟨rfl, rfl, trivial⟩ | exact ⟨rfl, rfl, rfl, trivial⟩) ?_
      conv => whnf
      rw [wordV_hi (n := 134217728 - u) (by omega), red_mirror, hr]
      refine And.intro (by (conv => whnf); first | trivial | exact ⟨rfl, trivial⟩ | exact ⟨rfl, rfl, trivial⟩ | exact ⟨rfl, rfl, rfl, trivial⟩) ?_
      conv => whnf
      refine arun_sound Γa_ok.g Γa_ok.s 1000 _ ?_
      conv => whnf
      simp [packResults]
  · conv => whnf
    simp only [decide_eq_false_iff_not] at h0
    obtain ⟨u, hu'⟩ : ∃ u, u = n := ⟨n, rfl⟩
    have hr : red u = red n := by rw [hu']
    refine .forget (n := 7) (fr := [(6, .int .i64 u), (5, .ptr 6 [])]) (h := [(6, some (.mem tdty25.sh (sinV (red n)) .tight)), (0, some sines)]) ?_ ⟨by rw [hu']; rfl, rfl, trivial⟩ rfl ⟨rfl, rfl, trivial⟩
    have hu : 0 ≤ u ∧ u < 268435456 := by omega
    clear hu'
    refine AW.draw Γa_ok (pl := pld3_11) (by kernel_rfl) ?_
    conv => whnf
    refine And.intro (by omega) ?_
    refine And.intro (by (conv => whnf); first | trivial | exact ⟨rfl, trivial⟩ | exact ⟨rfl, rfl, trivial⟩ | exact ⟨rfl, rfl, rfl, trivial⟩) ?_
    conv => whnf
    refine And.intro ⟨enc_words (n := u) (by omega), rfl⟩ ?_
    refine And.intro (by (conv => whnf); first | trivial | exact ⟨rfl, trivial⟩ | exact ⟨rfl, rfl, trivial⟩ | exact ⟨rfl, rfl, rfl, trivial⟩) ?_
    conv => whnf
    rw [wordV_hi (n := u) (by omega), hr]
    refine arun_sound Γa_ok.g Γa_ok.s 1000 _ ?_
    conv => whnf
    refine br (fun hb => ?_) (fun hb => ?_)
    · simp at hb
    clear hb
    conv => whnf
    refine .forget (n := 7) (fr := [(6, .int .i64 u), (5, .ptr 6 [])]) (h := [(6, some (.mem tdty25.sh (sinV (red n)) .tight)), (0, some sines)]) ?_ ⟨rfl, rfl, trivial⟩ rfl ⟨rfl, rfl, trivial⟩
    refine AW.draw Γa_ok (pl := pld3_13) (by kernel_rfl) ?_
    conv => whnf
    refine br (fun h1 => ?_) (fun h1 => ?_)
    · conv => whnf
      refine And.intro (by (conv => whnf); first | trivial | exact ⟨rfl, trivial⟩ | exact ⟨rfl, rfl, trivial⟩ | exact ⟨rfl, rfl, rfl, trivial⟩) ?_
      conv => whnf
      refine And.intro (by (conv => whnf); first | trivial | exact ⟨rfl, trivial⟩ | exact ⟨rfl, rfl, trivial⟩ | exact ⟨rfl, rfl, rfl, trivial⟩) ?_
      conv => whnf
      refine And.intro (by (conv => whnf); first | trivial | exact ⟨rfl, trivial⟩ | exact ⟨rfl, rfl, trivial⟩ | exact ⟨rfl, rfl, rfl, trivial⟩) ?_
      conv => whnf
      refine arun_sound Γa_ok.g Γa_ok.s 1000 _ ?_
      conv => whnf
      rfl
    · conv => whnf
      simp only [decide_eq_false_iff_not] at h1
      rw [i64_wrap (134217728 - u) (by omega)]
      refine And.intro (by omega) ?_
      refine And.intro (by (conv => whnf); first | trivial | exact ⟨rfl, trivial⟩ | exact ⟨rfl, rfl, trivial⟩ | exact ⟨rfl, rfl, rfl, trivial⟩) ?_
      conv => whnf
      refine And.intro ⟨enc_words (n := 134217728 - u) (by omega), rfl⟩ ?_
      refine And.intro (by (conv => whnf); first | trivial | exact ⟨rfl, trivial⟩ | exact ⟨rfl, rfl, trivial⟩ | exact ⟨rfl, rfl, rfl, trivial⟩) ?_
      conv => whnf
      rw [wordV_hi (n := 134217728 - u) (by omega), red_mirror, hr]
      refine And.intro (by (conv => whnf); first | trivial | exact ⟨rfl, trivial⟩ | exact ⟨rfl, rfl, trivial⟩ | exact ⟨rfl, rfl, rfl, trivial⟩) ?_
      conv => whnf
      refine arun_sound Γa_ok.g Γa_ok.s 1000 _ ?_
      conv => whnf
      simp [packResults]
end Go.Ab
