/- Walks, fourth part: the digits of a double word. Conditions: none. -/
import Derived.Test.YtanifbomohnefaaDoorW3
namespace Go.Ab
open Go Go.Proofs
set_option maxRecDepth 100000
attribute [local irreducible] AW ACalls

theorem and14 (x : Int) (hx : 0 ≤ x ∧ x < 18446744073709551616) : ((BitVec.ofInt IntKind.u64.bits x &&& BitVec.ofInt IntKind.u64.bits 16383).toNat : Int) = x % 16384 := by
  obtain ⟨n, rfl⟩ := Int.eq_ofNat_of_zero_le hx.1
  show ((BitVec.ofInt 64 (n : Int) &&& BitVec.ofInt 64 16383).toNat : Int) = _
  have h1 : BitVec.ofInt 64 (n : Int) = BitVec.ofNat 64 n := by simp
  have h2 : BitVec.ofInt 64 16383 = BitVec.ofNat 64 (2 ^ 14 - 1) := by decide
  rw [h1, h2, BitVec.toNat_and, BitVec.toNat_ofNat, BitVec.toNat_ofNat, Nat.mod_eq_of_lt (a := n) (by omega), Nat.mod_eq_of_lt (a := 2 ^ 14 - 1) (by decide), Nat.and_two_pow_sub_one_eq_mod]
  omega

theorem shr14 (x : Int) : x.fdiv (2 ^ min (Int.toNat 14) IntKind.u64.bits) = x / 16384 := by
  rw [show min (Int.toNat 14) IntKind.u64.bits = 14 by decide, Int.fdiv_eq_ediv_of_nonneg _ (by decide)]
  rfl

def encHi (n : Int) : Int := if n < 0 then 32767 - -n / 16384 else n / 16384
def encLo (n : Int) : Int := if n < 0 then 32767 - -n % 16384 else n % 16384
def encV (n : Int) : AV := .strct [.int .u16 (encHi n), .int .u16 (encLo n)]

theorem t28 (n : Int) (hn : -(2 ^ 28) < n ∧ n < 2 ^ 28) : ACalls Tryd.prog 28 [.int .i64 n] ⟨4, []⟩ fun v _ => v = encV n := by
  refine .of_run (Γd_ok (t := .nil) trivial) 1000 (F := Tryd.f28) rfl rfl ?_
  conv => whnf
  refine .of_run (Γd_ok (t := .nil) trivial) 1000 (F := Tryd.f29) rfl rfl ?_
  conv => whnf
  refine br (fun h1 => ?_) (fun h1 => ?_)
  all_goals
    conv => whnf
    refine arun_sound (Γd_g .nil) (Γd_ok (t := .nil) trivial).s 1000 _ ?_
    conv => whnf
    refine .of_run (Γd_ok (t := .nil) trivial) 1000 (F := Tryd.f30) rfl rfl ?_
    conv => whnf
    refine And.intro (by decide) ?_
    conv => whnf
    refine br (fun h2 => ?_) (fun h2 => ?_)
  all_goals first | (rw [h1] at h2; cases h2; done) | skip
  all_goals
    conv => whnf
    refine arun_sound (Γd_g .nil) (Γd_ok (t := .nil) trivial).s 1000 _ ?_
    conv => whnf
    refine .of_run (Γd_ok (t := .nil) trivial) 1000 (F := Tryd.f30) rfl rfl ?_
    conv => whnf
    refine And.intro (by decide) ?_
    conv => whnf
    refine br (fun h3 => ?_) (fun h3 => ?_)
  all_goals first | (rw [h1] at h3; cases h3; done) | skip
  all_goals
    conv => whnf
    refine arun_sound (Γd_g .nil) (Γd_ok (t := .nil) trivial).s 1000 _ ?_
    conv => whnf
    simp only [decide_eq_true_eq, decide_eq_false_iff_not] at h1
    simp only [packResults, AV.set, setParts, setNth, shr14, encV, encHi, encLo, h1, if_true, if_false]
  · have e1 : IntKind.u64.wrap (0 - IntKind.u64.wrap n) = -n := by simp only [IntKind.wrap_u64]; omega
    rw [e1, and14 (-n) (by omega), and14 (-n / 16384) (by omega)]
    simp only [IntKind.wrap_u64, IntKind.wrap_u16]
    congr 3
    · omega
    · congr 2; omega
  · have e1 : IntKind.u64.wrap n = n := by simp only [IntKind.wrap_u64]; omega
    have hlt : 0 ≤ n ∧ n < 268435456 := by omega
    clear hn h1 h2 h3
    rw [e1, and14 n (by omega), and14 (n / 16384) (by omega)]
    clear e1
    simp only [IntKind.wrap_u64, IntKind.wrap_u16]
    have g1 : n / 16384 % 16384 % 18446744073709551616 % 65536 = n / 16384 := by omega
    have g2 : n % 16384 % 18446744073709551616 % 65536 = n % 16384 := by omega
    rw [g1, g2]
end Go.Ab
