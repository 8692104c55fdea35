/- The sine is odd and periodic, the sine of half a revolution minus an angle is that of the angle, and the cosine is even: FixedTurns returns true for every double and leaves it as it was. Conditions: the variable sines reads as its text lays it (tied by the card). -/
import Derived.Test.YtanifbomohnefaaDoorRows
import Derived.Test.YtanifbomohnefaaDoorCards
import Derived.Test.YtanifbomohnefaaDoorTie
import Derived.Test.YtanifbomohnefaaDoorW9
import Derived.Test.YtanifbomohnefaaDoorLift
import Derived.ProofKit
import Derived.LaidMore
import Derived.OpenShut
import Derived.Stop.Joined
import Derived.SevenTiedAt
namespace Go.Proofs.YtanifbomohnefaaDoor
open Go Go.Ab Go.ChangeShapes Go.WideShapes Go.ChangeAt Go.WideMaps Go.WideElems Go.RowKit

theorem own : ownKnob Tryd.prog.godebug = none := by kernel_rfl
theorem gSines : Tryd.prog.globalNamed "perilune/fixed.sines" = some 0 := by kernel_rfl
theorem tSines : (Tryd.prog.globals[0]?).map (·.type) = some 47 := by kernel_rfl
theorem u47 : Tryd.prog.underlying 47 = some (.array 7 2) := by kernel_rfl
theorem u25 : Tryd.prog.underlying 25 = some (.array 2 23) := by kernel_rfl
theorem u23 : Tryd.prog.underlying 23 = some (.int .u16) := by kernel_rfl
theorem u2 : Tryd.prog.underlying 2 = some (.int .i64) := by kernel_rfl
theorem u4 : Tryd.prog.underlying 4 = some .bool := by kernel_rfl
theorem c2 : Tryd.prog.cellsOf 2 = 1 := by kernel_rfl
theorem c23 : Tryd.prog.cellsOf 23 = 1 := by kernel_rfl
theorem c25 : Tryd.prog.cellsOf 25 = 2 := by kernel_rfl
theorem c47 : Tryd.prog.cellsOf 47 = 7 := by kernel_rfl

abbrev laidL : List (String × DataW Unit) := [("perilune/fixed.sines", Rows.laid_perilune_fixed_sines)]

theorem door_met (os : Os) (args : Array Value) : laidMetH Tryd.prog laidL ((World.doorLaid Tryd.prog 400 os).forCall (fun _ _ => 0) ⟨#[], args, []⟩).memory :=
  laidMetH_of_parts3 (fuel := 8) (laidMet_of_run' 8 (by kernel_rfl) (by kernel_rfl)) (by kernel_rfl) (by kernel_rfl)

/-- The table's cells. -/
theorem of_laid {W : World} (h : laidMetH Tryd.prog laidL W) : ∃ cs e fz, W.heap[0]? = some (.cells cs e fz) ∧
    ∀ j, j < 7 → cs[j]? = ([.int .i64 8, .int .i64 (-483), .int .i64 21534, .int .i64 (-628374), .int .i64 10696163, .int .i64 (-86699834), .int .i64 210828714] : List Value)[j]? := by
  rw [MakeChecks.laidMetH_plain _ _ _ (by kernel_rfl)] at h
  obtain ⟨ps, ⟨g0, t0, cs0, f0, p0, q0, hg0, ht0, hv0, hd0, _, _⟩, _, _⟩ := h
  obtain rfl := Option.some.inj (gSines.symm.trans hg0)
  obtain rfl := Option.some.inj (tSines.symm.trans ht0)
  obtain ⟨xs, m, rfl, hx, hlen, hn7, hel⟩ := DataW.trod_array u47 hd0
  simp only [Prod.mk.injEq] at hx
  have hx1 : xs.map (·.1) = [.lit (.int .i64 8), .lit (.int .i64 (-483)), .lit (.int .i64 21534), .lit (.int .i64 (-628374)), .lit (.int .i64 10696163), .lit (.int .i64 (-86699834)), .lit (.int .i64 210828714)] := by
    have := hx.1
    simp only [Rows.laid_perilune_fixed_sines, DataW.agg.injEq] at this
    exact this.symm
  have hheap : ∃ e fz, W.heap[0]? = some (.cells cs0 e fz) := by
    simp only [World.var?, gSines, Option.bind_some] at hv0
    split at hv0
    · rename_i cs e fz hh
      injection hv0 with hv0
      subst hv0
      exact ⟨e, fz, hh⟩
    · cases hv0
  obtain ⟨e, fz, hh⟩ := hheap
  refine ⟨cs0, e, fz, hh, fun j hj => ?_⟩
  have h1 := hel j hj
  rw [c2] at h1
  obtain ⟨x, hxj⟩ : ∃ x, xs[j]? = some x := ⟨xs[j]'(by omega), List.getElem?_eq_getElem (by omega)⟩
  rw [hxj] at h1
  obtain ⟨n, e1, e2, _⟩ := DataW.trod_int u2 h1
  have h2 : (xs.map (·.1))[j]? = some (.lit (.int .i64 n)) := by rw [List.getElem?_map, hxj, e2]; rfl
  rw [hx1] at h2
  have h3 : cs0.toList[j]? = some (.int .i64 n) := by
    have : (List.take 1 (List.drop (j * 1) cs0.toList))[0]? = some (.int .i64 n) := by rw [e1]; rfl
    rw [List.getElem?_take, List.getElem?_drop] at this
    simpa using this
  rw [← Array.getElem?_toList, h3]
  rcases j with _ | _ | _ | _ | _ | _ | _ | j
  all_goals first | omega | (simp at h2; subst h2; rfl)

theorem plain25 : plainT Tryd.prog 8 25 = true := by kernel_rfl
theorem plain3 : ∀ t ∈ Tryd.f3.params.toList, plainT Tryd.prog 8 t = true := by
  intro t ht
  have ht : t ∈ ([25] : List TypeId) := ht
  have h : t = 25 := by simpa using ht
  rw [h]
  exact plain25

theorem two_cells {cs : Array Value} {a b : Value} (h : cs.size = 2) (h0 : cs[0]? = some a) (h1 : cs[1]? = some b) : cs = #[a, b] := by
  obtain ⟨l⟩ := cs
  match l, h with
  | [c, d], _ =>
    simp at h0 h1
    subst h0; subst h1
    rfl

/-- The memory in which the call begins. -/
def phi0 : Phi := fun b => match b with
  | 0 => ⟨0, 0, 0, tdty47.sh⟩
  | b + 1 => ⟨b + 1, 0, 0, .leaf⟩

theorem walk (x y : Int) (hx : 0 ≤ x ∧ x < 65536) (hy : 0 ≤ y ∧ y < 65536) (W : World) (hl : laidMetH Tryd.prog laidL W) :
    Calls Tryd.prog 3 #[.agg #[.int .u16 x, .int .u16 y]] W fun e w' => e = .returned (.bool true) ∧ Kept W w' := by
  obtain ⟨cs, e, ⟨lo, hi⟩, hh, hc⟩ := of_laid hl
  have hsim : Sim phi0 (fun b => b ≤ 3) ⟨4, [(0, some sines)]⟩ W := by
    have hg : ∀ b o, hget [(0, some sines)] b = some o → b = 0 ∧ o = sines := by
      intro b o h
      simp only [hget] at h
      split at h
      · rename_i hb
        have := Nat.eq_of_beq_eq_true hb
        injection h with h
        exact ⟨this.symm, h.symm⟩
      · cases h
    refine ⟨fun b o hb => ?_, fun b hb => ?_, fun b o hb => ?_, fun b b' o o' hne h1 h2 => ?_, fun g hg => ?_⟩
    · obtain ⟨rfl, _⟩ := hg b o hb; omega
    · show b < 4; omega
    · obtain ⟨rfl, rfl⟩ := hg b o hb
      refine ⟨rfl, ⟨trivial, trivial, trivial, trivial, trivial, trivial, trivial, trivial⟩, by simp [AV.ok, AV.oks], cs, e, lo, hi, hh, fun j hj => ?_, fun h => absurd rfl h, fun h => (by cases h), fun h => (by cases h)⟩
      have hj7 : j < 7 := hj
      show cs[0 + j]? = _
      rw [Nat.zero_add, hc j hj7]
      rfl
    · obtain ⟨rfl, _⟩ := hg b o h1
      obtain ⟨rfl, _⟩ := hg b' o' h2
      exact absurd rfl hne
    · refine ⟨hg, ?_⟩
      cases g <;> exact ⟨rfl, rfl⟩
  refine (t3 x y hx hy phi0 _ W hsim (by simp [AV.oks, AV.ok])).mono ?_
  rintro e' w' ⟨v, σ', φ', A', rfl, rfl, _, _, hev⟩
  exact ⟨rfl, evo_kept rfl hev⟩

set_option maxRecDepth 100000 in
theorem lifted (os : Os) (started : os.Started) (H : Type) (enc : TypeId × Value → H) :
    ReturnsInHanded {} Tryd.checked os 3 .any (fun w args => (Rows.fixedTurnsSpec.pre enc Tryd.prog Tryd.f3 [] false w args ∧ laidMetH Tryd.prog laidL w) ∧ sizedMet enc Tryd.prog Tryd.f3 (OpenSpec.ofChange Rows.fixedTurnsSpec) false w args)
      (Rows.fixedTurnsSpec.post enc Tryd.prog Tryd.f3 false true false false) := by
  refine returnsInHanded_of_change_and (C := Tryd.checked) (X := fun w _ => laidMetH Tryd.prog laidL w) (fun _ _ _ hh h => h.of_heap hh) own started (by kernel_rfl) Tryd.func3
    (ChangeSpec.witness_shaped (enc := enc) (C := Tryd.checked) (os := os) (X := fun w _ => laidMetH Tryd.prog laidL w) false (World.doorLaid Tryd.prog 400 os) #[.agg #[.int .u16 0, .int .u16 0]] 8 rfl (World.shaped_of_RefB (by kernel_rfl) (by kernel_rfl)) (by kernel_rfl) (by kernel_rfl) (by kernel_rfl) (door_met os _)) ?_
  intro W base args ds gs before hval0 hW _ _ hL _
  have hW' := hW
  obtain ⟨p, q, hA, hV, rfl, hfz, hnd⟩ := hW
  have hA0 : DataW.TrodAll enc Tryd.prog W 0 (fun _ => true) true [25] args.toList ds p := hA
  obtain ⟨rfl, rfl⟩ := trodVars_none (show DataW.TrodVars enc Tryd.prog W (fun _ => true) [] gs q from hV)
  obtain ⟨v0, d0, rfl, rfl, ⟨n, h0⟩⟩ := trodAll_one hA0
  have hval : Value.okWide Tryd.prog W .any base 25 v0 := hval0 0 25 v0 rfl rfl
  obtain ⟨cs, rfl, hcs⟩ : ∃ cs, v0 = .agg cs ∧ cs.size = Tryd.prog.cellsOf 25 := by
    simp only [Value.okWide, u25] at hval
    obtain ⟨cs, h1, h2, _⟩ := hval
    exact ⟨cs, h1, h2⟩
  rw [c25] at hcs
  obtain ⟨xs, m, rfl, hx, hlen, hn2, hel⟩ := DataW.trod_array u25 h0
  have hword : ∀ j, j < 2 → ∃ z, cs[j]? = some (.int .u16 z) ∧ 0 ≤ z ∧ z < 65536 := by
    intro j hj
    have h1 := hel j hj
    rw [c23] at h1
    obtain ⟨x, hxj⟩ : ∃ x, xs[j]? = some x := ⟨xs[j]'(by omega), List.getElem?_eq_getElem (by omega)⟩
    rw [hxj] at h1
    obtain ⟨z, e1, e2, e3⟩ := DataW.trod_int u23 h1
    refine ⟨z, ?_, ?_⟩
    · have : (List.take 1 (List.drop (j * 1) (Value.agg cs).cells.toList))[0]? = some (.int .u16 z) := by rw [e1]; rfl
      rw [List.getElem?_take, List.getElem?_drop] at this
      simpa [Value.cells] using this
    · simp [Lit.wf, IntKind.min, IntKind.max, IntKind.signed, IntKind.bits] at e3
      omega
  obtain ⟨x, hx0, hxb⟩ := hword 0 (by omega)
  obtain ⟨y, hy0, hyb⟩ := hword 1 (by omega)
  have hcs2 : cs = #[.int .u16 x, .int .u16 y] := two_cells hcs hx0 hy0
  subst hcs2
  refine (walk x y hxb hyb W hL).mono ?_
  rintro e w' ⟨rfl, hk⟩
  exact ⟨_, rfl, post_law (tb := 4) rfl u4 rfl hW' plain3 hk rfl⟩

theorem fixedTurns_row : Rows.FixedTurnsSaid :=
  OpenClaim.holds_of_wide 3 Tryd.f3 rfl rfl rfl rfl rfl rfl rfl ⟨rfl, rfl, rfl, rfl, rfl⟩ rfl rfl rfl rfl rfl (by kernel_rfl) Tryd.func3 (by kernel_rfl)
    (of_decide_eq_true (by kernel_rfl)) (by unfold Func.isWrapper; first | (rw [if_pos (by decide +kernel)]; kernel_rfl) | (rw [if_neg (by decide +kernel)]; exact ⟨rfl, rfl⟩))
    (fun os started H enc _ => lifted os started H enc)

theorem fixedTurns_holds : Rows.FixedTurnsCardSaid :=
  Claim7.holds_tied_plain_at .later [] [.data] true (true, "026b53cabb2e77365cd9474267f593e30bdeec00f0143f744c8b15b6b19bb354") false
    fixedTurns_row (fun _ h => by cases h) (by kernel_rfl) (fun _ h => by cases h) fixedTurns_row_tie rfl ⟨rfl, rfl⟩ (by kernel_rfl) rfl
    (fun f fn hf hfn => by
      obtain rfl : f = 3 := Option.some.inj ((show Tryd.prog.funcNamed "perilune/perilunelaw16.FixedTurns" = some 3 by kernel_rfl).symm.trans hf) |>.symm
      obtain rfl : fn = Tryd.f3 := (Option.some.inj (Tryd.func3.symm.trans hfn)).symm
      exact ⟨by kernel_rfl, fun j t ht => by
        have ht : (#[25] : Array TypeId)[j]? = some t := ht
        have h3 : t = 25 := by
          rcases j with _ | j
          · simpa using ht.symm
          · simp at ht
        subst h3
        exact (show Tryd.prog.wantsStandIn 25 = false by kernel_rfl)⟩)
    (by kernel_rfl)
#print axioms fixedTurns_holds
end Go.Proofs.YtanifbomohnefaaDoor
