/-
  NARROWER THAN 'FOR EVERY INPUT', by the rows' own cells (each row's printed sentence says how): FixedTurns: laid.
  DERIVED. THE GIVEN ROWS OF THIS SEAT. 1 by the template 'for every input the law returns true; each argument reads behind the call as it read before'; 0 by the template 'total and deterministic' (their statements: YtanifbomohnefaaDoorTotals.lean).
  GIVEN WITH THE SEED: the statements are not yours to turn. If you find one false, say at which input.
  Laid BY PROGRAM, IN A SANDBOX (cutbox-rows.mjs): the forced cells as the released guide's own fill.sh prints them over the translation 814de7cec7bf61ef… (all of the seat's roots in one cut). By AI agents, Wed Nov 11 2026. No macro, syntax, notation, axiom, sorry.
-/
import Derived.Test.YtanifbomohnefaaDoorChecked
import GoSem.Claim
import GoSem.ClaimJoined
import GoSem.ClaimMapViews
import Derived.JoinedTies
import Derived.KernelRfl
namespace Go.Proofs.YtanifbomohnefaaDoor
/- THE CELL 'sum', in the pinned program and in every row, IS THE sha256 OF THE DUMP (.gsa) THAT YtanifbomohnefaaDoorProg.lean LOADS. Nothing in Lean hashes anything: it is a label: what it is worth is what the hold of that sum in a sandbox is worth. -/
noncomputable def Tryd.pinned : Pinned := { name := "ytanifbomohnefaadoor", sum := "814de7cec7bf61ef7a5e5cdcaef7ade0eea43d38f392a14b32136e8d6e606cae", checked := Tryd.checked }
namespace Rows
def none {H : Type} : Left H := { results := [], args := [] }

/- WHAT THE LISTED PACKAGE-LEVEL VARIABLES READ AS WHEN THE CALL BEGINS. Each datum BY PROGRAM (the guide's laid-datum.mjs) off the statement by which the dump's own 'gosem.cut.vars' lays the variable. In a bare row this is a premise. The card (YtanifbomohnefaaDoorCards.lean) ties it to the program's text. -/
def laid_perilune_fixed_sines {H : Type} : DataW H := .agg [.lit (.int .i64 8), .lit (.int .i64 (-483)), .lit (.int .i64 21534), .lit (.int .i64 (-628374)), .lit (.int .i64 10696163), .lit (.int .i64 (-86699834)), .lit (.int .i64 210828714)]

/-- 'perilunelaw16.FixedTurns': WHATEVER THE INPUT: true; the input reads as it did. -/
def fixedTurnsSpec : ChangeSpec := { name := "fixedTurns", fn := fun _ => fun
  | [d] => { results := [.lit (.bool true)], args := [d] }
  | _ => none }
def fixedTurnsRow : OpenClaim := { program := "ytanifbomohnefaadoor", sum := "814de7cec7bf61ef7a5e5cdcaef7ade0eea43d38f392a14b32136e8d6e606cae", func := "perilune/perilunelaw16.FixedTurns", spec := "fixedTurns", unfollowed := true, recurses := true, named := ["perilune/fixed.sines"], apart := false, laid := [("perilune/fixed.sines", laid_perilune_fixed_sines)] }
def FixedTurnsSaid : Prop := fixedTurnsRow.holds Tryd.pinned (OpenSpec.ofChange fixedTurnsSpec)

/-- ITS FALSE NEIGHBOUR: 'it returns false'. Refute it at one input. -/
def fixedTurnsWrong : ChangeSpec := { name := "fixedTurns", fn := fun _ => fun
  | [d] => { results := [.lit (.bool false)], args := [d] }
  | _ => none }
def FixedTurnsWrongFalsely : Prop := fixedTurnsRow.holds Tryd.pinned (OpenSpec.ofChange fixedTurnsWrong)

/- THE SECOND FORM. 'bulk': how many values and letters a reading holds, each counted each time it is reached (what is shared counts as often as it is met; a slice's spare places count too). A statement '..UptoSaid' is the law's where the arguments, and the package variables that the reading takes, are together of bulk at most 1048576: NARROWER than '..Said'. Prove '..Said' where nothing that the law and all that it calls make is longer than what came in: it says more and counts as full. Else prove '..UptoSaid'. A law counts once. -/
mutual
def uptoBulk {H : Type} : DataW H → Nat
  | .lit (.string bytes) => bytes.length + 1
  | .lit _ => 1
  | .nil => 1
  | .ptr d => uptoBulk d + 1
  | .slice elems spare => uptoBulkAll elems + uptoBulkAll spare + 1
  | .agg parts => uptoBulkAll parts + 1
  | .iface _ d => uptoBulk d + 1
  | .map entries => uptoBulkEntries entries + 1
  | .held _ => 1
def uptoBulkAll {H : Type} : List (DataW H) → Nat
  | [] => 0
  | d :: r => uptoBulk d + uptoBulkAll r
def uptoBulkEntries {H : Type} : List (Lit × DataW H) → Nat
  | [] => 0
  | x :: r => uptoBulkEntry x + uptoBulkEntries r
def uptoBulkEntry {H : Type} : Lit × DataW H → Nat
  | (.string bytes, d) => bytes.length + uptoBulk d + 1
  | (_, d) => uptoBulk d + 1
 end
def uptoSmall : (H : Type) → List (DataW H) → Bool := fun _ ds => decide (uptoBulkAll ds ≤ 1048576)
def OpenSpec.upto (s : _root_.Go.ChangeSpec) : _root_.Go.OpenSpec := { _root_.Go.OpenSpec.ofChange s with cond := some uptoSmall }

/-- 'perilunelaw16.FixedTurns', WHERE WHAT IT READS IS OF BULK AT MOST 1048576: true; the input reads as it did. -/
def fixedTurnsUptoRow : OpenClaim := { program := "ytanifbomohnefaadoor", sum := "814de7cec7bf61ef7a5e5cdcaef7ade0eea43d38f392a14b32136e8d6e606cae", func := "perilune/perilunelaw16.FixedTurns", spec := "fixedTurns", unfollowed := true, recurses := true, named := ["perilune/fixed.sines"], apart := false, laid := [("perilune/fixed.sines", laid_perilune_fixed_sines)], narrowed := true }
def FixedTurnsUptoSaid : Prop := fixedTurnsUptoRow.holds Tryd.pinned (OpenSpec.upto fixedTurnsSpec)

end Rows
end Go.Proofs.YtanifbomohnefaaDoor
