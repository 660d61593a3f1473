/-
  NARROWER THAN 'FOR EVERY INPUT', by the rows' own cells (each row's printed sentence says how): ObserveGrows: laid.
  DERIVED. THE GIVEN ROWS OF THIS SEAT. 1 by the template 'for every input the law returns true; each argument reads behind the call as it read before'; 0 by the template 'total and deterministic' (their statements: YtnklnklkblgnfaaGreatDoorTotals.lean).
  GIVEN WITH THE SEED: the statements are not yours to turn. If you find one false, say at which input.
  Laid BY PROGRAM, IN A SANDBOX (cutbox-rows.mjs): the forced cells as the released guide's own fill.sh prints them over the translation 25ba004c77634816… (all of the seat's roots in one cut). By AI agents, Wed Nov 11 2026. No macro, syntax, notation, axiom, sorry.
-/
import Derived.Test.YtnklnklkblgnfaaGreatDoorChecked
import GoSem.Claim
import GoSem.ClaimJoined
import GoSem.ClaimMapViews
import Derived.JoinedTies
import Derived.KernelRfl
namespace Go.Proofs.YtnklnklkblgnfaaGreatDoor
/- THE CELL 'sum', in the pinned program and in every row, IS THE sha256 OF THE DUMP (.gsa) THAT YtnklnklkblgnfaaGreatDoorProg.lean LOADS. Nothing in Lean hashes anything: it is a label: what it is worth is what the hold of that sum in a sandbox is worth. -/
noncomputable def Tryz.pinned : Pinned := { name := "ytnklnklkblgnfaagreatdoor", sum := "25ba004c77634816affca3078c1f4bec71f15a2e9494443c46d687b74be70901", checked := Tryz.checked }
namespace Rows
def none {H : Type} : Left H := { results := [], args := [] }

/- WHAT THE LISTED PACKAGE-LEVEL VARIABLES READ AS WHEN THE CALL BEGINS. Each datum BY PROGRAM (the guide's laid-datum.mjs) off the statement by which the dump's own 'gosem.cut.vars' lays the variable. In a bare row this is a premise. The card (YtnklnklkblgnfaaGreatDoorCards.lean) ties it to the program's text. -/
def laid_dataflow_ir_forms {H : Type} : DataW H := .agg [.lit (.string []), .lit (.string [100, 110]), .lit (.string [100]), .lit (.string [100, 97]), .lit (.string [100, 97, 111, 98]), .lit (.string [100]), .lit (.string [100, 99]), .lit (.string [100, 97, 109]), .lit (.string [97, 109, 98]), .lit (.string [100, 97, 99, 109, 42]), .lit (.string [100, 99, 109, 42]), .lit (.string [97, 103]), .lit (.string [103]), .lit (.string [97]), .lit (.string [97]), .lit (.string [100, 99]), .lit (.string [100, 97, 110])]

/-- 'dataflowlaw16.ObserveGrows': WHATEVER THE INPUT: true; the input reads as it did. -/
def observeGrowsSpec : ChangeSpec := { name := "observeGrows", fn := fun _ => fun
  | [d1, d2, d3, d4] => { results := [.lit (.bool true)], args := [d1, d2, d3, d4] }
  | _ => none }
def observeGrowsRow : OpenClaim := { program := "ytnklnklkblgnfaagreatdoor", sum := "25ba004c77634816affca3078c1f4bec71f15a2e9494443c46d687b74be70901", func := "dataflow/dataflowlaw16.ObserveGrows", spec := "observeGrows", inPlace := ["internal/bytealg.IndexByteString"], unfollowed := true, recurses := true, named := ["dataflow/ir.forms"], plainKeys := false, apart := false, laid := [("dataflow/ir.forms", laid_dataflow_ir_forms)] }
def ObserveGrowsSaid : Prop := observeGrowsRow.holds Tryz.pinned (OpenSpec.ofChange observeGrowsSpec)

/-- ITS FALSE NEIGHBOUR: 'it returns false'. Refute it at one input. -/
def observeGrowsWrong : ChangeSpec := { name := "observeGrows", fn := fun _ => fun
  | [d1, d2, d3, d4] => { results := [.lit (.bool false)], args := [d1, d2, d3, d4] }
  | _ => none }
def ObserveGrowsWrongFalsely : Prop := observeGrowsRow.holds Tryz.pinned (OpenSpec.ofChange observeGrowsWrong)

/- THE SECOND FORM. 'bulk': how many values and letters a reading holds, each counted each time it is reached (what is shared counts as often as it is met; a slice's spare places count too). A statement '..UptoSaid' is the law's where the arguments, and the package variables that the reading takes, are together of bulk at most 1048576: NARROWER than '..Said'. Prove '..Said' where nothing that the law and all that it calls make is longer than what came in: it says more and counts as full. Else prove '..UptoSaid'. A law counts once. -/
mutual
def uptoBulk {H : Type} : DataW H → Nat
  | .lit (.string bytes) => bytes.length + 1
  | .lit _ => 1
  | .nil => 1
  | .ptr d => uptoBulk d + 1
  | .slice elems spare => uptoBulkAll elems + uptoBulkAll spare + 1
  | .agg parts => uptoBulkAll parts + 1
  | .iface _ d => uptoBulk d + 1
  | .map entries => uptoBulkEntries entries + 1
  | .held _ => 1
def uptoBulkAll {H : Type} : List (DataW H) → Nat
  | [] => 0
  | d :: r => uptoBulk d + uptoBulkAll r
def uptoBulkEntries {H : Type} : List (Lit × DataW H) → Nat
  | [] => 0
  | x :: r => uptoBulkEntry x + uptoBulkEntries r
def uptoBulkEntry {H : Type} : Lit × DataW H → Nat
  | (.string bytes, d) => bytes.length + uptoBulk d + 1
  | (_, d) => uptoBulk d + 1
 end
def uptoSmall : (H : Type) → List (DataW H) → Bool := fun _ ds => decide (uptoBulkAll ds ≤ 1048576)
def OpenSpec.upto (s : _root_.Go.ChangeSpec) : _root_.Go.OpenSpec := { _root_.Go.OpenSpec.ofChange s with cond := some uptoSmall }

/-- 'dataflowlaw16.ObserveGrows', WHERE WHAT IT READS IS OF BULK AT MOST 1048576: true; the input reads as it did. -/
def observeGrowsUptoRow : OpenClaim := { program := "ytnklnklkblgnfaagreatdoor", sum := "25ba004c77634816affca3078c1f4bec71f15a2e9494443c46d687b74be70901", func := "dataflow/dataflowlaw16.ObserveGrows", spec := "observeGrows", inPlace := ["internal/bytealg.IndexByteString"], unfollowed := true, recurses := true, named := ["dataflow/ir.forms"], plainKeys := false, apart := false, laid := [("dataflow/ir.forms", laid_dataflow_ir_forms)], narrowed := true }
def ObserveGrowsUptoSaid : Prop := observeGrowsUptoRow.holds Tryz.pinned (OpenSpec.upto observeGrowsSpec)

end Rows
end Go.Proofs.YtnklnklkblgnfaaGreatDoor
