/-
  No cell of these rows narrows 'for every input' (looked for: loops, veiled, ifaces, maps, wideKeys, modest, calm, conditions, laid).
  DERIVED. THE GIVEN ROWS OF THIS SEAT. 5 by the template 'for every input the law returns true; each argument reads behind the call as it read before'; 0 by the template 'total and deterministic' (their statements: YtgblfjccccdidaaGreatTotals.lean).
  GIVEN WITH THE SEED: the statements are not yours to turn. If you find one false, say at which input.
  Laid BY PROGRAM, IN A SANDBOX (cutbox-rows.mjs): the forced cells as the released guide's own fill.sh prints them over the translation cf7ffcf4f653ac49… (all of the seat's roots in one cut). By AI agents, Wed Nov 11 2026. No macro, syntax, notation, axiom, sorry.
-/
import Derived.Test.YtgblfjccccdidaaGreatChecked
import GoSem.Claim
import GoSem.ClaimJoined
import GoSem.ClaimMapViews
import Derived.JoinedTies
import Derived.KernelRfl
namespace Go.Proofs.YtgblfjccccdidaaGreat
/- THE CELL 'sum', in the pinned program and in every row, IS THE sha256 OF THE DUMP (.gsa) THAT YtgblfjccccdidaaGreatProg.lean LOADS. Nothing in Lean hashes anything: it is a label: what it is worth is what the hold of that sum in a sandbox is worth. -/
noncomputable def Tryz.pinned : Pinned := { name := "ytgblfjccccdidaagreat", sum := "cf7ffcf4f653ac498b99459a1463284348076497e48f50151ed577442d8ca4f9", checked := Tryz.checked }
namespace Rows
def none {H : Type} : Left H := { results := [], args := [] }

/-- 'dataflowlaw19.CollapseCycles': WHATEVER THE INPUT: true; the input reads as it did. -/
def collapseCyclesSpec : ChangeSpec := { name := "collapseCycles", fn := fun _ => fun
  | [d] => { results := [.lit (.bool true)], args := [d] }
  | _ => none }
def collapseCyclesRow : OpenClaim := { program := "ytgblfjccccdidaagreat", sum := "cf7ffcf4f653ac498b99459a1463284348076497e48f50151ed577442d8ca4f9", func := "dataflow/dataflowlaw19.CollapseCycles", spec := "collapseCycles", unfollowed := true, recurses := true, plainKeys := false, apart := false }
def CollapseCyclesSaid : Prop := collapseCyclesRow.holds Tryz.pinned (OpenSpec.ofChange collapseCyclesSpec)

/-- ITS FALSE NEIGHBOUR: 'it returns false'. Refute it at one input. -/
def collapseCyclesWrong : ChangeSpec := { name := "collapseCycles", fn := fun _ => fun
  | [d] => { results := [.lit (.bool false)], args := [d] }
  | _ => none }
def CollapseCyclesWrongFalsely : Prop := collapseCyclesRow.holds Tryz.pinned (OpenSpec.ofChange collapseCyclesWrong)

/-- 'dataflowlaw19.CollapseExpand': WHATEVER THE INPUT: true; the input reads as it did. -/
def collapseExpandSpec : ChangeSpec := { name := "collapseExpand", fn := fun _ => fun
  | [d1, d2] => { results := [.lit (.bool true)], args := [d1, d2] }
  | _ => none }
def collapseExpandRow : OpenClaim := { program := "ytgblfjccccdidaagreat", sum := "cf7ffcf4f653ac498b99459a1463284348076497e48f50151ed577442d8ca4f9", func := "dataflow/dataflowlaw19.CollapseExpand", spec := "collapseExpand", unfollowed := true, recurses := true, plainKeys := false, apart := false }
def CollapseExpandSaid : Prop := collapseExpandRow.holds Tryz.pinned (OpenSpec.ofChange collapseExpandSpec)

/-- ITS FALSE NEIGHBOUR: 'it returns false'. Refute it at one input. -/
def collapseExpandWrong : ChangeSpec := { name := "collapseExpand", fn := fun _ => fun
  | [d1, d2] => { results := [.lit (.bool false)], args := [d1, d2] }
  | _ => none }
def CollapseExpandWrongFalsely : Prop := collapseExpandRow.holds Tryz.pinned (OpenSpec.ofChange collapseExpandWrong)

/-- 'dataflowlaw19.CollapseSolve': WHATEVER THE INPUT: true; the input reads as it did. -/
def collapseSolveSpec : ChangeSpec := { name := "collapseSolve", fn := fun _ => fun
  | [d] => { results := [.lit (.bool true)], args := [d] }
  | _ => none }
def collapseSolveRow : OpenClaim := { program := "ytgblfjccccdidaagreat", sum := "cf7ffcf4f653ac498b99459a1463284348076497e48f50151ed577442d8ca4f9", func := "dataflow/dataflowlaw19.CollapseSolve", spec := "collapseSolve", unfollowed := true, recurses := true, plainKeys := false, apart := false }
def CollapseSolveSaid : Prop := collapseSolveRow.holds Tryz.pinned (OpenSpec.ofChange collapseSolveSpec)

/-- ITS FALSE NEIGHBOUR: 'it returns false'. Refute it at one input. -/
def collapseSolveWrong : ChangeSpec := { name := "collapseSolve", fn := fun _ => fun
  | [d] => { results := [.lit (.bool false)], args := [d] }
  | _ => none }
def CollapseSolveWrongFalsely : Prop := collapseSolveRow.holds Tryz.pinned (OpenSpec.ofChange collapseSolveWrong)

/-- 'dataflowlaw19.CollapseAcyclic': WHATEVER THE INPUT: true; the input reads as it did. -/
def collapseAcyclicSpec : ChangeSpec := { name := "collapseAcyclic", fn := fun _ => fun
  | [d] => { results := [.lit (.bool true)], args := [d] }
  | _ => none }
def collapseAcyclicRow : OpenClaim := { program := "ytgblfjccccdidaagreat", sum := "cf7ffcf4f653ac498b99459a1463284348076497e48f50151ed577442d8ca4f9", func := "dataflow/dataflowlaw19.CollapseAcyclic", spec := "collapseAcyclic", unfollowed := true, recurses := true, plainKeys := false, apart := false }
def CollapseAcyclicSaid : Prop := collapseAcyclicRow.holds Tryz.pinned (OpenSpec.ofChange collapseAcyclicSpec)

/-- ITS FALSE NEIGHBOUR: 'it returns false'. Refute it at one input. -/
def collapseAcyclicWrong : ChangeSpec := { name := "collapseAcyclic", fn := fun _ => fun
  | [d] => { results := [.lit (.bool false)], args := [d] }
  | _ => none }
def CollapseAcyclicWrongFalsely : Prop := collapseAcyclicRow.holds Tryz.pinned (OpenSpec.ofChange collapseAcyclicWrong)

/-- 'dataflowlaw19.CollapseEqual': WHATEVER THE INPUT: true; the input reads as it did. -/
def collapseEqualSpec : ChangeSpec := { name := "collapseEqual", fn := fun _ => fun
  | [d] => { results := [.lit (.bool true)], args := [d] }
  | _ => none }
def collapseEqualRow : OpenClaim := { program := "ytgblfjccccdidaagreat", sum := "cf7ffcf4f653ac498b99459a1463284348076497e48f50151ed577442d8ca4f9", func := "dataflow/dataflowlaw19.CollapseEqual", spec := "collapseEqual", unfollowed := true, recurses := true, plainKeys := false, apart := false }
def CollapseEqualSaid : Prop := collapseEqualRow.holds Tryz.pinned (OpenSpec.ofChange collapseEqualSpec)

/-- ITS FALSE NEIGHBOUR: 'it returns false'. Refute it at one input. -/
def collapseEqualWrong : ChangeSpec := { name := "collapseEqual", fn := fun _ => fun
  | [d] => { results := [.lit (.bool false)], args := [d] }
  | _ => none }
def CollapseEqualWrongFalsely : Prop := collapseEqualRow.holds Tryz.pinned (OpenSpec.ofChange collapseEqualWrong)

/- THE SECOND FORM. 'bulk': how many values and letters a reading holds, each counted each time it is reached (what is shared counts as often as it is met; a slice's spare places count too). A statement '..UptoSaid' is the law's where the arguments, and the package variables that the reading takes, are together of bulk at most 1048576: NARROWER than '..Said'. Prove '..Said' where nothing that the law and all that it calls make is longer than what came in: it says more and counts as full. Else prove '..UptoSaid'. A law counts once. -/
mutual
def uptoBulk {H : Type} : DataW H → Nat
  | .lit (.string bytes) => bytes.length + 1
  | .lit _ => 1
  | .nil => 1
  | .ptr d => uptoBulk d + 1
  | .slice elems spare => uptoBulkAll elems + uptoBulkAll spare + 1
  | .agg parts => uptoBulkAll parts + 1
  | .iface _ d => uptoBulk d + 1
  | .map entries => uptoBulkEntries entries + 1
  | .held _ => 1
def uptoBulkAll {H : Type} : List (DataW H) → Nat
  | [] => 0
  | d :: r => uptoBulk d + uptoBulkAll r
def uptoBulkEntries {H : Type} : List (Lit × DataW H) → Nat
  | [] => 0
  | x :: r => uptoBulkEntry x + uptoBulkEntries r
def uptoBulkEntry {H : Type} : Lit × DataW H → Nat
  | (.string bytes, d) => bytes.length + uptoBulk d + 1
  | (_, d) => uptoBulk d + 1
 end
def uptoSmall : (H : Type) → List (DataW H) → Bool := fun _ ds => decide (uptoBulkAll ds ≤ 1048576)
def OpenSpec.upto (s : _root_.Go.ChangeSpec) : _root_.Go.OpenSpec := { _root_.Go.OpenSpec.ofChange s with cond := some uptoSmall }

/-- 'dataflowlaw19.CollapseCycles', WHERE WHAT IT READS IS OF BULK AT MOST 1048576: true; the input reads as it did. -/
def collapseCyclesUptoRow : OpenClaim := { program := "ytgblfjccccdidaagreat", sum := "cf7ffcf4f653ac498b99459a1463284348076497e48f50151ed577442d8ca4f9", func := "dataflow/dataflowlaw19.CollapseCycles", spec := "collapseCycles", unfollowed := true, recurses := true, plainKeys := false, apart := false, narrowed := true }
def CollapseCyclesUptoSaid : Prop := collapseCyclesUptoRow.holds Tryz.pinned (OpenSpec.upto collapseCyclesSpec)

/-- 'dataflowlaw19.CollapseExpand', WHERE WHAT IT READS IS OF BULK AT MOST 1048576: true; the input reads as it did. -/
def collapseExpandUptoRow : OpenClaim := { program := "ytgblfjccccdidaagreat", sum := "cf7ffcf4f653ac498b99459a1463284348076497e48f50151ed577442d8ca4f9", func := "dataflow/dataflowlaw19.CollapseExpand", spec := "collapseExpand", unfollowed := true, recurses := true, plainKeys := false, apart := false, narrowed := true }
def CollapseExpandUptoSaid : Prop := collapseExpandUptoRow.holds Tryz.pinned (OpenSpec.upto collapseExpandSpec)

/-- 'dataflowlaw19.CollapseSolve', WHERE WHAT IT READS IS OF BULK AT MOST 1048576: true; the input reads as it did. -/
def collapseSolveUptoRow : OpenClaim := { program := "ytgblfjccccdidaagreat", sum := "cf7ffcf4f653ac498b99459a1463284348076497e48f50151ed577442d8ca4f9", func := "dataflow/dataflowlaw19.CollapseSolve", spec := "collapseSolve", unfollowed := true, recurses := true, plainKeys := false, apart := false, narrowed := true }
def CollapseSolveUptoSaid : Prop := collapseSolveUptoRow.holds Tryz.pinned (OpenSpec.upto collapseSolveSpec)

/-- 'dataflowlaw19.CollapseAcyclic', WHERE WHAT IT READS IS OF BULK AT MOST 1048576: true; the input reads as it did. -/
def collapseAcyclicUptoRow : OpenClaim := { program := "ytgblfjccccdidaagreat", sum := "cf7ffcf4f653ac498b99459a1463284348076497e48f50151ed577442d8ca4f9", func := "dataflow/dataflowlaw19.CollapseAcyclic", spec := "collapseAcyclic", unfollowed := true, recurses := true, plainKeys := false, apart := false, narrowed := true }
def CollapseAcyclicUptoSaid : Prop := collapseAcyclicUptoRow.holds Tryz.pinned (OpenSpec.upto collapseAcyclicSpec)

/-- 'dataflowlaw19.CollapseEqual', WHERE WHAT IT READS IS OF BULK AT MOST 1048576: true; the input reads as it did. -/
def collapseEqualUptoRow : OpenClaim := { program := "ytgblfjccccdidaagreat", sum := "cf7ffcf4f653ac498b99459a1463284348076497e48f50151ed577442d8ca4f9", func := "dataflow/dataflowlaw19.CollapseEqual", spec := "collapseEqual", unfollowed := true, recurses := true, plainKeys := false, apart := false, narrowed := true }
def CollapseEqualUptoSaid : Prop := collapseEqualUptoRow.holds Tryz.pinned (OpenSpec.upto collapseEqualSpec)

end Rows
end Go.Proofs.YtgblfjccccdidaaGreat
