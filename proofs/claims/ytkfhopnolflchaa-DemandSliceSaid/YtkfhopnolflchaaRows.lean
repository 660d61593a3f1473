/-
  No cell of these rows narrows 'for every input' (looked for: loops, veiled, ifaces, maps, wideKeys, modest, calm, conditions, laid).
  DERIVED. THE GIVEN ROWS OF THIS SEAT. 4 by the template 'for every input the law returns true; each argument reads behind the call as it read before'; 0 by the template 'total and deterministic' (their statements: YtkfhopnolflchaaTotals.lean).
  GIVEN WITH THE SEED: the statements are not yours to turn. If you find one false, say at which input.
  Laid BY PROGRAM, IN A SANDBOX (cutbox-rows.mjs): the forced cells as the released guide's own fill.sh prints them over the translation 17ac52bdbc8f6592… (all of the seat's roots in one cut). By AI agents, Wed Nov 11 2026. No macro, syntax, notation, axiom, sorry.
-/
import Derived.Test.YtkfhopnolflchaaChecked
import GoSem.Claim
import GoSem.ClaimJoined
import GoSem.ClaimMapViews
import Derived.JoinedTies
import Derived.KernelRfl
namespace Go.Proofs.Ytkfhopnolflchaa
/- THE CELL 'sum', in the pinned program and in every row, IS THE sha256 OF THE DUMP (.gsa) THAT YtkfhopnolflchaaProg.lean LOADS. Nothing in Lean hashes anything: it is a label: what it is worth is what the hold of that sum in a sandbox is worth. -/
noncomputable def Try.pinned : Pinned := { name := "ytkfhopnolflchaa", sum := "17ac52bdbc8f6592d0858c441d470d130cc49aec124ccf405c472e9a8bb687be", checked := Try.checked }
namespace Rows
def none {H : Type} : Left H := { results := [], args := [] }

/-- 'dataflowlaw24.DemandQuery': WHATEVER THE INPUT: true; the input reads as it did. -/
def demandQuerySpec : ChangeSpec := { name := "demandQuery", fn := fun _ => fun
  | [d1, d2, d3] => { results := [.lit (.bool true)], args := [d1, d2, d3] }
  | _ => none }
def demandQueryRow : OpenClaim := { program := "ytkfhopnolflchaa", sum := "17ac52bdbc8f6592d0858c441d470d130cc49aec124ccf405c472e9a8bb687be", func := "dataflow/dataflowlaw24.DemandQuery", spec := "demandQuery", unfollowed := true, recurses := true, plainKeys := false, apart := false }
def DemandQuerySaid : Prop := demandQueryRow.holds Try.pinned (OpenSpec.ofChange demandQuerySpec)

/-- ITS FALSE NEIGHBOUR: 'it returns false'. Refute it at one input. -/
def demandQueryWrong : ChangeSpec := { name := "demandQuery", fn := fun _ => fun
  | [d1, d2, d3] => { results := [.lit (.bool false)], args := [d1, d2, d3] }
  | _ => none }
def DemandQueryWrongFalsely : Prop := demandQueryRow.holds Try.pinned (OpenSpec.ofChange demandQueryWrong)

/-- 'dataflowlaw24.DemandSlice': WHATEVER THE INPUT: true; the input reads as it did. -/
def demandSliceSpec : ChangeSpec := { name := "demandSlice", fn := fun _ => fun
  | [d1, d2] => { results := [.lit (.bool true)], args := [d1, d2] }
  | _ => none }
def demandSliceRow : OpenClaim := { program := "ytkfhopnolflchaa", sum := "17ac52bdbc8f6592d0858c441d470d130cc49aec124ccf405c472e9a8bb687be", func := "dataflow/dataflowlaw24.DemandSlice", spec := "demandSlice", unfollowed := true, recurses := true, plainKeys := false, apart := false }
def DemandSliceSaid : Prop := demandSliceRow.holds Try.pinned (OpenSpec.ofChange demandSliceSpec)

/-- ITS FALSE NEIGHBOUR: 'it returns false'. Refute it at one input. -/
def demandSliceWrong : ChangeSpec := { name := "demandSlice", fn := fun _ => fun
  | [d1, d2] => { results := [.lit (.bool false)], args := [d1, d2] }
  | _ => none }
def DemandSliceWrongFalsely : Prop := demandSliceRow.holds Try.pinned (OpenSpec.ofChange demandSliceWrong)

/-- 'dataflowlaw24.DemandEqual': WHATEVER THE INPUT: true; the input reads as it did. -/
def demandEqualSpec : ChangeSpec := { name := "demandEqual", fn := fun _ => fun
  | [d1, d2, d3] => { results := [.lit (.bool true)], args := [d1, d2, d3] }
  | _ => none }
def demandEqualRow : OpenClaim := { program := "ytkfhopnolflchaa", sum := "17ac52bdbc8f6592d0858c441d470d130cc49aec124ccf405c472e9a8bb687be", func := "dataflow/dataflowlaw24.DemandEqual", spec := "demandEqual", unfollowed := true, recurses := true, plainKeys := false, apart := false }
def DemandEqualSaid : Prop := demandEqualRow.holds Try.pinned (OpenSpec.ofChange demandEqualSpec)

/-- ITS FALSE NEIGHBOUR: 'it returns false'. Refute it at one input. -/
def demandEqualWrong : ChangeSpec := { name := "demandEqual", fn := fun _ => fun
  | [d1, d2, d3] => { results := [.lit (.bool false)], args := [d1, d2, d3] }
  | _ => none }
def DemandEqualWrongFalsely : Prop := demandEqualRow.holds Try.pinned (OpenSpec.ofChange demandEqualWrong)

/-- 'dataflowlaw24.DemandNeeds': WHATEVER THE INPUT: true; the input reads as it did. -/
def demandNeedsSpec : ChangeSpec := { name := "demandNeeds", fn := fun _ => fun
  | [d1, d2] => { results := [.lit (.bool true)], args := [d1, d2] }
  | _ => none }
def demandNeedsRow : OpenClaim := { program := "ytkfhopnolflchaa", sum := "17ac52bdbc8f6592d0858c441d470d130cc49aec124ccf405c472e9a8bb687be", func := "dataflow/dataflowlaw24.DemandNeeds", spec := "demandNeeds", unfollowed := true, recurses := true, plainKeys := false, apart := false }
def DemandNeedsSaid : Prop := demandNeedsRow.holds Try.pinned (OpenSpec.ofChange demandNeedsSpec)

/-- ITS FALSE NEIGHBOUR: 'it returns false'. Refute it at one input. -/
def demandNeedsWrong : ChangeSpec := { name := "demandNeeds", fn := fun _ => fun
  | [d1, d2] => { results := [.lit (.bool false)], args := [d1, d2] }
  | _ => none }
def DemandNeedsWrongFalsely : Prop := demandNeedsRow.holds Try.pinned (OpenSpec.ofChange demandNeedsWrong)

/- THE SECOND FORM. 'bulk': how many values and letters a reading holds, each counted each time it is reached (what is shared counts as often as it is met; a slice's spare places count too). A statement '..UptoSaid' is the law's where the arguments, and the package variables that the reading takes, are together of bulk at most 1048576: NARROWER than '..Said'. Prove '..Said' where nothing that the law and all that it calls make is longer than what came in: it says more and counts as full. Else prove '..UptoSaid'. A law counts once. -/
mutual
def uptoBulk {H : Type} : DataW H → Nat
  | .lit (.string bytes) => bytes.length + 1
  | .lit _ => 1
  | .nil => 1
  | .ptr d => uptoBulk d + 1
  | .slice elems spare => uptoBulkAll elems + uptoBulkAll spare + 1
  | .agg parts => uptoBulkAll parts + 1
  | .iface _ d => uptoBulk d + 1
  | .map entries => uptoBulkEntries entries + 1
  | .held _ => 1
def uptoBulkAll {H : Type} : List (DataW H) → Nat
  | [] => 0
  | d :: r => uptoBulk d + uptoBulkAll r
def uptoBulkEntries {H : Type} : List (Lit × DataW H) → Nat
  | [] => 0
  | x :: r => uptoBulkEntry x + uptoBulkEntries r
def uptoBulkEntry {H : Type} : Lit × DataW H → Nat
  | (.string bytes, d) => bytes.length + uptoBulk d + 1
  | (_, d) => uptoBulk d + 1
 end
def uptoSmall : (H : Type) → List (DataW H) → Bool := fun _ ds => decide (uptoBulkAll ds ≤ 1048576)
def OpenSpec.upto (s : _root_.Go.ChangeSpec) : _root_.Go.OpenSpec := { _root_.Go.OpenSpec.ofChange s with cond := some uptoSmall }

/-- 'dataflowlaw24.DemandQuery', WHERE WHAT IT READS IS OF BULK AT MOST 1048576: true; the input reads as it did. -/
def demandQueryUptoRow : OpenClaim := { program := "ytkfhopnolflchaa", sum := "17ac52bdbc8f6592d0858c441d470d130cc49aec124ccf405c472e9a8bb687be", func := "dataflow/dataflowlaw24.DemandQuery", spec := "demandQuery", unfollowed := true, recurses := true, plainKeys := false, apart := false, narrowed := true }
def DemandQueryUptoSaid : Prop := demandQueryUptoRow.holds Try.pinned (OpenSpec.upto demandQuerySpec)

/-- 'dataflowlaw24.DemandSlice', WHERE WHAT IT READS IS OF BULK AT MOST 1048576: true; the input reads as it did. -/
def demandSliceUptoRow : OpenClaim := { program := "ytkfhopnolflchaa", sum := "17ac52bdbc8f6592d0858c441d470d130cc49aec124ccf405c472e9a8bb687be", func := "dataflow/dataflowlaw24.DemandSlice", spec := "demandSlice", unfollowed := true, recurses := true, plainKeys := false, apart := false, narrowed := true }
def DemandSliceUptoSaid : Prop := demandSliceUptoRow.holds Try.pinned (OpenSpec.upto demandSliceSpec)

/-- 'dataflowlaw24.DemandEqual', WHERE WHAT IT READS IS OF BULK AT MOST 1048576: true; the input reads as it did. -/
def demandEqualUptoRow : OpenClaim := { program := "ytkfhopnolflchaa", sum := "17ac52bdbc8f6592d0858c441d470d130cc49aec124ccf405c472e9a8bb687be", func := "dataflow/dataflowlaw24.DemandEqual", spec := "demandEqual", unfollowed := true, recurses := true, plainKeys := false, apart := false, narrowed := true }
def DemandEqualUptoSaid : Prop := demandEqualUptoRow.holds Try.pinned (OpenSpec.upto demandEqualSpec)

/-- 'dataflowlaw24.DemandNeeds', WHERE WHAT IT READS IS OF BULK AT MOST 1048576: true; the input reads as it did. -/
def demandNeedsUptoRow : OpenClaim := { program := "ytkfhopnolflchaa", sum := "17ac52bdbc8f6592d0858c441d470d130cc49aec124ccf405c472e9a8bb687be", func := "dataflow/dataflowlaw24.DemandNeeds", spec := "demandNeeds", unfollowed := true, recurses := true, plainKeys := false, apart := false, narrowed := true }
def DemandNeedsUptoSaid : Prop := demandNeedsUptoRow.holds Try.pinned (OpenSpec.upto demandNeedsSpec)

end Rows
end Go.Proofs.Ytkfhopnolflchaa
