/-
  No cell of these rows narrows 'for every input' (looked for: loops, veiled, ifaces, maps, wideKeys, modest, calm, conditions, laid).
  DERIVED. THE GIVEN ROWS OF THIS SEAT. 7 by the template 'for every input the law returns true; each argument reads behind the call as it read before'; 0 by the template 'total and deterministic' (their statements: YtingmncemmipeaaTotals.lean).
  GIVEN WITH THE SEED: the statements are not yours to turn. If you find one false, say at which input.
  Laid BY PROGRAM, IN A SANDBOX (cutbox-rows.mjs): the forced cells as the released guide's own fill.sh prints them over the translation d5b952522e977287… (all of the seat's roots in one cut). By AI agents, Wed Nov 11 2026. No macro, syntax, notation, axiom, sorry.
-/
import Derived.Test.YtingmncemmipeaaChecked
import GoSem.Claim
import GoSem.ClaimJoined
import GoSem.ClaimMapViews
import Derived.JoinedTies
import Derived.KernelRfl
namespace Go.Proofs.Ytingmncemmipeaa
/- THE CELL 'sum', in the pinned program and in every row, IS THE sha256 OF THE DUMP (.gsa) THAT YtingmncemmipeaaProg.lean LOADS. Nothing in Lean hashes anything: it is a label: what it is worth is what the hold of that sum in a sandbox is worth. -/
noncomputable def Try.pinned : Pinned := { name := "ytingmncemmipeaa", sum := "d5b952522e9772875a6a1d2965fe359538bc22f52f62e6c330f61534ae4758d8", checked := Try.checked }
namespace Rows
def none {H : Type} : Left H := { results := [], args := [] }

/-- 'dataflowlaw01.BitsMakes': WHATEVER THE INPUT: true; the input reads as it did. -/
def bitsMakesSpec : ChangeSpec := { name := "bitsMakes", fn := fun _ => fun
  | [d] => { results := [.lit (.bool true)], args := [d] }
  | _ => none }
def bitsMakesRow : OpenClaim := { program := "ytingmncemmipeaa", sum := "d5b952522e9772875a6a1d2965fe359538bc22f52f62e6c330f61534ae4758d8", func := "dataflow/dataflowlaw01.BitsMakes", spec := "bitsMakes", apart := false }
def BitsMakesSaid : Prop := bitsMakesRow.holds Try.pinned (OpenSpec.ofChange bitsMakesSpec)

/-- ITS FALSE NEIGHBOUR: 'it returns false'. Refute it at one input. -/
def bitsMakesWrong : ChangeSpec := { name := "bitsMakes", fn := fun _ => fun
  | [d] => { results := [.lit (.bool false)], args := [d] }
  | _ => none }
def BitsMakesWrongFalsely : Prop := bitsMakesRow.holds Try.pinned (OpenSpec.ofChange bitsMakesWrong)

/-- 'dataflowlaw01.BitsWalks': WHATEVER THE INPUT: true; the input reads as it did. -/
def bitsWalksSpec : ChangeSpec := { name := "bitsWalks", fn := fun _ => fun
  | [d] => { results := [.lit (.bool true)], args := [d] }
  | _ => none }
def bitsWalksRow : OpenClaim := { program := "ytingmncemmipeaa", sum := "d5b952522e9772875a6a1d2965fe359538bc22f52f62e6c330f61534ae4758d8", func := "dataflow/dataflowlaw01.BitsWalks", spec := "bitsWalks", apart := false }
def BitsWalksSaid : Prop := bitsWalksRow.holds Try.pinned (OpenSpec.ofChange bitsWalksSpec)

/-- ITS FALSE NEIGHBOUR: 'it returns false'. Refute it at one input. -/
def bitsWalksWrong : ChangeSpec := { name := "bitsWalks", fn := fun _ => fun
  | [d] => { results := [.lit (.bool false)], args := [d] }
  | _ => none }
def BitsWalksWrongFalsely : Prop := bitsWalksRow.holds Try.pinned (OpenSpec.ofChange bitsWalksWrong)

/-- 'dataflowlaw01.BitsChanges': WHATEVER THE INPUT: true; the input reads as it did. -/
def bitsChangesSpec : ChangeSpec := { name := "bitsChanges", fn := fun _ => fun
  | [d1, d2, d3] => { results := [.lit (.bool true)], args := [d1, d2, d3] }
  | _ => none }
def bitsChangesRow : OpenClaim := { program := "ytingmncemmipeaa", sum := "d5b952522e9772875a6a1d2965fe359538bc22f52f62e6c330f61534ae4758d8", func := "dataflow/dataflowlaw01.BitsChanges", spec := "bitsChanges", apart := false }
def BitsChangesSaid : Prop := bitsChangesRow.holds Try.pinned (OpenSpec.ofChange bitsChangesSpec)

/-- ITS FALSE NEIGHBOUR: 'it returns false'. Refute it at one input. -/
def bitsChangesWrong : ChangeSpec := { name := "bitsChanges", fn := fun _ => fun
  | [d1, d2, d3] => { results := [.lit (.bool false)], args := [d1, d2, d3] }
  | _ => none }
def BitsChangesWrongFalsely : Prop := bitsChangesRow.holds Try.pinned (OpenSpec.ofChange bitsChangesWrong)

/-- 'dataflowlaw01.BitsCombines': WHATEVER THE INPUT: true; the input reads as it did. -/
def bitsCombinesSpec : ChangeSpec := { name := "bitsCombines", fn := fun _ => fun
  | [d1, d2] => { results := [.lit (.bool true)], args := [d1, d2] }
  | _ => none }
def bitsCombinesRow : OpenClaim := { program := "ytingmncemmipeaa", sum := "d5b952522e9772875a6a1d2965fe359538bc22f52f62e6c330f61534ae4758d8", func := "dataflow/dataflowlaw01.BitsCombines", spec := "bitsCombines", apart := false }
def BitsCombinesSaid : Prop := bitsCombinesRow.holds Try.pinned (OpenSpec.ofChange bitsCombinesSpec)

/-- ITS FALSE NEIGHBOUR: 'it returns false'. Refute it at one input. -/
def bitsCombinesWrong : ChangeSpec := { name := "bitsCombines", fn := fun _ => fun
  | [d1, d2] => { results := [.lit (.bool false)], args := [d1, d2] }
  | _ => none }
def BitsCombinesWrongFalsely : Prop := bitsCombinesRow.holds Try.pinned (OpenSpec.ofChange bitsCombinesWrong)

/-- 'dataflowlaw01.BitsAlgebra': WHATEVER THE INPUT: true; the input reads as it did. -/
def bitsAlgebraSpec : ChangeSpec := { name := "bitsAlgebra", fn := fun _ => fun
  | [d1, d2, d3] => { results := [.lit (.bool true)], args := [d1, d2, d3] }
  | _ => none }
def bitsAlgebraRow : OpenClaim := { program := "ytingmncemmipeaa", sum := "d5b952522e9772875a6a1d2965fe359538bc22f52f62e6c330f61534ae4758d8", func := "dataflow/dataflowlaw01.BitsAlgebra", spec := "bitsAlgebra", apart := false }
def BitsAlgebraSaid : Prop := bitsAlgebraRow.holds Try.pinned (OpenSpec.ofChange bitsAlgebraSpec)

/-- ITS FALSE NEIGHBOUR: 'it returns false'. Refute it at one input. -/
def bitsAlgebraWrong : ChangeSpec := { name := "bitsAlgebra", fn := fun _ => fun
  | [d1, d2, d3] => { results := [.lit (.bool false)], args := [d1, d2, d3] }
  | _ => none }
def BitsAlgebraWrongFalsely : Prop := bitsAlgebraRow.holds Try.pinned (OpenSpec.ofChange bitsAlgebraWrong)

/-- 'dataflowlaw01.BitsTells': WHATEVER THE INPUT: true; the input reads as it did. -/
def bitsTellsSpec : ChangeSpec := { name := "bitsTells", fn := fun _ => fun
  | [d1, d2, d3] => { results := [.lit (.bool true)], args := [d1, d2, d3] }
  | _ => none }
def bitsTellsRow : OpenClaim := { program := "ytingmncemmipeaa", sum := "d5b952522e9772875a6a1d2965fe359538bc22f52f62e6c330f61534ae4758d8", func := "dataflow/dataflowlaw01.BitsTells", spec := "bitsTells", apart := false }
def BitsTellsSaid : Prop := bitsTellsRow.holds Try.pinned (OpenSpec.ofChange bitsTellsSpec)

/-- ITS FALSE NEIGHBOUR: 'it returns false'. Refute it at one input. -/
def bitsTellsWrong : ChangeSpec := { name := "bitsTells", fn := fun _ => fun
  | [d1, d2, d3] => { results := [.lit (.bool false)], args := [d1, d2, d3] }
  | _ => none }
def BitsTellsWrongFalsely : Prop := bitsTellsRow.holds Try.pinned (OpenSpec.ofChange bitsTellsWrong)

/-- 'dataflowlaw01.BitsOwn': WHATEVER THE INPUT: true; the input reads as it did. -/
def bitsOwnSpec : ChangeSpec := { name := "bitsOwn", fn := fun _ => fun
  | [d1, d2, d3] => { results := [.lit (.bool true)], args := [d1, d2, d3] }
  | _ => none }
def bitsOwnRow : OpenClaim := { program := "ytingmncemmipeaa", sum := "d5b952522e9772875a6a1d2965fe359538bc22f52f62e6c330f61534ae4758d8", func := "dataflow/dataflowlaw01.BitsOwn", spec := "bitsOwn", apart := false }
def BitsOwnSaid : Prop := bitsOwnRow.holds Try.pinned (OpenSpec.ofChange bitsOwnSpec)

/-- ITS FALSE NEIGHBOUR: 'it returns false'. Refute it at one input. -/
def bitsOwnWrong : ChangeSpec := { name := "bitsOwn", fn := fun _ => fun
  | [d1, d2, d3] => { results := [.lit (.bool false)], args := [d1, d2, d3] }
  | _ => none }
def BitsOwnWrongFalsely : Prop := bitsOwnRow.holds Try.pinned (OpenSpec.ofChange bitsOwnWrong)

/- THE SECOND FORM. 'bulk': how many values and letters a reading holds, each counted each time it is reached (what is shared counts as often as it is met; a slice's spare places count too). A statement '..UptoSaid' is the law's where the arguments, and the package variables that the reading takes, are together of bulk at most 1048576: NARROWER than '..Said'. Prove '..Said' where nothing that the law and all that it calls make is longer than what came in: it says more and counts as full. Else prove '..UptoSaid'. A law counts once. -/
mutual
def uptoBulk {H : Type} : DataW H → Nat
  | .lit (.string bytes) => bytes.length + 1
  | .lit _ => 1
  | .nil => 1
  | .ptr d => uptoBulk d + 1
  | .slice elems spare => uptoBulkAll elems + uptoBulkAll spare + 1
  | .agg parts => uptoBulkAll parts + 1
  | .iface _ d => uptoBulk d + 1
  | .map entries => uptoBulkEntries entries + 1
  | .held _ => 1
def uptoBulkAll {H : Type} : List (DataW H) → Nat
  | [] => 0
  | d :: r => uptoBulk d + uptoBulkAll r
def uptoBulkEntries {H : Type} : List (Lit × DataW H) → Nat
  | [] => 0
  | x :: r => uptoBulkEntry x + uptoBulkEntries r
def uptoBulkEntry {H : Type} : Lit × DataW H → Nat
  | (.string bytes, d) => bytes.length + uptoBulk d + 1
  | (_, d) => uptoBulk d + 1
 end
def uptoSmall : (H : Type) → List (DataW H) → Bool := fun _ ds => decide (uptoBulkAll ds ≤ 1048576)
def OpenSpec.upto (s : _root_.Go.ChangeSpec) : _root_.Go.OpenSpec := { _root_.Go.OpenSpec.ofChange s with cond := some uptoSmall }

/-- 'dataflowlaw01.BitsMakes', WHERE WHAT IT READS IS OF BULK AT MOST 1048576: true; the input reads as it did. -/
def bitsMakesUptoRow : OpenClaim := { program := "ytingmncemmipeaa", sum := "d5b952522e9772875a6a1d2965fe359538bc22f52f62e6c330f61534ae4758d8", func := "dataflow/dataflowlaw01.BitsMakes", spec := "bitsMakes", apart := false, narrowed := true }
def BitsMakesUptoSaid : Prop := bitsMakesUptoRow.holds Try.pinned (OpenSpec.upto bitsMakesSpec)

/-- 'dataflowlaw01.BitsWalks', WHERE WHAT IT READS IS OF BULK AT MOST 1048576: true; the input reads as it did. -/
def bitsWalksUptoRow : OpenClaim := { program := "ytingmncemmipeaa", sum := "d5b952522e9772875a6a1d2965fe359538bc22f52f62e6c330f61534ae4758d8", func := "dataflow/dataflowlaw01.BitsWalks", spec := "bitsWalks", apart := false, narrowed := true }
def BitsWalksUptoSaid : Prop := bitsWalksUptoRow.holds Try.pinned (OpenSpec.upto bitsWalksSpec)

/-- 'dataflowlaw01.BitsChanges', WHERE WHAT IT READS IS OF BULK AT MOST 1048576: true; the input reads as it did. -/
def bitsChangesUptoRow : OpenClaim := { program := "ytingmncemmipeaa", sum := "d5b952522e9772875a6a1d2965fe359538bc22f52f62e6c330f61534ae4758d8", func := "dataflow/dataflowlaw01.BitsChanges", spec := "bitsChanges", apart := false, narrowed := true }
def BitsChangesUptoSaid : Prop := bitsChangesUptoRow.holds Try.pinned (OpenSpec.upto bitsChangesSpec)

/-- 'dataflowlaw01.BitsCombines', WHERE WHAT IT READS IS OF BULK AT MOST 1048576: true; the input reads as it did. -/
def bitsCombinesUptoRow : OpenClaim := { program := "ytingmncemmipeaa", sum := "d5b952522e9772875a6a1d2965fe359538bc22f52f62e6c330f61534ae4758d8", func := "dataflow/dataflowlaw01.BitsCombines", spec := "bitsCombines", apart := false, narrowed := true }
def BitsCombinesUptoSaid : Prop := bitsCombinesUptoRow.holds Try.pinned (OpenSpec.upto bitsCombinesSpec)

/-- 'dataflowlaw01.BitsAlgebra', WHERE WHAT IT READS IS OF BULK AT MOST 1048576: true; the input reads as it did. -/
def bitsAlgebraUptoRow : OpenClaim := { program := "ytingmncemmipeaa", sum := "d5b952522e9772875a6a1d2965fe359538bc22f52f62e6c330f61534ae4758d8", func := "dataflow/dataflowlaw01.BitsAlgebra", spec := "bitsAlgebra", apart := false, narrowed := true }
def BitsAlgebraUptoSaid : Prop := bitsAlgebraUptoRow.holds Try.pinned (OpenSpec.upto bitsAlgebraSpec)

/-- 'dataflowlaw01.BitsTells', WHERE WHAT IT READS IS OF BULK AT MOST 1048576: true; the input reads as it did. -/
def bitsTellsUptoRow : OpenClaim := { program := "ytingmncemmipeaa", sum := "d5b952522e9772875a6a1d2965fe359538bc22f52f62e6c330f61534ae4758d8", func := "dataflow/dataflowlaw01.BitsTells", spec := "bitsTells", apart := false, narrowed := true }
def BitsTellsUptoSaid : Prop := bitsTellsUptoRow.holds Try.pinned (OpenSpec.upto bitsTellsSpec)

/-- 'dataflowlaw01.BitsOwn', WHERE WHAT IT READS IS OF BULK AT MOST 1048576: true; the input reads as it did. -/
def bitsOwnUptoRow : OpenClaim := { program := "ytingmncemmipeaa", sum := "d5b952522e9772875a6a1d2965fe359538bc22f52f62e6c330f61534ae4758d8", func := "dataflow/dataflowlaw01.BitsOwn", spec := "bitsOwn", apart := false, narrowed := true }
def BitsOwnUptoSaid : Prop := bitsOwnUptoRow.holds Try.pinned (OpenSpec.upto bitsOwnSpec)

end Rows
end Go.Proofs.Ytingmncemmipeaa
