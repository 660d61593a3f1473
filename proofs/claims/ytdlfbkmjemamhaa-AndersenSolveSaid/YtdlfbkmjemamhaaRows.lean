/-
  No cell of these rows narrows 'for every input' (looked for: loops, veiled, ifaces, maps, wideKeys, modest, calm, conditions, laid).
  DERIVED. THE GIVEN ROWS OF THIS SEAT. 5 by the template 'for every input the law returns true; each argument reads behind the call as it read before'; 0 by the template 'total and deterministic' (their statements: YtdlfbkmjemamhaaTotals.lean).
  GIVEN WITH THE SEED: the statements are not yours to turn. If you find one false, say at which input.
  Laid BY PROGRAM, IN A SANDBOX (cutbox-rows.mjs): the forced cells as the released guide's own fill.sh prints them over the translation 925e3db601a783a9… (all of the seat's roots in one cut). By AI agents, Wed Nov 11 2026. No macro, syntax, notation, axiom, sorry.
-/
import Derived.Test.YtdlfbkmjemamhaaChecked
import GoSem.Claim
import GoSem.ClaimJoined
import GoSem.ClaimMapViews
import Derived.JoinedTies
import Derived.KernelRfl
namespace Go.Proofs.Ytdlfbkmjemamhaa
/- THE CELL 'sum', in the pinned program and in every row, IS THE sha256 OF THE DUMP (.gsa) THAT YtdlfbkmjemamhaaProg.lean LOADS. Nothing in Lean hashes anything: it is a label: what it is worth is what the hold of that sum in a sandbox is worth. -/
noncomputable def Try.pinned : Pinned := { name := "ytdlfbkmjemamhaa", sum := "925e3db601a783a9d552edc8de0350da0b9a109e9ab27e74bba2f14884aa0f31", checked := Try.checked }
namespace Rows
def none {H : Type} : Left H := { results := [], args := [] }

/-- 'dataflowlaw18.AndersenSolve': WHATEVER THE INPUT: true; the input reads as it did. -/
def andersenSolveSpec : ChangeSpec := { name := "andersenSolve", fn := fun _ => fun
  | [d] => { results := [.lit (.bool true)], args := [d] }
  | _ => none }
def andersenSolveRow : OpenClaim := { program := "ytdlfbkmjemamhaa", sum := "925e3db601a783a9d552edc8de0350da0b9a109e9ab27e74bba2f14884aa0f31", func := "dataflow/dataflowlaw18.AndersenSolve", spec := "andersenSolve", unfollowed := true, recurses := true, plainKeys := false, apart := false }
def AndersenSolveSaid : Prop := andersenSolveRow.holds Try.pinned (OpenSpec.ofChange andersenSolveSpec)

/-- ITS FALSE NEIGHBOUR: 'it returns false'. Refute it at one input. -/
def andersenSolveWrong : ChangeSpec := { name := "andersenSolve", fn := fun _ => fun
  | [d] => { results := [.lit (.bool false)], args := [d] }
  | _ => none }
def AndersenSolveWrongFalsely : Prop := andersenSolveRow.holds Try.pinned (OpenSpec.ofChange andersenSolveWrong)

/-- 'dataflowlaw18.AndersenTells': WHATEVER THE INPUT: true; the input reads as it did. -/
def andersenTellsSpec : ChangeSpec := { name := "andersenTells", fn := fun _ => fun
  | [d1, d2, d3] => { results := [.lit (.bool true)], args := [d1, d2, d3] }
  | _ => none }
def andersenTellsRow : OpenClaim := { program := "ytdlfbkmjemamhaa", sum := "925e3db601a783a9d552edc8de0350da0b9a109e9ab27e74bba2f14884aa0f31", func := "dataflow/dataflowlaw18.AndersenTells", spec := "andersenTells", unfollowed := true, recurses := true, plainKeys := false, apart := false }
def AndersenTellsSaid : Prop := andersenTellsRow.holds Try.pinned (OpenSpec.ofChange andersenTellsSpec)

/-- ITS FALSE NEIGHBOUR: 'it returns false'. Refute it at one input. -/
def andersenTellsWrong : ChangeSpec := { name := "andersenTells", fn := fun _ => fun
  | [d1, d2, d3] => { results := [.lit (.bool false)], args := [d1, d2, d3] }
  | _ => none }
def AndersenTellsWrongFalsely : Prop := andersenTellsRow.holds Try.pinned (OpenSpec.ofChange andersenTellsWrong)

/-- 'dataflowlaw18.AndersenLeast': WHATEVER THE INPUT: true; the input reads as it did. -/
def andersenLeastSpec : ChangeSpec := { name := "andersenLeast", fn := fun _ => fun
  | [d1, d2] => { results := [.lit (.bool true)], args := [d1, d2] }
  | _ => none }
def andersenLeastRow : OpenClaim := { program := "ytdlfbkmjemamhaa", sum := "925e3db601a783a9d552edc8de0350da0b9a109e9ab27e74bba2f14884aa0f31", func := "dataflow/dataflowlaw18.AndersenLeast", spec := "andersenLeast", unfollowed := true, recurses := true, plainKeys := false, apart := false }
def AndersenLeastSaid : Prop := andersenLeastRow.holds Try.pinned (OpenSpec.ofChange andersenLeastSpec)

/-- ITS FALSE NEIGHBOUR: 'it returns false'. Refute it at one input. -/
def andersenLeastWrong : ChangeSpec := { name := "andersenLeast", fn := fun _ => fun
  | [d1, d2] => { results := [.lit (.bool false)], args := [d1, d2] }
  | _ => none }
def AndersenLeastWrongFalsely : Prop := andersenLeastRow.holds Try.pinned (OpenSpec.ofChange andersenLeastWrong)

/-- 'dataflowlaw18.AndersenOrder': WHATEVER THE INPUT: true; the input reads as it did. -/
def andersenOrderSpec : ChangeSpec := { name := "andersenOrder", fn := fun _ => fun
  | [d] => { results := [.lit (.bool true)], args := [d] }
  | _ => none }
def andersenOrderRow : OpenClaim := { program := "ytdlfbkmjemamhaa", sum := "925e3db601a783a9d552edc8de0350da0b9a109e9ab27e74bba2f14884aa0f31", func := "dataflow/dataflowlaw18.AndersenOrder", spec := "andersenOrder", unfollowed := true, recurses := true, plainKeys := false, apart := false }
def AndersenOrderSaid : Prop := andersenOrderRow.holds Try.pinned (OpenSpec.ofChange andersenOrderSpec)

/-- ITS FALSE NEIGHBOUR: 'it returns false'. Refute it at one input. -/
def andersenOrderWrong : ChangeSpec := { name := "andersenOrder", fn := fun _ => fun
  | [d] => { results := [.lit (.bool false)], args := [d] }
  | _ => none }
def AndersenOrderWrongFalsely : Prop := andersenOrderRow.holds Try.pinned (OpenSpec.ofChange andersenOrderWrong)

/-- 'dataflowlaw18.AndersenGrows': WHATEVER THE INPUT: true; the input reads as it did. -/
def andersenGrowsSpec : ChangeSpec := { name := "andersenGrows", fn := fun _ => fun
  | [d1, d2] => { results := [.lit (.bool true)], args := [d1, d2] }
  | _ => none }
def andersenGrowsRow : OpenClaim := { program := "ytdlfbkmjemamhaa", sum := "925e3db601a783a9d552edc8de0350da0b9a109e9ab27e74bba2f14884aa0f31", func := "dataflow/dataflowlaw18.AndersenGrows", spec := "andersenGrows", unfollowed := true, recurses := true, plainKeys := false, apart := false }
def AndersenGrowsSaid : Prop := andersenGrowsRow.holds Try.pinned (OpenSpec.ofChange andersenGrowsSpec)

/-- ITS FALSE NEIGHBOUR: 'it returns false'. Refute it at one input. -/
def andersenGrowsWrong : ChangeSpec := { name := "andersenGrows", fn := fun _ => fun
  | [d1, d2] => { results := [.lit (.bool false)], args := [d1, d2] }
  | _ => none }
def AndersenGrowsWrongFalsely : Prop := andersenGrowsRow.holds Try.pinned (OpenSpec.ofChange andersenGrowsWrong)

/- THE SECOND FORM. 'bulk': how many values and letters a reading holds, each counted each time it is reached (what is shared counts as often as it is met; a slice's spare places count too). A statement '..UptoSaid' is the law's where the arguments, and the package variables that the reading takes, are together of bulk at most 1048576: NARROWER than '..Said'. Prove '..Said' where nothing that the law and all that it calls make is longer than what came in: it says more and counts as full. Else prove '..UptoSaid'. A law counts once. -/
mutual
def uptoBulk {H : Type} : DataW H → Nat
  | .lit (.string bytes) => bytes.length + 1
  | .lit _ => 1
  | .nil => 1
  | .ptr d => uptoBulk d + 1
  | .slice elems spare => uptoBulkAll elems + uptoBulkAll spare + 1
  | .agg parts => uptoBulkAll parts + 1
  | .iface _ d => uptoBulk d + 1
  | .map entries => uptoBulkEntries entries + 1
  | .held _ => 1
def uptoBulkAll {H : Type} : List (DataW H) → Nat
  | [] => 0
  | d :: r => uptoBulk d + uptoBulkAll r
def uptoBulkEntries {H : Type} : List (Lit × DataW H) → Nat
  | [] => 0
  | x :: r => uptoBulkEntry x + uptoBulkEntries r
def uptoBulkEntry {H : Type} : Lit × DataW H → Nat
  | (.string bytes, d) => bytes.length + uptoBulk d + 1
  | (_, d) => uptoBulk d + 1
 end
def uptoSmall : (H : Type) → List (DataW H) → Bool := fun _ ds => decide (uptoBulkAll ds ≤ 1048576)
def OpenSpec.upto (s : _root_.Go.ChangeSpec) : _root_.Go.OpenSpec := { _root_.Go.OpenSpec.ofChange s with cond := some uptoSmall }

/-- 'dataflowlaw18.AndersenSolve', WHERE WHAT IT READS IS OF BULK AT MOST 1048576: true; the input reads as it did. -/
def andersenSolveUptoRow : OpenClaim := { program := "ytdlfbkmjemamhaa", sum := "925e3db601a783a9d552edc8de0350da0b9a109e9ab27e74bba2f14884aa0f31", func := "dataflow/dataflowlaw18.AndersenSolve", spec := "andersenSolve", unfollowed := true, recurses := true, plainKeys := false, apart := false, narrowed := true }
def AndersenSolveUptoSaid : Prop := andersenSolveUptoRow.holds Try.pinned (OpenSpec.upto andersenSolveSpec)

/-- 'dataflowlaw18.AndersenTells', WHERE WHAT IT READS IS OF BULK AT MOST 1048576: true; the input reads as it did. -/
def andersenTellsUptoRow : OpenClaim := { program := "ytdlfbkmjemamhaa", sum := "925e3db601a783a9d552edc8de0350da0b9a109e9ab27e74bba2f14884aa0f31", func := "dataflow/dataflowlaw18.AndersenTells", spec := "andersenTells", unfollowed := true, recurses := true, plainKeys := false, apart := false, narrowed := true }
def AndersenTellsUptoSaid : Prop := andersenTellsUptoRow.holds Try.pinned (OpenSpec.upto andersenTellsSpec)

/-- 'dataflowlaw18.AndersenLeast', WHERE WHAT IT READS IS OF BULK AT MOST 1048576: true; the input reads as it did. -/
def andersenLeastUptoRow : OpenClaim := { program := "ytdlfbkmjemamhaa", sum := "925e3db601a783a9d552edc8de0350da0b9a109e9ab27e74bba2f14884aa0f31", func := "dataflow/dataflowlaw18.AndersenLeast", spec := "andersenLeast", unfollowed := true, recurses := true, plainKeys := false, apart := false, narrowed := true }
def AndersenLeastUptoSaid : Prop := andersenLeastUptoRow.holds Try.pinned (OpenSpec.upto andersenLeastSpec)

/-- 'dataflowlaw18.AndersenOrder', WHERE WHAT IT READS IS OF BULK AT MOST 1048576: true; the input reads as it did. -/
def andersenOrderUptoRow : OpenClaim := { program := "ytdlfbkmjemamhaa", sum := "925e3db601a783a9d552edc8de0350da0b9a109e9ab27e74bba2f14884aa0f31", func := "dataflow/dataflowlaw18.AndersenOrder", spec := "andersenOrder", unfollowed := true, recurses := true, plainKeys := false, apart := false, narrowed := true }
def AndersenOrderUptoSaid : Prop := andersenOrderUptoRow.holds Try.pinned (OpenSpec.upto andersenOrderSpec)

/-- 'dataflowlaw18.AndersenGrows', WHERE WHAT IT READS IS OF BULK AT MOST 1048576: true; the input reads as it did. -/
def andersenGrowsUptoRow : OpenClaim := { program := "ytdlfbkmjemamhaa", sum := "925e3db601a783a9d552edc8de0350da0b9a109e9ab27e74bba2f14884aa0f31", func := "dataflow/dataflowlaw18.AndersenGrows", spec := "andersenGrows", unfollowed := true, recurses := true, plainKeys := false, apart := false, narrowed := true }
def AndersenGrowsUptoSaid : Prop := andersenGrowsUptoRow.holds Try.pinned (OpenSpec.upto andersenGrowsSpec)

end Rows
end Go.Proofs.Ytdlfbkmjemamhaa
