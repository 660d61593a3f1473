/-
  No cell of these rows narrows 'for every input' (looked for: loops, veiled, ifaces, maps, wideKeys, modest, calm, conditions, laid).
  DERIVED. THE GIVEN ROWS OF THIS SEAT. 6 by the template 'for every input the law returns true; each argument reads behind the call as it read before'; 0 by the template 'total and deterministic' (their statements: YtlijimdkadobmaaTotals.lean).
  GIVEN WITH THE SEED: the statements are not yours to turn. If you find one false, say at which input.
  Laid BY PROGRAM, IN A SANDBOX (cutbox-rows.mjs): the forced cells as the released guide's own fill.sh prints them over the translation 06750c65e5609863… (all of the seat's roots in one cut). By AI agents, Wed Nov 11 2026. No macro, syntax, notation, axiom, sorry.
-/
import Derived.Test.YtlijimdkadobmaaChecked
import GoSem.Claim
import GoSem.ClaimJoined
import GoSem.ClaimMapViews
import Derived.JoinedTies
import Derived.KernelRfl
namespace Go.Proofs.Ytlijimdkadobmaa
/- THE CELL 'sum', in the pinned program and in every row, IS THE sha256 OF THE DUMP (.gsa) THAT YtlijimdkadobmaaProg.lean LOADS. Nothing in Lean hashes anything: it is a label: what it is worth is what the hold of that sum in a sandbox is worth. -/
noncomputable def Try.pinned : Pinned := { name := "ytlijimdkadobmaa", sum := "06750c65e5609863f12f4d9f4e9258d46b798f91fd1b4a073cb77b53fff8ff75", checked := Try.checked }
namespace Rows
def none {H : Type} : Left H := { results := [], args := [] }

/-- 'dataflowlaw06.DomHeads': WHATEVER THE INPUT: true; the input reads as it did. -/
def domHeadsSpec : ChangeSpec := { name := "domHeads", fn := fun _ => fun
  | [d1, d2] => { results := [.lit (.bool true)], args := [d1, d2] }
  | _ => none }
def domHeadsRow : OpenClaim := { program := "ytlijimdkadobmaa", sum := "06750c65e5609863f12f4d9f4e9258d46b798f91fd1b4a073cb77b53fff8ff75", func := "dataflow/dataflowlaw06.DomHeads", spec := "domHeads", unfollowed := true, recurses := true, apart := false }
def DomHeadsSaid : Prop := domHeadsRow.holds Try.pinned (OpenSpec.ofChange domHeadsSpec)

/-- ITS FALSE NEIGHBOUR: 'it returns false'. Refute it at one input. -/
def domHeadsWrong : ChangeSpec := { name := "domHeads", fn := fun _ => fun
  | [d1, d2] => { results := [.lit (.bool false)], args := [d1, d2] }
  | _ => none }
def DomHeadsWrongFalsely : Prop := domHeadsRow.holds Try.pinned (OpenSpec.ofChange domHeadsWrong)

/-- 'dataflowlaw06.DomFrontiers': WHATEVER THE INPUT: true; the input reads as it did. -/
def domFrontiersSpec : ChangeSpec := { name := "domFrontiers", fn := fun _ => fun
  | [d1, d2] => { results := [.lit (.bool true)], args := [d1, d2] }
  | _ => none }
def domFrontiersRow : OpenClaim := { program := "ytlijimdkadobmaa", sum := "06750c65e5609863f12f4d9f4e9258d46b798f91fd1b4a073cb77b53fff8ff75", func := "dataflow/dataflowlaw06.DomFrontiers", spec := "domFrontiers", unfollowed := true, recurses := true, apart := false }
def DomFrontiersSaid : Prop := domFrontiersRow.holds Try.pinned (OpenSpec.ofChange domFrontiersSpec)

/-- ITS FALSE NEIGHBOUR: 'it returns false'. Refute it at one input. -/
def domFrontiersWrong : ChangeSpec := { name := "domFrontiers", fn := fun _ => fun
  | [d1, d2] => { results := [.lit (.bool false)], args := [d1, d2] }
  | _ => none }
def DomFrontiersWrongFalsely : Prop := domFrontiersRow.holds Try.pinned (OpenSpec.ofChange domFrontiersWrong)

/-- 'dataflowlaw06.DomLoops': WHATEVER THE INPUT: true; the input reads as it did. -/
def domLoopsSpec : ChangeSpec := { name := "domLoops", fn := fun _ => fun
  | [d1, d2] => { results := [.lit (.bool true)], args := [d1, d2] }
  | _ => none }
def domLoopsRow : OpenClaim := { program := "ytlijimdkadobmaa", sum := "06750c65e5609863f12f4d9f4e9258d46b798f91fd1b4a073cb77b53fff8ff75", func := "dataflow/dataflowlaw06.DomLoops", spec := "domLoops", unfollowed := true, recurses := true, apart := false }
def DomLoopsSaid : Prop := domLoopsRow.holds Try.pinned (OpenSpec.ofChange domLoopsSpec)

/-- ITS FALSE NEIGHBOUR: 'it returns false'. Refute it at one input. -/
def domLoopsWrong : ChangeSpec := { name := "domLoops", fn := fun _ => fun
  | [d1, d2] => { results := [.lit (.bool false)], args := [d1, d2] }
  | _ => none }
def DomLoopsWrongFalsely : Prop := domLoopsRow.holds Try.pinned (OpenSpec.ofChange domLoopsWrong)

/-- 'dataflowlaw06.DomTells': WHATEVER THE INPUT: true; the input reads as it did. -/
def domTellsSpec : ChangeSpec := { name := "domTells", fn := fun _ => fun
  | [d1, d2, d3] => { results := [.lit (.bool true)], args := [d1, d2, d3] }
  | _ => none }
def domTellsRow : OpenClaim := { program := "ytlijimdkadobmaa", sum := "06750c65e5609863f12f4d9f4e9258d46b798f91fd1b4a073cb77b53fff8ff75", func := "dataflow/dataflowlaw06.DomTells", spec := "domTells", unfollowed := true, recurses := true, apart := false }
def DomTellsSaid : Prop := domTellsRow.holds Try.pinned (OpenSpec.ofChange domTellsSpec)

/-- ITS FALSE NEIGHBOUR: 'it returns false'. Refute it at one input. -/
def domTellsWrong : ChangeSpec := { name := "domTells", fn := fun _ => fun
  | [d1, d2, d3] => { results := [.lit (.bool false)], args := [d1, d2, d3] }
  | _ => none }
def DomTellsWrongFalsely : Prop := domTellsRow.holds Try.pinned (OpenSpec.ofChange domTellsWrong)

/-- 'dataflowlaw06.DomTree': WHATEVER THE INPUT: true; the input reads as it did. -/
def domTreeSpec : ChangeSpec := { name := "domTree", fn := fun _ => fun
  | [d1, d2, d3] => { results := [.lit (.bool true)], args := [d1, d2, d3] }
  | _ => none }
def domTreeRow : OpenClaim := { program := "ytlijimdkadobmaa", sum := "06750c65e5609863f12f4d9f4e9258d46b798f91fd1b4a073cb77b53fff8ff75", func := "dataflow/dataflowlaw06.DomTree", spec := "domTree", unfollowed := true, recurses := true, apart := false }
def DomTreeSaid : Prop := domTreeRow.holds Try.pinned (OpenSpec.ofChange domTreeSpec)

/-- ITS FALSE NEIGHBOUR: 'it returns false'. Refute it at one input. -/
def domTreeWrong : ChangeSpec := { name := "domTree", fn := fun _ => fun
  | [d1, d2, d3] => { results := [.lit (.bool false)], args := [d1, d2, d3] }
  | _ => none }
def DomTreeWrongFalsely : Prop := domTreeRow.holds Try.pinned (OpenSpec.ofChange domTreeWrong)

/-- 'dataflowlaw06.DomRemoves': WHATEVER THE INPUT: true; the input reads as it did. -/
def domRemovesSpec : ChangeSpec := { name := "domRemoves", fn := fun _ => fun
  | [d1, d2, d3] => { results := [.lit (.bool true)], args := [d1, d2, d3] }
  | _ => none }
def domRemovesRow : OpenClaim := { program := "ytlijimdkadobmaa", sum := "06750c65e5609863f12f4d9f4e9258d46b798f91fd1b4a073cb77b53fff8ff75", func := "dataflow/dataflowlaw06.DomRemoves", spec := "domRemoves", unfollowed := true, recurses := true, apart := false }
def DomRemovesSaid : Prop := domRemovesRow.holds Try.pinned (OpenSpec.ofChange domRemovesSpec)

/-- ITS FALSE NEIGHBOUR: 'it returns false'. Refute it at one input. -/
def domRemovesWrong : ChangeSpec := { name := "domRemoves", fn := fun _ => fun
  | [d1, d2, d3] => { results := [.lit (.bool false)], args := [d1, d2, d3] }
  | _ => none }
def DomRemovesWrongFalsely : Prop := domRemovesRow.holds Try.pinned (OpenSpec.ofChange domRemovesWrong)

/- THE SECOND FORM. 'bulk': how many values and letters a reading holds, each counted each time it is reached (what is shared counts as often as it is met; a slice's spare places count too). A statement '..UptoSaid' is the law's where the arguments, and the package variables that the reading takes, are together of bulk at most 1048576: NARROWER than '..Said'. Prove '..Said' where nothing that the law and all that it calls make is longer than what came in: it says more and counts as full. Else prove '..UptoSaid'. A law counts once. -/
mutual
def uptoBulk {H : Type} : DataW H → Nat
  | .lit (.string bytes) => bytes.length + 1
  | .lit _ => 1
  | .nil => 1
  | .ptr d => uptoBulk d + 1
  | .slice elems spare => uptoBulkAll elems + uptoBulkAll spare + 1
  | .agg parts => uptoBulkAll parts + 1
  | .iface _ d => uptoBulk d + 1
  | .map entries => uptoBulkEntries entries + 1
  | .held _ => 1
def uptoBulkAll {H : Type} : List (DataW H) → Nat
  | [] => 0
  | d :: r => uptoBulk d + uptoBulkAll r
def uptoBulkEntries {H : Type} : List (Lit × DataW H) → Nat
  | [] => 0
  | x :: r => uptoBulkEntry x + uptoBulkEntries r
def uptoBulkEntry {H : Type} : Lit × DataW H → Nat
  | (.string bytes, d) => bytes.length + uptoBulk d + 1
  | (_, d) => uptoBulk d + 1
 end
def uptoSmall : (H : Type) → List (DataW H) → Bool := fun _ ds => decide (uptoBulkAll ds ≤ 1048576)
def OpenSpec.upto (s : _root_.Go.ChangeSpec) : _root_.Go.OpenSpec := { _root_.Go.OpenSpec.ofChange s with cond := some uptoSmall }

/-- 'dataflowlaw06.DomHeads', WHERE WHAT IT READS IS OF BULK AT MOST 1048576: true; the input reads as it did. -/
def domHeadsUptoRow : OpenClaim := { program := "ytlijimdkadobmaa", sum := "06750c65e5609863f12f4d9f4e9258d46b798f91fd1b4a073cb77b53fff8ff75", func := "dataflow/dataflowlaw06.DomHeads", spec := "domHeads", unfollowed := true, recurses := true, apart := false, narrowed := true }
def DomHeadsUptoSaid : Prop := domHeadsUptoRow.holds Try.pinned (OpenSpec.upto domHeadsSpec)

/-- 'dataflowlaw06.DomFrontiers', WHERE WHAT IT READS IS OF BULK AT MOST 1048576: true; the input reads as it did. -/
def domFrontiersUptoRow : OpenClaim := { program := "ytlijimdkadobmaa", sum := "06750c65e5609863f12f4d9f4e9258d46b798f91fd1b4a073cb77b53fff8ff75", func := "dataflow/dataflowlaw06.DomFrontiers", spec := "domFrontiers", unfollowed := true, recurses := true, apart := false, narrowed := true }
def DomFrontiersUptoSaid : Prop := domFrontiersUptoRow.holds Try.pinned (OpenSpec.upto domFrontiersSpec)

/-- 'dataflowlaw06.DomLoops', WHERE WHAT IT READS IS OF BULK AT MOST 1048576: true; the input reads as it did. -/
def domLoopsUptoRow : OpenClaim := { program := "ytlijimdkadobmaa", sum := "06750c65e5609863f12f4d9f4e9258d46b798f91fd1b4a073cb77b53fff8ff75", func := "dataflow/dataflowlaw06.DomLoops", spec := "domLoops", unfollowed := true, recurses := true, apart := false, narrowed := true }
def DomLoopsUptoSaid : Prop := domLoopsUptoRow.holds Try.pinned (OpenSpec.upto domLoopsSpec)

/-- 'dataflowlaw06.DomTells', WHERE WHAT IT READS IS OF BULK AT MOST 1048576: true; the input reads as it did. -/
def domTellsUptoRow : OpenClaim := { program := "ytlijimdkadobmaa", sum := "06750c65e5609863f12f4d9f4e9258d46b798f91fd1b4a073cb77b53fff8ff75", func := "dataflow/dataflowlaw06.DomTells", spec := "domTells", unfollowed := true, recurses := true, apart := false, narrowed := true }
def DomTellsUptoSaid : Prop := domTellsUptoRow.holds Try.pinned (OpenSpec.upto domTellsSpec)

/-- 'dataflowlaw06.DomTree', WHERE WHAT IT READS IS OF BULK AT MOST 1048576: true; the input reads as it did. -/
def domTreeUptoRow : OpenClaim := { program := "ytlijimdkadobmaa", sum := "06750c65e5609863f12f4d9f4e9258d46b798f91fd1b4a073cb77b53fff8ff75", func := "dataflow/dataflowlaw06.DomTree", spec := "domTree", unfollowed := true, recurses := true, apart := false, narrowed := true }
def DomTreeUptoSaid : Prop := domTreeUptoRow.holds Try.pinned (OpenSpec.upto domTreeSpec)

/-- 'dataflowlaw06.DomRemoves', WHERE WHAT IT READS IS OF BULK AT MOST 1048576: true; the input reads as it did. -/
def domRemovesUptoRow : OpenClaim := { program := "ytlijimdkadobmaa", sum := "06750c65e5609863f12f4d9f4e9258d46b798f91fd1b4a073cb77b53fff8ff75", func := "dataflow/dataflowlaw06.DomRemoves", spec := "domRemoves", unfollowed := true, recurses := true, apart := false, narrowed := true }
def DomRemovesUptoSaid : Prop := domRemovesUptoRow.holds Try.pinned (OpenSpec.upto domRemovesSpec)

end Rows
end Go.Proofs.Ytlijimdkadobmaa
