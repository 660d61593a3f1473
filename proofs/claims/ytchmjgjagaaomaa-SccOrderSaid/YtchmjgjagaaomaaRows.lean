/-
  No cell of these rows narrows 'for every input' (looked for: loops, veiled, ifaces, maps, wideKeys, modest, calm, conditions, laid).
  DERIVED. THE GIVEN ROWS OF THIS SEAT. 6 by the template 'for every input the law returns true; each argument reads behind the call as it read before'; 0 by the template 'total and deterministic' (their statements: YtchmjgjagaaomaaTotals.lean).
  GIVEN WITH THE SEED: the statements are not yours to turn. If you find one false, say at which input.
  Laid BY PROGRAM, IN A SANDBOX (cutbox-rows.mjs): the forced cells as the released guide's own fill.sh prints them over the translation ecd938eb7b1dbcb6… (all of the seat's roots in one cut). By AI agents, Wed Nov 11 2026. No macro, syntax, notation, axiom, sorry.
-/
import Derived.Test.YtchmjgjagaaomaaChecked
import GoSem.Claim
import GoSem.ClaimJoined
import GoSem.ClaimMapViews
import Derived.JoinedTies
import Derived.KernelRfl
namespace Go.Proofs.Ytchmjgjagaaomaa
/- THE CELL 'sum', in the pinned program and in every row, IS THE sha256 OF THE DUMP (.gsa) THAT YtchmjgjagaaomaaProg.lean LOADS. Nothing in Lean hashes anything: it is a label: what it is worth is what the hold of that sum in a sandbox is worth. -/
noncomputable def Try.pinned : Pinned := { name := "ytchmjgjagaaomaa", sum := "ecd938eb7b1dbcb61fb45ab38c5e50f6f8e4e673c974ccf38563812707f9b783", checked := Try.checked }
namespace Rows
def none {H : Type} : Left H := { results := [], args := [] }

/-- 'dataflowlaw05.SccCovers': WHATEVER THE INPUT: true; the input reads as it did. -/
def sccCoversSpec : ChangeSpec := { name := "sccCovers", fn := fun _ => fun
  | [d] => { results := [.lit (.bool true)], args := [d] }
  | _ => none }
def sccCoversRow : OpenClaim := { program := "ytchmjgjagaaomaa", sum := "ecd938eb7b1dbcb61fb45ab38c5e50f6f8e4e673c974ccf38563812707f9b783", func := "dataflow/dataflowlaw05.SccCovers", spec := "sccCovers", unfollowed := true, recurses := true, apart := false }
def SccCoversSaid : Prop := sccCoversRow.holds Try.pinned (OpenSpec.ofChange sccCoversSpec)

/-- ITS FALSE NEIGHBOUR: 'it returns false'. Refute it at one input. -/
def sccCoversWrong : ChangeSpec := { name := "sccCovers", fn := fun _ => fun
  | [d] => { results := [.lit (.bool false)], args := [d] }
  | _ => none }
def SccCoversWrongFalsely : Prop := sccCoversRow.holds Try.pinned (OpenSpec.ofChange sccCoversWrong)

/-- 'dataflowlaw05.SccCycles': WHATEVER THE INPUT: true; the input reads as it did. -/
def sccCyclesSpec : ChangeSpec := { name := "sccCycles", fn := fun _ => fun
  | [d] => { results := [.lit (.bool true)], args := [d] }
  | _ => none }
def sccCyclesRow : OpenClaim := { program := "ytchmjgjagaaomaa", sum := "ecd938eb7b1dbcb61fb45ab38c5e50f6f8e4e673c974ccf38563812707f9b783", func := "dataflow/dataflowlaw05.SccCycles", spec := "sccCycles", unfollowed := true, recurses := true, apart := false }
def SccCyclesSaid : Prop := sccCyclesRow.holds Try.pinned (OpenSpec.ofChange sccCyclesSpec)

/-- ITS FALSE NEIGHBOUR: 'it returns false'. Refute it at one input. -/
def sccCyclesWrong : ChangeSpec := { name := "sccCycles", fn := fun _ => fun
  | [d] => { results := [.lit (.bool false)], args := [d] }
  | _ => none }
def SccCyclesWrongFalsely : Prop := sccCyclesRow.holds Try.pinned (OpenSpec.ofChange sccCyclesWrong)

/-- 'dataflowlaw05.SccMutual': WHATEVER THE INPUT: true; the input reads as it did. -/
def sccMutualSpec : ChangeSpec := { name := "sccMutual", fn := fun _ => fun
  | [d1, d2, d3] => { results := [.lit (.bool true)], args := [d1, d2, d3] }
  | _ => none }
def sccMutualRow : OpenClaim := { program := "ytchmjgjagaaomaa", sum := "ecd938eb7b1dbcb61fb45ab38c5e50f6f8e4e673c974ccf38563812707f9b783", func := "dataflow/dataflowlaw05.SccMutual", spec := "sccMutual", unfollowed := true, recurses := true, apart := false }
def SccMutualSaid : Prop := sccMutualRow.holds Try.pinned (OpenSpec.ofChange sccMutualSpec)

/-- ITS FALSE NEIGHBOUR: 'it returns false'. Refute it at one input. -/
def sccMutualWrong : ChangeSpec := { name := "sccMutual", fn := fun _ => fun
  | [d1, d2, d3] => { results := [.lit (.bool false)], args := [d1, d2, d3] }
  | _ => none }
def SccMutualWrongFalsely : Prop := sccMutualRow.holds Try.pinned (OpenSpec.ofChange sccMutualWrong)

/-- 'dataflowlaw05.SccTells': WHATEVER THE INPUT: true; the input reads as it did. -/
def sccTellsSpec : ChangeSpec := { name := "sccTells", fn := fun _ => fun
  | [d] => { results := [.lit (.bool true)], args := [d] }
  | _ => none }
def sccTellsRow : OpenClaim := { program := "ytchmjgjagaaomaa", sum := "ecd938eb7b1dbcb61fb45ab38c5e50f6f8e4e673c974ccf38563812707f9b783", func := "dataflow/dataflowlaw05.SccTells", spec := "sccTells", unfollowed := true, recurses := true, apart := false }
def SccTellsSaid : Prop := sccTellsRow.holds Try.pinned (OpenSpec.ofChange sccTellsSpec)

/-- ITS FALSE NEIGHBOUR: 'it returns false'. Refute it at one input. -/
def sccTellsWrong : ChangeSpec := { name := "sccTells", fn := fun _ => fun
  | [d] => { results := [.lit (.bool false)], args := [d] }
  | _ => none }
def SccTellsWrongFalsely : Prop := sccTellsRow.holds Try.pinned (OpenSpec.ofChange sccTellsWrong)

/-- 'dataflowlaw05.SccCondenses': WHATEVER THE INPUT: true; the input reads as it did. -/
def sccCondensesSpec : ChangeSpec := { name := "sccCondenses", fn := fun _ => fun
  | [d1, d2] => { results := [.lit (.bool true)], args := [d1, d2] }
  | _ => none }
def sccCondensesRow : OpenClaim := { program := "ytchmjgjagaaomaa", sum := "ecd938eb7b1dbcb61fb45ab38c5e50f6f8e4e673c974ccf38563812707f9b783", func := "dataflow/dataflowlaw05.SccCondenses", spec := "sccCondenses", unfollowed := true, recurses := true, apart := false }
def SccCondensesSaid : Prop := sccCondensesRow.holds Try.pinned (OpenSpec.ofChange sccCondensesSpec)

/-- ITS FALSE NEIGHBOUR: 'it returns false'. Refute it at one input. -/
def sccCondensesWrong : ChangeSpec := { name := "sccCondenses", fn := fun _ => fun
  | [d1, d2] => { results := [.lit (.bool false)], args := [d1, d2] }
  | _ => none }
def SccCondensesWrongFalsely : Prop := sccCondensesRow.holds Try.pinned (OpenSpec.ofChange sccCondensesWrong)

/-- 'dataflowlaw05.SccOrder': WHATEVER THE INPUT: true; the input reads as it did. -/
def sccOrderSpec : ChangeSpec := { name := "sccOrder", fn := fun _ => fun
  | [d] => { results := [.lit (.bool true)], args := [d] }
  | _ => none }
def sccOrderRow : OpenClaim := { program := "ytchmjgjagaaomaa", sum := "ecd938eb7b1dbcb61fb45ab38c5e50f6f8e4e673c974ccf38563812707f9b783", func := "dataflow/dataflowlaw05.SccOrder", spec := "sccOrder", unfollowed := true, recurses := true, apart := false }
def SccOrderSaid : Prop := sccOrderRow.holds Try.pinned (OpenSpec.ofChange sccOrderSpec)

/-- ITS FALSE NEIGHBOUR: 'it returns false'. Refute it at one input. -/
def sccOrderWrong : ChangeSpec := { name := "sccOrder", fn := fun _ => fun
  | [d] => { results := [.lit (.bool false)], args := [d] }
  | _ => none }
def SccOrderWrongFalsely : Prop := sccOrderRow.holds Try.pinned (OpenSpec.ofChange sccOrderWrong)

/- THE SECOND FORM. 'bulk': how many values and letters a reading holds, each counted each time it is reached (what is shared counts as often as it is met; a slice's spare places count too). A statement '..UptoSaid' is the law's where the arguments, and the package variables that the reading takes, are together of bulk at most 1048576: NARROWER than '..Said'. Prove '..Said' where nothing that the law and all that it calls make is longer than what came in: it says more and counts as full. Else prove '..UptoSaid'. A law counts once. -/
mutual
def uptoBulk {H : Type} : DataW H → Nat
  | .lit (.string bytes) => bytes.length + 1
  | .lit _ => 1
  | .nil => 1
  | .ptr d => uptoBulk d + 1
  | .slice elems spare => uptoBulkAll elems + uptoBulkAll spare + 1
  | .agg parts => uptoBulkAll parts + 1
  | .iface _ d => uptoBulk d + 1
  | .map entries => uptoBulkEntries entries + 1
  | .held _ => 1
def uptoBulkAll {H : Type} : List (DataW H) → Nat
  | [] => 0
  | d :: r => uptoBulk d + uptoBulkAll r
def uptoBulkEntries {H : Type} : List (Lit × DataW H) → Nat
  | [] => 0
  | x :: r => uptoBulkEntry x + uptoBulkEntries r
def uptoBulkEntry {H : Type} : Lit × DataW H → Nat
  | (.string bytes, d) => bytes.length + uptoBulk d + 1
  | (_, d) => uptoBulk d + 1
 end
def uptoSmall : (H : Type) → List (DataW H) → Bool := fun _ ds => decide (uptoBulkAll ds ≤ 1048576)
def OpenSpec.upto (s : _root_.Go.ChangeSpec) : _root_.Go.OpenSpec := { _root_.Go.OpenSpec.ofChange s with cond := some uptoSmall }

/-- 'dataflowlaw05.SccCovers', WHERE WHAT IT READS IS OF BULK AT MOST 1048576: true; the input reads as it did. -/
def sccCoversUptoRow : OpenClaim := { program := "ytchmjgjagaaomaa", sum := "ecd938eb7b1dbcb61fb45ab38c5e50f6f8e4e673c974ccf38563812707f9b783", func := "dataflow/dataflowlaw05.SccCovers", spec := "sccCovers", unfollowed := true, recurses := true, apart := false, narrowed := true }
def SccCoversUptoSaid : Prop := sccCoversUptoRow.holds Try.pinned (OpenSpec.upto sccCoversSpec)

/-- 'dataflowlaw05.SccCycles', WHERE WHAT IT READS IS OF BULK AT MOST 1048576: true; the input reads as it did. -/
def sccCyclesUptoRow : OpenClaim := { program := "ytchmjgjagaaomaa", sum := "ecd938eb7b1dbcb61fb45ab38c5e50f6f8e4e673c974ccf38563812707f9b783", func := "dataflow/dataflowlaw05.SccCycles", spec := "sccCycles", unfollowed := true, recurses := true, apart := false, narrowed := true }
def SccCyclesUptoSaid : Prop := sccCyclesUptoRow.holds Try.pinned (OpenSpec.upto sccCyclesSpec)

/-- 'dataflowlaw05.SccMutual', WHERE WHAT IT READS IS OF BULK AT MOST 1048576: true; the input reads as it did. -/
def sccMutualUptoRow : OpenClaim := { program := "ytchmjgjagaaomaa", sum := "ecd938eb7b1dbcb61fb45ab38c5e50f6f8e4e673c974ccf38563812707f9b783", func := "dataflow/dataflowlaw05.SccMutual", spec := "sccMutual", unfollowed := true, recurses := true, apart := false, narrowed := true }
def SccMutualUptoSaid : Prop := sccMutualUptoRow.holds Try.pinned (OpenSpec.upto sccMutualSpec)

/-- 'dataflowlaw05.SccTells', WHERE WHAT IT READS IS OF BULK AT MOST 1048576: true; the input reads as it did. -/
def sccTellsUptoRow : OpenClaim := { program := "ytchmjgjagaaomaa", sum := "ecd938eb7b1dbcb61fb45ab38c5e50f6f8e4e673c974ccf38563812707f9b783", func := "dataflow/dataflowlaw05.SccTells", spec := "sccTells", unfollowed := true, recurses := true, apart := false, narrowed := true }
def SccTellsUptoSaid : Prop := sccTellsUptoRow.holds Try.pinned (OpenSpec.upto sccTellsSpec)

/-- 'dataflowlaw05.SccCondenses', WHERE WHAT IT READS IS OF BULK AT MOST 1048576: true; the input reads as it did. -/
def sccCondensesUptoRow : OpenClaim := { program := "ytchmjgjagaaomaa", sum := "ecd938eb7b1dbcb61fb45ab38c5e50f6f8e4e673c974ccf38563812707f9b783", func := "dataflow/dataflowlaw05.SccCondenses", spec := "sccCondenses", unfollowed := true, recurses := true, apart := false, narrowed := true }
def SccCondensesUptoSaid : Prop := sccCondensesUptoRow.holds Try.pinned (OpenSpec.upto sccCondensesSpec)

/-- 'dataflowlaw05.SccOrder', WHERE WHAT IT READS IS OF BULK AT MOST 1048576: true; the input reads as it did. -/
def sccOrderUptoRow : OpenClaim := { program := "ytchmjgjagaaomaa", sum := "ecd938eb7b1dbcb61fb45ab38c5e50f6f8e4e673c974ccf38563812707f9b783", func := "dataflow/dataflowlaw05.SccOrder", spec := "sccOrder", unfollowed := true, recurses := true, apart := false, narrowed := true }
def SccOrderUptoSaid : Prop := sccOrderUptoRow.holds Try.pinned (OpenSpec.upto sccOrderSpec)

end Rows
end Go.Proofs.Ytchmjgjagaaomaa
