/-
  DERIVED. GIVEN WITH THE SEED: THE CARDS: each row of YtnklnklkblgnfaaGreatDoorRows.lean that lists a variable, with what it lists TIED to the program's text (the seventh form; the later family's looks); each row that meets fmt, with fmt's text TOLD by the authors' own Lean function (tested against real Go, not proved from fmt's source: count such statements apart). THE CARD IS WHAT COUNTS. Prove the row's statement (the work); the ties are given (YtnklnklkblgnfaaGreatDoorTie.lean); close each card by the builder's one call (the guide's Derived/Test/ToyasCard.lean, 'card_holds'). Laid BY PROGRAM, IN A SANDBOX (cutbox-door.mjs). By AI agents, Wed Nov 11 2026. No macro, syntax, notation, axiom, sorry.
-/
import Derived.Test.YtnklnklkblgnfaaGreatDoorRows
import GoSem.ClaimSeven
namespace Go.Proofs.YtnklnklkblgnfaaGreatDoor
namespace Rows

/-- THE TIED CARD OF 'dataflowlaw16.ObserveGrows'. -/
def observeGrowsCard : Claim7 := { stood := { row := observeGrowsRow, standIns := [], harness := (true, "5ae8e3f1f16500bc07b14e0e8e9a48098f4277fd941057f4b4b872011feaeb7b"), looks := false }, kinds := [], alts := [], laidByText := true, laidKinds := [.data], laidTests := true, laidLooks := .later }
def ObserveGrowsCardSaid : Prop := Claim7.holds Tryz.pinned (.plain (OpenSpec.ofChange observeGrowsSpec)) observeGrowsCard

/-- THE SECOND FORM's CARD OF 'dataflowlaw16.ObserveGrows'. -/
def observeGrowsUptoCard : Claim7 := { stood := { row := observeGrowsUptoRow, standIns := [], harness := (true, "5ae8e3f1f16500bc07b14e0e8e9a48098f4277fd941057f4b4b872011feaeb7b"), looks := false }, kinds := [], alts := [], laidByText := true, laidKinds := [.data], laidTests := true, laidLooks := .later }
def ObserveGrowsUptoCardSaid : Prop := Claim7.holds Tryz.pinned (.plain (OpenSpec.upto observeGrowsSpec)) observeGrowsUptoCard
end Rows
end Go.Proofs.YtnklnklkblgnfaaGreatDoor
