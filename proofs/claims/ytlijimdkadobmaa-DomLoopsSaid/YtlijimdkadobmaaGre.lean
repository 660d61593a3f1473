/- Contracts of slices.SortFunc and slices.Clone for edges. -/
import Derived.Test.YtlijimdkadobmaaGrd
namespace Go.Gra
open Go.Sort Go.Proofs
theorem ltE (x y : Int × Int) : ltOf cmpE x y = decide (eLt x y) := by
  unfold ltOf
  by_cases h : eLt x y
  · simp [h, (cmpE_neg x y).2 h]
  · simp [h, (cmpE_nonneg x y).2 h]
theorem swoE : SWO (ltOf cmpE) where
  irrefl x := by rw [ltE]; simpa using eLt_irrefl x
  trans x y z h1 h2 := by rw [ltE] at *; simp only [decide_eq_true_eq] at *; exact eLt_trans h1 h2
  ntrans x y z h1 h2 := by rw [ltE] at *; simp only [decide_eq_false_iff_not] at *; unfold eLt at *; omega
end Go.Gra
namespace Go.Proofs.Ytlijimdkadobmaa
open Go.RowKit Go.Dfl Go.Gra Go.Sort

/-- A row that is sorted. -/
def SortR (base g cap : Nat) (l : List (Int × Int)) (W : World) (e : Ending) (W' : World) : Prop := ∃ l' : List (Int × Int), e = .returned (.tuple #[]) ∧ l'.length = l.length ∧ l'.Perm l ∧ (∀ i j, i < j → j < l'.length → ¬ eLt (nth l' j) (nth l' i)) ∧ OwnE elE W' base 53 (.slice (some ⟨g, 0, none⟩) l.length cap) l' ∧ W.grownBy W' (some g)
/-- What Clone returns. -/
def CloneR (l : List (Int × Int)) (W : World) (e : Ending) (W' : World) : Prop := (l = [] ∧ e = .returned (.slice none 0 0) ∧ W' = W) ∨ ∃ g cap, e = .returned (.slice (some ⟨g, 0, none⟩) l.length cap) ∧ OwnE elE W' W.heap.size 53 (.slice (some ⟨g, 0, none⟩) l.length cap) l ∧ Below W.heap.size W W'
end Go.Proofs.Ytlijimdkadobmaa
