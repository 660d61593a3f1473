/- Contract of the reference's sets. -/
import Derived.Test.YtkfhopnolflchaaRfc
namespace Go.And
open Go.Dfl (nth nth_mem mem_nth nth_eq)
/-- Whether lists are ascending lists of sites. -/
def setsB (ll : List (List Int)) (n : Int) : Bool := ll.all fun l => subB l n && ascB l
theorem setsB_iff (ll : List (List Int)) (n : Int) : setsB ll n = true ↔ ∀ i, i < ll.length → ∀ k, k < (nth ll i).length → (0 ≤ nth (nth ll i) k ∧ nth (nth ll i) k < n) ∧ (0 < k → nth (nth ll i) (k - 1) < nth (nth ll i) k) := by
  unfold setsB
  rw [List.all_eq_true]
  constructor
  · intro h i hi k hk
    have h1 := h _ (nth_mem _ _ hi)
    rw [Bool.and_eq_true] at h1
    refine ⟨(subB_iff _ _).1 h1.1 k hk, fun h0 => ?_⟩
    have h2 := (ascB_iff _).1 h1.2 (k - 1) (by omega)
    rwa [show k - 1 + 1 = k by omega] at h2
  · intro h l hl
    obtain ⟨i, hi, rfl⟩ := mem_nth hl
    rw [Bool.and_eq_true]
    refine ⟨(subB_iff _ _).2 fun k hk => (h i hi k hk).1, (ascB_iff _).2 fun k hk => ?_⟩
    have h2 := (h i hi (k + 1) hk).2 (by omega)
    rwa [show k + 1 - 1 = k by omega] at h2
end Go.And
namespace Go.Proofs.Ytkfhopnolflchaa
open Go.RowKit Go.Dfl Go.And

end Go.Proofs.Ytkfhopnolflchaa
