/- Contract of Pred. -/
import Derived.Test.YtchmjgjagaaomaaGrs
namespace Go.Proofs.Ytchmjgjagaaomaa
open Go.RowKit Go.Dfl Go.Gra

/-- The predecessors of v in the first k edges. -/
def predK (es : List (Int × Int)) (v : Int) (k : Nat) : List Int := ((es.take k).filter fun e => decide (e.2 = v)).map fun e => e.1
theorem predK_yes {es : List (Int × Int)} {v : Int} {k : Nat} (h : k < es.length) (hv : (nth es k).2 = v) : predK es v (k + 1) = predK es v k ++ [(nth es k).1] := by
  unfold predK; rw [take_snoc _ _ h, List.filter_append, List.map_append]; simp [hv]
theorem predK_no {es : List (Int × Int)} {v : Int} {k : Nat} (h : k < es.length) (hv : (nth es k).2 ≠ v) : predK es v (k + 1) = predK es v k := by
  unfold predK; rw [take_snoc _ _ h, List.filter_append, List.map_append]; simp [hv]
theorem predK_len (es : List (Int × Int)) (v : Int) (k : Nat) : (predK es v k).length ≤ k := by
  unfold predK; rw [List.length_map]; exact Nat.le_trans (List.length_filter_le _ _) (by rw [List.length_take]; omega)
def predZ (g : G) (v : Int) : List Int := if nodeG g v then predK g.es v g.es.length else []
def PredR (g : G) (v : Int) (W : World) (e : Ending) (W' : World) : Prop := ∃ a c, e = .returned (.slice a (predZ g v).length c) ∧ Ints W' (.slice a (predZ g v).length c) (predZ g v) ∧ Below W.heap.size W W'
end Go.Proofs.Ytchmjgjagaaomaa
