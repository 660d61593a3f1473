/- From a reading of a graph to what a walk is told of it. -/
import Derived.Test.YtchmjgjagaaomaaOpen
import Derived.Test.YtchmjgjagaaomaaGra
import Derived.Test.YtchmjgjagaaomaaGrb
import Derived.Deep.Slices
namespace Go.Proofs.Ytchmjgjagaaomaa
open Go.ChangeShapes Go.WideShapes Go.ChangeAt Go.RowKit Go.Dfl Go.Deep Go.Gra

theorem own : ownKnob Try.prog.godebug = none := by kernel_rfl
theorem laidOut : laidOutB Try.prog = true := by kernel_rfl
def TruePost (w : World) (e : Ending) (w' : World) : Prop := e = .returned (.bool true) ∧ Below w.heap.size w w'
theorem cIg : Try.prog.cellsOf 3 = 1 := by kernel_rfl
theorem cEg : Try.prog.cellsOf 22 = 1 := by kernel_rfl
theorem cGg : Try.prog.cellsOf 24 = 2 := by kernel_rfl

section
variable {H : Type} {enc : TypeId × Value → H} {w : World} {base : Nat} {spare : Nat → Bool} {held : Bool}

theorem int_cs {n : Nat} {c : Value} {x : DataW H × List MemPlace} (h : DataW.trod enc Try.prog w base spare held n 3 [c] = some x) : ∃ y : Int, c = .int .i64 y ∧ -9223372036854775808 ≤ y ∧ y ≤ 9223372036854775807 := by
  obtain ⟨y, e0, _, wy⟩ := DataW.trod_int Try.underlying3 h
  simp at e0
  have b0 := bounds_i64 wy
  exact ⟨y, e0, by omega, by omega⟩
theorem edges_cs {n : Nat} {c : Value} {x : DataW H × List MemPlace} (h : DataW.trod enc Try.prog w base spare held n 22 [c] = some x) : ∃ l : List (Int × Int), Pairs w c l := by
  rcases open_slice Try.underlying22 h with ⟨hcs, _⟩ | ⟨a, len, cap, m, n', D, Pl, hcs, _⟩
  · simp at hcs; subst hcs
    exact ⟨[], none, 0, rfl, by simp, by unfold maxLen; omega, fun i hi => by simp at hi⟩
  · simp at hcs; subst hcs
    obtain ⟨l, -, h2, h3⟩ := pairs_of_trod (enc := enc) (P := Try.prog) (t := 22) Try.underlying22 Try.underlying35 (by kernel_rfl) rfl rfl rfl rfl Try.underlying3 (by kernel_rfl) (a := some a) (len := len) (cap := cap) (d := x.1) (p := x.2) ⟨n, h⟩
    exact ⟨l, h2⟩
set_option maxRecDepth 100000 in
theorem graph_of_trod {c : Array Value} (hc : c.size = Try.prog.cellsOf 24) {d : DataW H} {p : List MemPlace} (h : DataW.Trod enc Try.prog w base spare held 24 (.agg c) d p) :
    ∃ (g : G) (cv : Value), (.agg c : Value) = GV g cv ∧ Pairs w cv g.es := by
  rw [cGg] at hc
  obtain ⟨cs⟩ := c
  match cs, hc with
  | [c0, c1], _ =>
    obtain ⟨fuel, hf0⟩ := h
    have hf1 : DataW.trod enc Try.prog w base spare held fuel 24 [c0, c1] = some (d, p) := hf0
    obtain ⟨xs, n', -, -, hlen, hxs, hf⟩ := DataW.trod_struct Try.underlying24 hf1
    match xs, hxs with
    | [x0, x1], _ =>
      have f0 : DataW.trod enc Try.prog w base spare held n' 3 [c0] = some x0 := by
        have h9 := hf 0 _ rfl
        simpa [cIg, cEg] using h9
      have f1 : DataW.trod enc Try.prog w base spare held n' 22 [c1] = some x1 := by
        have h9 := hf 1 _ rfl
        simpa [cIg, cEg] using h9
      obtain ⟨y0, rfl, -⟩ := int_cs f0
      obtain ⟨l, hP⟩ := edges_cs f1
      exact ⟨⟨y0, l⟩, c1, rfl, hP⟩
end
end Go.Proofs.Ytchmjgjagaaomaa
