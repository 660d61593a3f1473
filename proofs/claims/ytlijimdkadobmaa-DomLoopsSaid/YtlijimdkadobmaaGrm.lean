/- Contract of Make. -/
import Derived.Test.YtlijimdkadobmaaGre
import Derived.Laws.ResultCell
namespace Go.Gra
/-- What Make returns. -/
def MkL (n : Int) (es : List (Int × Int)) (g : G) (code : Int) : Prop :=
  (n < 0 ∧ code = 4 ∧ g = ⟨0, []⟩) ∨ (8192 < n ∧ code = 3 ∧ g = ⟨0, []⟩) ∨ ((0 ≤ n ∧ n ≤ 8192) ∧ (∃ e ∈ es, inB n e = false) ∧ code = 4 ∧ g = ⟨0, []⟩) ∨
  ((0 ≤ n ∧ n ≤ 8192) ∧ (∀ e ∈ es, inB n e = true) ∧ code = 0 ∧ g.n = n ∧ SortOf es g.es)
theorem MkL.unique {n : Int} {es : List (Int × Int)} {g g' : G} {c c' : Int} (h : MkL n es g c) (k : MkL n es g' c') : g = g' ∧ c = c' := by
  rcases h with ⟨h1, rfl, rfl⟩ | ⟨h1, rfl, rfl⟩ | ⟨h1, ⟨e, he, hb⟩, rfl, rfl⟩ | ⟨h1, h2, rfl, h3, h4⟩
  · rcases k with ⟨k1, rfl, rfl⟩ | ⟨k1, -⟩ | ⟨k1, -⟩ | ⟨k1, -⟩
    · exact ⟨rfl, rfl⟩
    all_goals omega
  · rcases k with ⟨k1, -⟩ | ⟨k1, rfl, rfl⟩ | ⟨k1, -⟩ | ⟨k1, -⟩
    · omega
    · exact ⟨rfl, rfl⟩
    all_goals omega
  · rcases k with ⟨k1, -⟩ | ⟨k1, -⟩ | ⟨-, -, rfl, rfl⟩ | ⟨-, k2, -⟩
    · omega
    · omega
    · exact ⟨rfl, rfl⟩
    · rw [k2 e he] at hb; cases hb
  · rcases k with ⟨k1, -⟩ | ⟨k1, -⟩ | ⟨-, ⟨e, he, hb⟩, -⟩ | ⟨-, -, rfl, k3, k4⟩
    · omega
    · omega
    · rw [h2 e he] at hb; cases hb
    · obtain ⟨n1, e1⟩ := g
      obtain ⟨n2, e2⟩ := g'
      dsimp only at *
      exact ⟨by rw [h3, k3, h4.unique k4], rfl⟩
end Go.Gra
namespace Go.Proofs.Ytlijimdkadobmaa
open Go.RowKit Go.Dfl Go.Gra

/-- The block of a result that is not yet written. -/
def GZ (W : World) (b : Nat) : Prop := W.heap[b]? = some (.cells #[.int .i64 0, .slice none 0 0] 24)
theorem GZ.grown {W W' : World} {b : Nat} {row : Option Nat} (h : GZ W b) (hg : W.grownBy W' row) (hne : some b ≠ row) : GZ W' b := (hg.block b (Array.getElem?_eq_some_iff.1 h).1 hne).trans h
theorem GZ.below {W W' : World} {b : Nat} (h : GZ W b) (hb : Below W.heap.size W W') : GZ W' b := h.grown (grownBy_below hb) (by simp)
theorem GZ.lt {W : World} {b : Nat} (h : GZ W b) : b < W.heap.size := (Array.getElem?_eq_some_iff.1 h).1
theorem GZ.rd {W : World} {b : Nat} (h : GZ W b) : (W.cell? ⟨b, 0, none⟩ = some (.int .i64 0) ∧ W.cell? ⟨b, 1, none⟩ = some (.slice none 0 0)) ∧ W.frozen? ⟨b, 0, none⟩ = false ∧ W.frozen? ⟨b, 1, none⟩ = false := by
  have h' : W.heap[b]? = some (.cells #[.int .i64 0, .slice none 0 0] 24) := h
  exact ⟨⟨by simp [World.cell?, h'], by simp [World.cell?, h']⟩, by simp [World.frozen?, h'], by simp [World.frozen?, h']⟩
theorem below2s {B : Nat} {W Z : World} (h : Below B W Z) {b : Nat} (hb : B ≤ b) (x y : Value) : Below B W ((Z.setCell ⟨b, 0, none⟩ x).setCell ⟨b, 1, none⟩ y) :=
  (h.setCell (show B ≤ (⟨b, 0, none⟩ : Addr).block from hb) _).setCell (show B ≤ (⟨b, 1, none⟩ : Addr).block from hb) _
theorem pairs_nil (W : World) : Pairs W (.slice none 0 0) [] := ⟨none, 0, rfl, by simp, by unfold maxLen; omega, fun i hi => by simp at hi⟩
theorem own_pairs {W : World} {base : Nat} {e : TypeId} {v : Value} {l : List (Int × Int)} (h : OwnE elE W base e v l) : Pairs W v l := by
  obtain ⟨a, c, e1, h1, h2, h3⟩ := Go.Dfl.OwnE.sliced h
  refine ⟨a, c, e1, h1, h2, fun i hi => ⟨(h3 i hi).1, (h3 i hi).2.1, fun j hj => ?_⟩⟩
  have h4 := (h3 i hi).2.2 j hj
  rw [show elE.sz = 2 from rfl] at h4
  rw [h4]
  rcases (by omega : j = 0 ∨ j = 1) with rfl | rfl <;> rfl
def MakeR (n : Int) (es : List (Int × Int)) (W : World) (e : Ending) (W' : World) : Prop := ∃ a c g code, e = .returned (.tuple #[GV g (.slice a g.es.length c), .int .i64 code]) ∧ Pairs W' (.slice a g.es.length c) g.es ∧ MkL n es g code ∧ Below W.heap.size W W'
theorem OwnE.mono' {W : World} {base base' : Nat} {e : TypeId} {v : Value} {l : List (Int × Int)} (h : OwnE elE W base e v l) (hb : base' ≤ base) : OwnE elE W base' e v l := by
  obtain ⟨h1, h2 | ⟨g, cap, cur, hv, hg, r⟩⟩ := h
  · exact ⟨h1, .inl h2⟩
  · exact ⟨h1, .inr ⟨g, cap, cur, hv, by omega, r⟩⟩
end Go.Proofs.Ytlijimdkadobmaa
