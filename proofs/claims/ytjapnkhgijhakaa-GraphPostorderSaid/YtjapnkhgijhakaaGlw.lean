/- What the statements on graphs share. -/
import Derived.Test.YtjapnkhgijhakaaGaw
import Derived.Test.YtjapnkhgijhakaaGeq
import Derived.Test.YtjapnkhgijhakaaGsm
namespace Go.Proofs.Ytjapnkhgijhakaa
open Go.RowKit Go.Dfl Go.Gra
/-- A boxed graph in memory. -/
structure GB (bs : Nat) (g : G) (cv : Value) (Z : World) : Prop where
  box : BoxG Z bs g.n cv
  es : Pairs Z cv g.es
theorem GB.below {bs : Nat} {g : G} {cv : Value} {Z Z' : World} (h : GB bs g cv Z) (hb : Below Z.heap.size Z Z') : GB bs g cv Z' := ⟨h.box.below hb, h.es.below hb⟩
theorem GB.new {g : G} {cv : Value} {Z : World} (h : Pairs Z cv g.es) (t : TypeId) : GB Z.heap.size g cv (Z.alloc (.cells #[.int .i64 g.n, cv] t)) := ⟨BoxG.new _ _ _ _, h.below ((Below.refl _ _).alloc (Nat.le_refl _) _)⟩
/-- The reversed graph; no graph if there was none. -/
def RevIs (g g' : G) : Prop := (gCode g ≠ 0 ∧ g' = ⟨0, []⟩) ∨ (gCode g = 0 ∧ g'.n = g.n ∧ RevOf g.es g'.es)
theorem RevIs.unique {g a b : G} (h : RevIs g a) (k : RevIs g b) : a = b := by
  rcases h with ⟨h1, rfl⟩ | ⟨h1, h2, h3⟩
  · rcases k with ⟨-, rfl⟩ | ⟨k1, -⟩
    · rfl
    · exact absurd k1 h1
  · rcases k with ⟨k1, -⟩ | ⟨-, k2, k3⟩
    · exact absurd h1 k1
    · obtain ⟨n1, e1⟩ := a
      obtain ⟨n2, e2⟩ := b
      dsimp only at h2 h3 k2 k3
      rw [h2, k2, h3.unique k3]
theorem RvrR.is {g : G} {W : World} {e : Ending} {W' : World} (h : RvrR g W e W') : ∃ g' a c, e = .returned (GV g' (.slice a g'.es.length c)) ∧ Pairs W' (.slice a g'.es.length c) g'.es ∧ RevIs g g' ∧ Below W.heap.size W W' := by
  rcases h with ⟨h1, rfl, b⟩ | ⟨h1, a, c, l, rfl, o, hr, b⟩
  · exact ⟨⟨0, []⟩, none, 0, rfl, pairs_nil _, .inl ⟨h1, rfl⟩, b⟩
  · exact ⟨⟨g.n, l⟩, a, c, rfl, own_pairs o, .inr ⟨h1, rfl, hr⟩, b⟩
theorem eqB_refl (l : List Int) : eqB l l = true := by simp [eqB]
theorem sameB_refl (g : G) : sameB g g = true := by simp [sameB]
theorem qt_below {w w' : World} (h : Qt w w') : Below w.heap.size w w' := h.below _
theorem bel_trans {W A B : World} (h : Below W.heap.size W A) (k : Below A.heap.size A B) : Below W.heap.size W B := h.trans (k.mono h.size)
end Go.Proofs.Ytjapnkhgijhakaa
