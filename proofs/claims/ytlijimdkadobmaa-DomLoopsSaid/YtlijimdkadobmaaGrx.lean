/- Contract of Reach. -/
import Derived.Test.YtlijimdkadobmaaGrt
import Derived.Test.YtlijimdkadobmaaGb
import Derived.Laws.EntriesVeiled
namespace Go.Gra
/-- The nodes that are asked for, as they are visited. -/
def fold0 (n : Int) (l : List Int) : List Nat := l.foldl (fun o v => if nodeB n v then vst o v.toNat else o) []
theorem fold0_snoc (n : Int) (l : List Int) (v : Int) : fold0 n (l ++ [v]) = if nodeB n v then vst (fold0 n l) v.toNat else fold0 n l := by simp [fold0, List.foldl_append]
theorem vst_len (o : List Nat) (x : Nat) : o.length ≤ (vst o x).length := by unfold vst; split <;> simp
theorem vstl_len : ∀ (l o : List Nat), o.length ≤ (l.foldl vst o).length
  | [], _ => Nat.le_refl _
  | x :: l, o => Nat.le_trans (vst_len o x) (vstl_len l (vst o x))
/-- The queue from its i-th node on, for k rounds at most. -/
def bfsG (es : List (Int × Int)) : Nat → Nat → List Nat → List Nat
  | 0, _, o => o
  | k + 1, i, o => if i < o.length then bfsG es k (i + 1) ((suc es (Go.Dfl.nth o i)).foldl vst o) else o
/-- What is reached. -/
def reachL (g : G) (l : List Int) : List Nat := bfsG g.es (g.n.toNat + 1) 0 (fold0 g.n l)
end Go.Gra
namespace Go.Proofs.Ytlijimdkadobmaa
open Go.RowKit Go.Dfl Go.Gra Go.Shelf
attribute [local go_sem] Oper.semAt_some

theorem RcW.new {W2 : World} {s : Option Addr} {n cap B0 : Nat} (h : Go.Dfl.Own Value.bool W2 B0 4 (.slice s n cap) (List.replicate n false)) (hB : B0 ≤ W2.heap.size) (fv : Value) (t1 t2 t3 : TypeId) :
    RcW W2.heap.size (W2.heap.size + 1) B0 (W2.heap.size + 1 + 1 + 1) n cap s [] (.slice none 0 0) (((W2.alloc (.cells #[.slice s n cap] t1)).alloc (.cells #[.slice none 0 0] t2)).alloc (.cells #[fv] t3)) ∧ (((W2.alloc (.cells #[.slice s n cap] t1)).alloc (.cells #[.slice none 0 0] t2)).alloc (.cells #[fv] t3)).cell? ⟨W2.heap.size + 1 + 1, 0, none⟩ = some fv := by
  have g1 := grownBy_alloc W2 (.cells #[.slice s n cap] t1)
  have g2 := grownBy_alloc (W2.alloc (.cells #[.slice s n cap] t1)) (.cells #[.slice none 0 0] t2)
  have g3 := grownBy_alloc ((W2.alloc (.cells #[.slice s n cap] t1)).alloc (.cells #[.slice none 0 0] t2)) (.cells #[fv] t3)
  have c1 := cell_alloc1 W2 (.slice s n cap) t1
  have c2 := cell_alloc1 (W2.alloc (.cells #[.slice s n cap] t1)) (.slice none 0 0) t2
  have h2 := heap_alloc_new (W2.alloc (.cells #[.slice s n cap] t1)) (.cells #[.slice none 0 0] t2)
  have c3 := cell_alloc1 ((W2.alloc (.cells #[.slice s n cap] t1)).alloc (.cells #[.slice none 0 0] t2)) fv t3
  have h3 := g3.block _ (Array.getElem?_eq_some_iff.1 h2).1 (by simp)
  rw [h2] at h3
  rw [World.size_alloc] at c2 h3
  rw [World.size_alloc, World.size_alloc] at c3
  have hv : visB n [] = List.replicate n false := by
    unfold visB
    rw [List.eq_replicate_iff]
    exact ⟨by simp, fun b hb => by simp at hb; exact hb.2⟩
  refine ⟨⟨g3.cell (g2.cell c1 (by simp)) (by simp), ?_, g3.cell c2 (by simp), by unfold World.frozen?; dsimp only; rw [h3]; simp, Go.Dfl.Own.nil _ _ _ _, fun k e => ?_, ⟨by omega, by omega, by omega, by omega, by omega, by omega, by simp⟩, fun x hx => by simp at hx, List.nodup_nil⟩, c3⟩
  · rw [hv]; exact ((h.alloc _).alloc _).alloc _
  · have := h.lt k e; omega
end Go.Proofs.Ytlijimdkadobmaa
