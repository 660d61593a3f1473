/- Contract of Succ. -/
import Derived.Test.YtlijimdkadobmaaGri
import Derived.Test.YtlijimdkadobmaaGrc
namespace Go.Dfl
open Go.RowKit
/-- 'append(s, x)' in a round. -/
theorem wpIn_append1 {F : Fence} {nF : Nat} {α : Type} {f : α → Value} {P : Program} {t e : TypeId} {z : Value} {by8 : Nat} (ht : SliceOf P t e z 1 by8) (hz : z.cells.size = 1) (w : World) {ops : Array Oper} {rest : List Oper} {o : Oper} {a : Act} {Q : Exit → Act → World → Prop}
    (hg : o.guard = none) (s x : Operand) (hop : o.op = .call { callee := .builtin .append, args := #[s, x], argTypes := #[t, t] })
    (base : Nat) (v : Value) (l : List α) (hs : a.eval s = v) (hown : Own f w base e v l) (y : α) (ad : Addr) (hx : a.eval x = .slice (some ad) 1 1) (hy : w.cell? ad = some (f y)) (h1 : (f y).oneCell' = true)
    (hlen : l.length < 17592186044416) (h8 : by8 ≤ 8) (hbase : base ≤ w.heap.size)
    (hK : ∀ v' w', Own f w' base e v' (l ++ [y]) → w.grownBy w' v.ownBlock → Below base w w' → wpListIn F nF P ops Q rest (a.put o.dst v') w') : wpListIn F nF P ops Q (o :: rest) a w := by
  obtain ⟨i, hi, hz0, hz1, hz2⟩ := ht.info
  refine wpListIn_append_own w hg s x t hop base e i z 1 by8 ht.und hi hz0 hz1 hz2 hz (by omega) v l.length (l.map f) hs hown ad 1 1 [f y] hx rfl ?_ (by simpa using h1) (by unfold maxLen; omega) ?_ hbase ?_
  · intro j u hj
    cases j with
    | zero => simp at hj; subst hj; simpa [Addr.add] using hy
    | succ j => simp at hj
  · exact Nat.le_trans (Nat.mul_le_mul (by omega : l.length + 1 ≤ 17592186044416) h8) (by omega)
  · intro v' w' h2 h3 _
    exact hK v' w' (by unfold Own; simpa using h2) h3 ((Below.refl _ _).grown h3 hbase fun k hk => (World.ownsRow.lt hown k hk).1)
end Go.Dfl
namespace Go.Proofs.Ytlijimdkadobmaa
open Go.RowKit Go.Dfl Go.Gra Go.Shelf
attribute [local go_sem] Oper.semAt_some

def sucZ (g : G) (v : Int) : List Nat := if nodeG g v then suc g.es v.toNat else []
def SuccR (g : G) (v : Int) (W : World) (e : Ending) (W' : World) : Prop := ∃ a c, e = .returned (.slice a (sucZ g v).length c) ∧ Ints W' (.slice a (sucZ g v).length c) ((sucZ g v).map fun x : Nat => (x : Int)) ∧ Below W.heap.size W W'
/-- A list in a box. -/
structure BxI (b base : Nat) (l : List Int) (W : World) : Prop where
  ex : ∃ v, W.cell? ⟨b, 0, none⟩ = some v ∧ OwnI W base 3 v l
  frz : W.frozen? ⟨b, 0, none⟩ = false
  lt : b < base
theorem BxI.grown {b base : Nat} {l : List Int} {W W' : World} (h : BxI b base l W) {row : Option Nat} (hg : W.grownBy W' row) (hr : ∀ k, row = some k → k ≠ b ∧ (k < base ∨ W.heap.size ≤ k ∨ ∀ v, W.cell? ⟨b, 0, none⟩ = some v → v.ownBlock ≠ some k)) : BxI b base l W' := by
  obtain ⟨v, h1, h2⟩ := h.ex
  have hlt := World.block_lt_of_cell? W _ h1
  have hne : some b ≠ row := fun e => (hr b e.symm).1 rfl
  refine ⟨⟨v, hg.cell h1 hne, h2.grown hg ?_⟩, ?_, h.lt⟩
  · cases e : v.ownBlock with
    | none => exact .inl rfl
    | some k =>
      refine .inr fun e2 => ?_
      have h3 := h2.lt k e
      rcases (hr k e2.symm).2 with h4 | h4 | h4
      · omega
      · omega
      · exact h4 v h1 e
  · rw [World.frozen?_of_block (a := ⟨b, 0, none⟩) (hg.block b hlt hne)]; exact h.frz
theorem BxI.own {b base B : Nat} {α : Type} {f : α → List Int} : OwnFrom B (fun (s : α) W => BxI b base (f s) W) := fun s W W' row hs hg hr => hs.grown hg fun k e => by
  obtain ⟨-, o, ho, hc⟩ := hr k e
  obtain ⟨v, h1, h2⟩ := hs.ex
  refine ⟨fun e2 => ?_, .inr (.inr fun u hu e2 => ?_)⟩
  · subst e2
    simp only [World.cell?, ho] at h1
    cases o <;> simp_all [Obj.isCells]
  · rw [hu] at h1
    obtain rfl := Option.some.inj h1
    obtain ⟨-, ⟨h3, -⟩ | ⟨g, cap, cur, h3, -, h5, -⟩⟩ := h2
    · rw [h3] at e2; simp [Value.ownBlock] at e2
    · rw [h3] at e2
      have e3 : g = k := by simpa [Value.ownBlock] using e2
      subst e3
      rw [ho] at h5
      obtain rfl := Option.some.inj h5
      simp [Obj.isCells] at hc

theorem ownFrom_size {β : Type} {B m : Nat} : OwnFrom B (fun (_ : β) W => m ≤ W.heap.size) := fun _ _ _ _ hs hg _ => Nat.le_trans hs hg.size
theorem own_ne_obj {f : Int → Value} {W : World} {base : Nat} {e : TypeId} {v : Value} {l : List Int} (h : Go.Dfl.Own f W base e v l) {D : Nat} {o : Obj} (hD : W.heap[D]? = some o) (ho : o.isCells = false) : v.ownBlock = none ∨ v.ownBlock ≠ some D := by
  refine .inr fun e2 => ?_
  obtain ⟨-, ⟨h3, -⟩ | ⟨g, cap, cur, h3, -, h5, -⟩⟩ := h
  · rw [h3] at e2; simp [Value.ownBlock] at e2
  · rw [h3] at e2
    have e3 : g = D := by simpa [Value.ownBlock] using e2
    subst e3
    rw [hD] at h5
    obtain rfl := Option.some.inj h5
    simp [Obj.isCells] at ho
end Go.Proofs.Ytlijimdkadobmaa
