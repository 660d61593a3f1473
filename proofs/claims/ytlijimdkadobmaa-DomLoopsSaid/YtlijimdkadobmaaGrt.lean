/- Contract of Reach's visit. -/
import Derived.Test.YtlijimdkadobmaaGrq
import Derived.Test.YtlijimdkadobmaaGa
import Derived.Maps.AppendAt
namespace Go.Dfl
open Go.RowKit
/-- 'append(s, x)', and where the row lies afterwards. -/
theorem wp_append1at {α : Type} {f : α → Value} {P : Program} {t e : TypeId} {z : Value} {by8 : Nat} (ht : SliceOf P t e z 1 by8) (hz : z.cells.size = 1) (w : World) {ops : Array Oper} {rest : List Oper} {o : Oper} {a : Act} {Q : Exit → Act → World → Prop}
    (hg : o.guard = none) (s x : Operand) (hop : o.op = .call { callee := .builtin .append, args := #[s, x], argTypes := #[t, t] })
    (base : Nat) (v : Value) (l : List α) (hs : a.eval s = v) (hown : Own f w base e v l) (y : α) (ad : Addr) (hx : a.eval x = .slice (some ad) 1 1) (hy : w.cell? ad = some (f y)) (h1 : (f y).oneCell' = true)
    (hlen : l.length < 17592186044416) (h8 : by8 ≤ 8) (hbase : base ≤ w.heap.size)
    (hK : ∀ v' w', Own f w' base e v' (l ++ [y]) → w.grownBy w' v.ownBlock → (v'.ownBlock = v.ownBlock ∨ v'.ownBlock = some w.heap.size) → wpList P ops Q rest (a.put o.dst v') w') : wpList P ops Q (o :: rest) a w := by
  obtain ⟨i, hi, hz0, hz1, hz2⟩ := ht.info
  refine wpList_append_own_at w hg s x t hop base e i z 1 by8 ht.und hi hz0 hz1 hz2 hz (by omega) v l.length (l.map f) hs hown ad 1 1 [f y] hx rfl ?_ (by simpa using h1) (by unfold maxLen; omega) ?_ hbase ?_
  · intro j u hj
    cases j with
    | zero => simp at hj; subst hj; simpa [Addr.add] using hy
    | succ j => simp at hj
  · exact Nat.le_trans (Nat.mul_le_mul (by omega : l.length + 1 ≤ 17592186044416) h8) (by omega)
  · intro v' w' h2 h3 _ h4
    exact hK v' w' (by unfold Own; simpa using h2) h3 h4
end Go.Dfl
namespace Go.Gra
/-- One visit. -/
def vst (o : List Nat) (x : Nat) : List Nat := if x ∈ o then o else o ++ [x]
def visB (n : Nat) (o : List Nat) : List Bool := (List.range n).map fun i => decide (i ∈ o)
theorem nodup_len : ∀ (n : Nat) (l : List Nat), l.Nodup → (∀ x ∈ l, x < n) → l.length ≤ n
  | 0, [], _, _ => by simp
  | 0, a :: l, _, h => by have := h a (by simp); omega
  | n + 1, l, hl, h => by
    by_cases hm : n ∈ l
    · have h1 := nodup_len n (l.erase n) (hl.erase n) fun x hx => by
        have h2 := (hl.mem_erase_iff).1 hx
        have := h x h2.2
        omega
      rw [List.length_erase_of_mem hm] at h1; omega
    · have h1 := nodup_len n l hl fun x hx => by
        have := h x hx
        have h3 : x ≠ n := fun e => hm (e ▸ hx)
        omega
      omega
theorem visB_len (n : Nat) (o : List Nat) : (visB n o).length = n := by simp [visB]
theorem visB_nth {n : Nat} {o : List Nat} {x : Nat} (h : x < n) : Go.Dfl.nth (visB n o) x = decide (x ∈ o) := by
  rw [Go.Dfl.nth_eq _ _ (by rw [visB_len]; exact h)]; simp [visB]
theorem visB_set {n : Nat} {o : List Nat} {x : Nat} (h : x < n) : (visB n o).set x true = visB n (o ++ [x]) := by
  refine Go.Dfl.nth_ext (by rw [List.length_set, visB_len, visB_len]) fun i hi => ?_
  rw [List.length_set, visB_len] at hi
  rw [Go.Dfl.nth_set, visB_len, visB_nth hi]
  by_cases e : x = i
  · subst e; rw [if_pos ⟨rfl, h⟩, visB_nth h]; simp
  · rw [if_neg (fun h => e h.1), visB_nth hi]
    simp only [List.mem_append, List.mem_singleton]
    by_cases h2 : i ∈ o
    · simp [h2]
    · simp [h2]; exact fun h => e h.symm
end Go.Gra
namespace Go.Proofs.Ytlijimdkadobmaa
open Go.RowKit Go.Dfl Go.Gra

theorem own_isCells {α : Type} {f : α → Value} {w : World} {base : Nat} {e : TypeId} {v : Value} {l : List α} (h : Go.Dfl.Own f w base e v l) {k : Nat} (hk : v.ownBlock = some k) {o : Obj} (ho : w.heap[k]? = some o) : o.isCells = true := by
  obtain ⟨-, ⟨h3, -⟩ | ⟨g, cap, cur, h3, -, h5, -⟩⟩ := h
  · rw [h3] at hk; simp [Value.ownBlock] at hk
  · rw [h3] at hk
    have e3 : g = k := by simpa [Value.ownBlock] using hk
    subst e3
    rw [ho] at h5
    obtain rfl := Option.some.inj h5
    rfl
theorem nodup_snoc {o : List Nat} {x : Nat} (h : o.Nodup) (hx : ¬ x ∈ o) : (o ++ [x]).Nodup := by
  rw [List.nodup_append]
  exact ⟨h, by simp, fun a ha b hb e => by rw [List.mem_singleton.1 hb] at e; exact hx (e ▸ ha)⟩
/-- The state of Reach: the row of marks (its box bv), the list (its box bo). -/
structure RcW (bv bo B0 B n cap : Nat) (s : Option Addr) (o : List Nat) (ov : Value) (W : World) : Prop where
  bx : W.cell? ⟨bv, 0, none⟩ = some (.slice s n cap)
  row : Go.Dfl.Own Value.bool W B0 4 (.slice s n cap) (visB n o)
  lx : W.cell? ⟨bo, 0, none⟩ = some ov
  lfr : W.frozen? ⟨bo, 0, none⟩ = false
  lst : OwnI W B 3 ov (o.map fun x : Nat => (x : Int))
  sep : ∀ k, (Value.slice s n cap).ownBlock = some k → k ≠ bv ∧ k ≠ bo ∧ k < B
  ne : bv ≠ bo ∧ bv < B ∧ bo < B ∧ B0 ≤ bv ∧ B0 ≤ bo ∧ B0 ≤ B ∧ B ≤ W.heap.size
  mem : ∀ x ∈ o, x < n
  nd : o.Nodup
/-- What a visit leaves alone. -/
structure RcK (bo B0 : Nat) (rv ov ov' : Value) (W W' : World) : Prop where
  below : Below B0 W W'
  oth : KeepsOthers W W'
  blk : ∀ k, k < W.heap.size → k ≠ bo → rv.ownBlock ≠ some k → ov.ownBlock ≠ some k → W'.heap[k]? = W.heap[k]?
  at_ : ov'.ownBlock = ov.ownBlock ∨ ∀ k, ov'.ownBlock = some k → W.heap.size ≤ k
theorem RcW.len {bv bo B0 B n cap : Nat} {s : Option Addr} {o : List Nat} {ov : Value} {W : World} (h : RcW bv bo B0 B n cap s o ov W) : o.length ≤ n := by
  have h1 := nodup_len n o h.nd h.mem
  exact h1
def VisR (bv bo B0 B n cap : Nat) (s : Option Addr) (o : List Nat) (ov : Value) (x : Nat) (W : World) (e : Ending) (W' : World) : Prop :=
  e = .returned (.tuple #[]) ∧ ∃ ov', RcW bv bo B0 B n cap s (vst o x) ov' W' ∧ RcK bo B0 (.slice s n cap) ov ov' W W'
end Go.Proofs.Ytlijimdkadobmaa
