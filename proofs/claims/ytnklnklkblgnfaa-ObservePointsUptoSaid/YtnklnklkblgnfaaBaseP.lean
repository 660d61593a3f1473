/- Rows of the call's own whose elements are pairs of ints (two cells an element). -/
import Derived.Test.YtnklnklkblgnfaaGa
import Derived.Deep.RegionLaw
namespace Go.Dfl
open Go.RowKit

def flat2 (l : List (Int × Int)) : List Value := l.flatMap fun d => [.int .i64 d.1, .int .i64 d.2]
theorem flat2_len (l : List (Int × Int)) : (flat2 l).length = l.length * 2 := by
  induction l with
  | nil => rfl
  | cons d r ih => simp [flat2] at *; omega
theorem flat2_get : ∀ (l : List (Int × Int)) (i j : Nat), i < l.length → j < 2 → (flat2 l)[i * 2 + j]? = some (.int .i64 (if j = 0 then (nth l i).1 else (nth l i).2))
  | [], i, j, h, _ => by simp at h
  | d :: r, 0, j, _, hj => by
    rcases (by omega : j = 0 ∨ j = 1) with rfl | rfl <;> simp [flat2, nth]
  | d :: r, i+1, j, h, hj => by
    have := flat2_get r i j (by simpa using h) hj
    have e : (i + 1) * 2 + j = (i * 2 + j) + 1 + 1 := by omega
    rw [e]
    simp only [flat2, List.flatMap_cons, List.cons_append, List.nil_append, List.getElem?_cons_succ]
    rw [show nth (d :: r) (i+1) = nth r i from by simp [nth]]
    exact this

def OwnP (w : World) (base : Nat) (e : TypeId) (v : Value) (l : List (Int × Int)) : Prop := w.ownsRow base e 2 v l.length (flat2 l)

theorem OwnP.pairs {w : World} {base : Nat} {e : TypeId} {v : Value} {l : List (Int × Int)} (h : OwnP w base e v l) : Pairs w v l := by
  obtain ⟨h1, ⟨rfl, h2⟩ | ⟨g, cap, cur, rfl, hg, hh, hc, hm, hs, ht⟩⟩ := h
  · exact ⟨none, 0, by rw [h2], by omega, by unfold maxLen; omega, fun i hi => by omega⟩
  · refine ⟨some ⟨g, 0, none⟩, cap, rfl, hc, hm, fun i hi => ⟨rfl, ?_, fun j hj => ?_⟩⟩
    · exact (Array.getElem?_eq_some_iff.1 hh).1
    · have hx : cur.toList[i * 2 + j]? = some (.int .i64 (if j = 0 then (nth l i).1 else (nth l i).2)) := by
        rw [← flat2_get l i j hi hj, ← ht, List.getElem?_take, if_pos (by omega)]
      simp [World.cell?, blk, ofs, hh]
      simpa using hx

theorem OwnP.nil (w : World) (base : Nat) (e : TypeId) : OwnP w base e (.slice none 0 0) [] := ⟨rfl, .inl ⟨rfl, rfl⟩⟩
theorem OwnP.alloc {w : World} {base : Nat} {e : TypeId} {v : Value} {l : List (Int × Int)} (h : OwnP w base e v l) (o : Obj) : OwnP (w.alloc o) base e v l := World.ownsRow.alloc h o
theorem OwnP.below {w w' : World} {base : Nat} {e : TypeId} {v : Value} {l : List (Int × Int)} (h : OwnP w base e v l) (hb : Below w.heap.size w w') : OwnP w' base e v l :=
  World.ownsRow.kept h (row := none) ⟨hb.os, hb.tape, hb.output, hb.size, fun k hk _ => hb.block k hk⟩ (by cases v.ownBlock <;> simp)
theorem OwnP.qt {w w' : World} {base : Nat} {e : TypeId} {v : Value} {l : List (Int × Int)} (h : OwnP w base e v l) (hb : Qt w w') : OwnP w' base e v l := h.below (hb.below _)

/-- 'append(s, x)', x a pair. -/
theorem wp_appendP {P : Program} {t e : TypeId} {z : Value} {by8 : Nat} (ht : SliceOf P t e z 2 by8) (hz : z.cells.size = 2) (w : World) {ops : Array Oper} {rest : List Oper} {o : Oper} {a : Act} {Q : Exit → Act → World → Prop}
    (hg : o.guard = none) (s x : Operand) (hop : o.op = .call { callee := .builtin .append, args := #[s, x], argTypes := #[t, t] })
    (base : Nat) (v : Value) (l : List (Int × Int)) (hs : a.eval s = v) (hown : OwnP w base e v l) (y : Int × Int) (b o2 : Nat) (hx : a.eval x = .slice (some ⟨b, o2, none⟩) 1 1)
    (hy1 : w.cell? ⟨b, o2, none⟩ = some (.int .i64 y.1)) (hy2 : w.cell? ⟨b, o2 + 1, none⟩ = some (.int .i64 y.2))
    (hlen : l.length < 8796093022208) (h8 : by8 ≤ 16) (hbase : base ≤ w.heap.size)
    (hK : ∀ v' w', OwnP w' base e v' (l ++ [y]) → w.grownBy w' v.ownBlock → Below base w w' → wpList P ops Q rest (a.put o.dst v') w') : wpList P ops Q (o :: rest) a w := by
  obtain ⟨i, hi, hz0, hz1, hz2⟩ := ht.info
  refine wpList_append_own w hg s x t hop base e i z 2 by8 ht.und hi hz0 hz1 hz2 hz (by omega) v l.length (flat2 l) hs hown ⟨b, o2, none⟩ 1 1 [.int .i64 y.1, .int .i64 y.2] hx rfl ?_ (by simp [Value.oneCell']) (by unfold maxLen; omega) ?_ hbase ?_
  · intro j u hj
    match j with
    | 0 => simp at hj; subst hj; simpa [Addr.add] using hy1
    | 1 => simp at hj; subst hj; simpa [Addr.add] using hy2
    | j+2 => simp at hj
  · exact Nat.le_trans (Nat.mul_le_mul (by omega : l.length + 1 ≤ 8796093022208) h8) (by omega)
  · intro v' w' h2 h3 _
    exact hK v' w' (by unfold OwnP; simpa [flat2] using h2) h3 ((Below.refl _ _).grown h3 hbase fun k hk => (World.ownsRow.lt hown k hk).1)

/-- The same as one step of a region that draws its order. -/
theorem step_appendP {P : Program} {t e : TypeId} {z : Value} {by8 : Nat} (ht : SliceOf P t e z 2 by8) (hz : z.cells.size = 2) {w : World} {ops : Array Oper} {o : Oper} {a : Act} {K : Act → World → Prop} {Q : Exit → Act → World → Prop} {E : Prop}
    (hg : o.guard = none) (s x : Operand) (hop : o.op = .call { callee := .builtin .append, args := #[s, x], argTypes := #[t, t] })
    (base : Nat) (v : Value) (l : List (Int × Int)) (hs : a.eval s = v) (y : Int × Int) (b o2 : Nat) (hx : a.eval x = .slice (some ⟨b, o2, none⟩) 1 1)
    (hown : OwnP w base e v l) (hy1 : w.cell? ⟨b, o2, none⟩ = some (.int .i64 y.1)) (hy2 : w.cell? ⟨b, o2 + 1, none⟩ = some (.int .i64 y.2))
    (hlen : l.length < 8796093022208) (h8 : by8 ≤ 16) (hbase : base ≤ w.heap.size)
    (hK : ∀ v' w', OwnP w' base e v' (l ++ [y]) → w.grownBy w' v.ownBlock → Below base w w' → K (a.put o.dst v') w') :
    if Region.wanted o (yielded ops a.tmps) = true then Oper.wp P o a w K Q else E := by
  have hw : Region.wanted o (yielded ops a.tmps) = true := by simp [Region.wanted, hg]
  rw [if_pos hw]
  obtain ⟨i, hi, hz0, hz1, hz2⟩ := ht.info
  refine wp_append_own w s x t hop base e i z 2 by8 ht.und hi hz0 hz1 hz2 hz (by omega) v l.length (flat2 l) hs hown ⟨b, o2, none⟩ 1 1 [.int .i64 y.1, .int .i64 y.2] hx rfl ?_ (by simp [Value.oneCell']) (by unfold maxLen; omega) ?_ hbase ?_
  · intro j u hj
    match j with
    | 0 => simp at hj; subst hj; simpa [Addr.add] using hy1
    | 1 => simp at hj; subst hj; simpa [Addr.add] using hy2
    | j+2 => simp at hj
  · exact Nat.le_trans (Nat.mul_le_mul (by omega : l.length + 1 ≤ 8796093022208) h8) (by omega)
  · intro v' w' h2 h3 _
    exact hK v' w' (by unfold OwnP; simpa [flat2] using h2) h3 ((Below.refl _ _).grown h3 hbase fun k hk => (World.ownsRow.lt hown k hk).1)

/-- 'append(s, x)', one-cell elements, as one step of a region that draws its order. -/
theorem step_append1 {α : Type} {f : α → Value} {P : Program} {t e : TypeId} {z : Value} {by8 : Nat} (ht : SliceOf P t e z 1 by8) (hz : z.cells.size = 1) {w : World} {ops : Array Oper} {o : Oper} {a : Act} {K : Act → World → Prop} {Q : Exit → Act → World → Prop} {E : Prop}
    (hg : o.guard = none) (s x : Operand) (hop : o.op = .call { callee := .builtin .append, args := #[s, x], argTypes := #[t, t] })
    (base : Nat) (v : Value) (l : List α) (hs : a.eval s = v) (y : α) (ad : Addr) (hx : a.eval x = .slice (some ad) 1 1)
    (hown : Own f w base e v l) (hy : w.cell? ad = some (f y)) (h1 : (f y).oneCell' = true)
    (hlen : l.length < 17592186044416) (h8 : by8 ≤ 8) (hbase : base ≤ w.heap.size)
    (hK : ∀ v' w', Own f w' base e v' (l ++ [y]) → w.grownBy w' v.ownBlock → Below base w w' → K (a.put o.dst v') w') :
    if Region.wanted o (yielded ops a.tmps) = true then Oper.wp P o a w K Q else E := by
  have hw : Region.wanted o (yielded ops a.tmps) = true := by simp [Region.wanted, hg]
  rw [if_pos hw]
  obtain ⟨i, hi, hz0, hz1, hz2⟩ := ht.info
  refine wp_append_own w s x t hop base e i z 1 by8 ht.und hi hz0 hz1 hz2 hz (by omega) v l.length (l.map f) hs hown ad 1 1 [f y] hx rfl ?_ (by simpa using h1) (by unfold maxLen; omega) ?_ hbase ?_
  · intro j u hj
    cases j with
    | zero => simp at hj; subst hj; simpa [Addr.add] using hy
    | succ j => simp at hj
  · exact Nat.le_trans (Nat.mul_le_mul (by omega : l.length + 1 ≤ 17592186044416) h8) (by omega)
  · intro v' w' h2 h3 _
    exact hK v' w' (by unfold Own; simpa using h2) h3 ((Below.refl _ _).grown h3 hbase fun k hk => (World.ownsRow.lt hown k hk).1)

end Go.Dfl
namespace Go.Gra
/-- What cmp.Compare returns. -/
def cmpI (x y : Int) : Int := if x < y then -1 else if y < x then 1 else 0
end Go.Gra
