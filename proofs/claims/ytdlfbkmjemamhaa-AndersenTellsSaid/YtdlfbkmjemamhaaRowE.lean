/- General lemmas, of no program: rows of the call's own whose elements take several cells. -/
import Derived.Test.YtdlfbkmjemamhaaRow
namespace Go.Dfl
open Go.RowKit

/-- How an element lies in memory. -/
structure El (α : Type) where
  sz : Nat
  c : α → List Value
  len : ∀ x, (c x).length = sz
  one : ∀ x, ∀ v ∈ c x, v.oneCell' = true
  pos : 0 < sz

section
variable {α : Type} (E : El α)

theorem flat_len : ∀ (l : List α), (l.flatMap E.c).length = l.length * E.sz
  | [] => by simp
  | x :: l => by
    have := flat_len l
    rw [List.flatMap_cons, List.length_append, E.len, this, List.length_cons, Nat.succ_mul]; omega
theorem flat_get [Inhabited α] : ∀ (l : List α) (i j : Nat), i < l.length → j < E.sz → (l.flatMap E.c)[i * E.sz + j]? = (E.c (nth l i))[j]?
  | [], i, j, h, _ => by simp at h
  | x :: l, 0, j, _, hj => by
    rw [List.flatMap_cons, Nat.zero_mul, Nat.zero_add, List.getElem?_append_left (by rw [E.len]; exact hj)]; rfl
  | x :: l, i + 1, j, h, hj => by
    have := flat_get l i j (by simpa using h) hj
    rw [List.flatMap_cons, List.getElem?_append_right (by rw [E.len, Nat.succ_mul]; omega), E.len]
    rw [show (i + 1) * E.sz + j - E.sz = i * E.sz + j by rw [Nat.succ_mul]; omega, this]
    rfl

/-- A row of the call's own. -/
def OwnE (w : World) (base : Nat) (e : TypeId) (v : Value) (l : List α) : Prop := w.ownsRow base e E.sz v l.length (l.flatMap E.c)
variable {E}
variable {w w' : World} {base : Nat} {e : TypeId} {v : Value} {l : List α}

theorem OwnE.nil (E : El α) (w : World) (base : Nat) (e : TypeId) : OwnE E w base e (.slice none 0 0) [] := ⟨by simp, .inl ⟨rfl, rfl⟩⟩
theorem OwnE.grown {row : Option Nat} (h : OwnE E w base e v l) (hg : w.grownBy w' row) (hne : v.ownBlock = none ∨ v.ownBlock ≠ row) : OwnE E w' base e v l := World.ownsRow.kept h hg hne
theorem OwnE.lt (h : OwnE E w base e v l) : ∀ k, v.ownBlock = some k → base ≤ k ∧ k < w.heap.size := World.ownsRow.lt h
theorem OwnE.shape (h : OwnE E w base e v l) {n : Nat} (hn : l.length = n) : ∃ s cap, v = .slice s n cap := by
  subst hn
  obtain ⟨h1, ⟨h2, h3⟩ | ⟨g, cap, cur, hv, r⟩⟩ := h
  · exact ⟨none, 0, by rw [h2, h3]⟩
  · exact ⟨_, cap, hv⟩
theorem Kind.ownE (E : El α) (e : TypeId) : Kind (fun w base v (l : List α) => OwnE E w base e v l) :=
  ⟨fun h hg hne => OwnE.grown h hg hne, fun h => OwnE.lt h⟩

/-- It can be read. -/
theorem OwnE.sliced [Inhabited α] (h : OwnE E w base e v l) : Sliced w v l.length E.sz fun i j => ((E.c (nth l i))[j]?).getD undef := by
  obtain ⟨h1, ⟨rfl, h2⟩ | ⟨g, cap, cur, rfl, hg, hh, hc, hm, hs, ht⟩⟩ := h
  · exact ⟨none, 0, by rw [h2], by omega, by unfold maxLen; omega, fun i hi => by omega⟩
  · refine ⟨some ⟨g, 0, none⟩, cap, rfl, hc, hm, fun i hi => ⟨rfl, ?_, fun j hj => ?_⟩⟩
    · exact (Array.getElem?_eq_some_iff.1 hh).1
    · have hlt : i * E.sz + j < l.length * E.sz := by
        have := Nat.mul_le_mul_right E.sz (Nat.succ_le_of_lt hi)
        rw [Nat.succ_mul] at this; omega
      have hx : cur.toList[i * E.sz + j]? = (E.c (nth l i))[j]? := by
        rw [← flat_get E l i j hi hj, ← ht, List.getElem?_take, if_pos hlt]
      have hj2 : j < (E.c (nth l i)).length := by rw [E.len]; exact hj
      rw [List.getElem?_eq_getElem hj2] at hx
      show w.cell? _ = some (((E.c (nth l i))[j]?).getD undef)
      rw [List.getElem?_eq_getElem hj2]
      simp [World.cell?, blk, ofs, hh]
      simpa using hx

/-- 'append(s, x)' for one element that lies in a block of its own. -/
theorem run_appendE {P : Program} {t : TypeId} {z : Value} {by8 : Nat} (ht : SliceOf P t e z E.sz by8) (hz : z.cells.size = E.sz) (hown : OwnE E w base e v l) (x : α) (B : Nat) (hB : ∀ j y, (E.c x)[j]? = some y → w.cell? ⟨B, j, none⟩ = some y)
    (hlen : (l.length + 1) * by8 ≤ 140737488355328) (hmax : l.length + 1 ≤ 1000000000000) (hbase : base ≤ w.heap.size) (ty : TypeId) :
    ∃ v' w', (Builtin.append_ #[t, t] ty #[v, .slice (some ⟨B, 0, none⟩) 1 1]).run P w = .ok v' w' ∧ OwnE E w' base e v' (l ++ [x]) ∧ w.grownBy w' v.ownBlock ∧ (v'.ownBlock = v.ownBlock ∨ v'.ownBlock = some w.heap.size) := by
  obtain ⟨i, hi, hz0, hz1, hz2⟩ := ht.info
  obtain ⟨v', w', hr, h2, h3, -, h5⟩ := run_append_own_at (P := P) w base t ty e i z E.sz by8 ht.und hi hz0 hz1 hz2 hz E.pos v l.length (l.flatMap E.c) hown ⟨B, 0, none⟩ 1 1 (E.c x) (by rw [E.len, Nat.one_mul]) (fun j y hj => by rw [add0]; exact hB j y hj) (E.one x) (by unfold maxLen; omega) hlen hbase
  exact ⟨v', w', hr, by unfold OwnE; simpa using h2, h3, h5⟩

theorem wp_appendE {P : Program} {t : TypeId} {z : Value} {by8 : Nat} (ht : SliceOf P t e z E.sz by8) (hz : z.cells.size = E.sz) {ops : Array Oper} {rest : List Oper} {o : Oper} {a : Act} {Q : Exit → Act → World → Prop}
    (hg : o.guard = none) (s u : Operand) (hop : o.op = .call { callee := .builtin .append, args := #[s, u], argTypes := #[t, t] })
    (hs : a.eval s = v) (B : Nat) (hu : a.eval u = .slice (some ⟨B, 0, none⟩) 1 1) (hown : OwnE E w base e v l) (x : α) (hB : ∀ j y, (E.c x)[j]? = some y → w.cell? ⟨B, j, none⟩ = some y)
    (hlen : (l.length + 1) * by8 ≤ 140737488355328) (hmax : l.length + 1 ≤ 1000000000000) (hbase : base ≤ w.heap.size)
    (hK : ∀ v' w', OwnE E w' base e v' (l ++ [x]) → w.grownBy w' v.ownBlock → (v'.ownBlock = v.ownBlock ∨ v'.ownBlock = some w.heap.size) → wpList P ops Q rest (a.put o.dst v') w') : wpList P ops Q (o :: rest) a w := by
  refine wpList_plain hg fun K hK' => ?_
  obtain ⟨v', w', hr, h2, h3, h4⟩ := run_appendE ht hz hown x B hB hlen hmax hbase o.type
  unfold Oper.wp execOp
  simp only [hop, resolve, invoke, builtin, Sem.run_bind, Sem.run_pure, Result.andThen_ok, List.map_toArray, List.map_cons, List.map_nil, hs, hu, hr]
  exact hK' _ _ (hK v' w' h2 h3 h4)

end

/-- Cells of a block that is known whole. -/
theorem cells_new {W : World} {cs : List Value} {t : TypeId} {B : Nat} (h : B = W.heap.size) : ∀ j y, cs[j]? = some y → (W.alloc (.cells cs.toArray t)).cell? ⟨B, j, none⟩ = some y := by
  intro j y hj
  subst h
  unfold World.cell?
  rw [heap_alloc_new]
  simpa using hj

/-- A slice of elements of several cells: what a walk needs of it. -/
theorem Sliced.outN {w : World} {v : Value} {n s : Nat} {c : Nat → Nat → Value} (h : Sliced w v n s c) {P : Program} {t e : TypeId} {z : Value} {by8 : Nat} (ht : SliceOf P t e z s by8) (_hs : 0 < s) :
    ∃ a cap, v = .slice a n cap ∧ n ≤ 9223372036854775807 ∧
      (∀ (k : IntKind) (x : Int), 0 ≤ x → x < n → ∀ W, (Instr.indexAt t (.slice a n cap) (.int k x)).run P W = .ok (.pointer (some ⟨blk a, ofs a + x.toNat * s, none⟩)) W) ∧
      (∀ i, i < n → ∀ j, j < s → w.cell? ⟨blk a, ofs a + i * s + j, none⟩ = some (c i j)) ∧ (∀ j, j < n → blk a < w.heap.size) := by
  obtain ⟨a, cap, rfl, h1, h2, h3⟩ := h
  refine ⟨a, cap, rfl, by unfold maxLen at h2; omega, ?_, fun i hi j hj => (h3 i hi).2.2 j hj, fun j hj => (h3 j hj).2.1⟩
  intro k x h0 hl W
  exact run_indexAt_opt ht a n cap k x h0 hl (h3 x.toNat (by omega)).1 W

end Go.Dfl
