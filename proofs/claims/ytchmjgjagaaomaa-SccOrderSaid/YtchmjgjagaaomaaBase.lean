/- General lemmas, of no program: slices that read as lists, rows that the call owns, draws. -/
import Derived.WalkKit
import Derived.Lib.Hide
import Derived.WalkSpells
import Derived.Deep.QuietTactic
import Derived.BigQuiet
import Derived.WalkLawsBesides
import Derived.ChangeKeysEq
import Derived.StillTailTactics
namespace Go.Dfl
open Go.RowKit

/-- The element of a list at a place; not opened by simp. -/
def nth {α : Type} [Inhabited α] (l : List α) (i : Nat) : α := l.getD i default
def blk : Option Addr → Nat | some a => a.block | none => 0
def ofs : Option Addr → Nat | some a => a.off | none => 0

theorem ret_int {k : IntKind} {a b : Int} (h : a = b) : Ending.returned (.int k a) = .returned (.int k b) := by rw [h]
theorem ret_bool {a b : Bool} (h : a = b) : Ending.returned (.bool a) = .returned (.bool b) := by rw [h]

/-- min and max of Go, kept whole by the walk. -/
def mn (x y : Int) : Int := if y < x then y else x
def mx (x y : Int) : Int := if x < y then y else x
theorem run_mn (P : Program) (w : World) (ts : Array TypeId) (t : TypeId) (k k' : IntKind) (x y : Int) : (Builtin.min_ ts t #[.int k x, .int k' y]).run P w = .ok (.int k (mn x y)) w := by
  rw [run_min_int2]; rfl
theorem run_mx (P : Program) (w : World) (ts : Array TypeId) (t : TypeId) (k k' : IntKind) (x y : Int) : (Builtin.max_ ts t #[.int k x, .int k' y]).run P w = .ok (.int k (mx x y)) w := by
  rw [run_max_int2]; rfl
theorem mn_le (x y : Int) : mn x y ≤ x ∧ mn x y ≤ y ∧ (mn x y = x ∨ mn x y = y) := by unfold mn; split <;> omega
theorem mx_ge (x y : Int) : x ≤ mx x y ∧ y ≤ mx x y ∧ (mx x y = x ∨ mx x y = y) := by unfold mx; split <;> omega

/-- Some draws have been made, nothing else. -/
def Qt (w w' : World) : Prop := ∃ n, w' = w.drewN n
theorem Qt.refl (w : World) : Qt w w := ⟨0, rfl⟩
theorem Qt.drewN (w : World) (n : Nat) : Qt w (w.drewN n) := ⟨n, rfl⟩
theorem Qt.drew (w : World) : Qt w w.drew := ⟨1, rfl⟩
theorem Qt.trans {a b c : World} (h : Qt a b) (k : Qt b c) : Qt a c := by
  obtain ⟨n, rfl⟩ := h; obtain ⟨m, rfl⟩ := k; exact ⟨n + m, by simp⟩
theorem Qt.below {w w' : World} (h : Qt w w') (B : Nat) : Below B w w' := by
  obtain ⟨n, rfl⟩ := h; exact below_drewN (Below.refl _ _) n
theorem Qt.quiet {P : Program} {f : FuncId} {args : Array Value} {w : World} {n : Nat} {v : Value}
    (h : Calls P f args (w.drewN n) fun e w' => e = .returned v ∧ Qt (w.drewN n) w') : Calls P f args (w.drewN n) fun e w'' => e = .returned v ∧ ∃ m, w'' = w.drewN m :=
  Calls.quiet_of h

theorem Qt.quiet2 {P : Program} {f : FuncId} {args : Array Value} {w : World} {a n : Nat} {v : Value}
    (h : Calls P f args (w.drewN (a + n)) fun e w' => e = .returned v ∧ Qt (w.drewN (a + n)) w') : Calls P f args (w.drewN (a + n)) fun e w'' => e = .returned v ∧ ∃ m, w'' = w.drewN (a + m) :=
  h.mono fun _ _ ⟨he, m, hm⟩ => ⟨he, n + m, by rw [hm, World.drewN_drewN, Nat.add_assoc]⟩
theorem grownBy_drew {w w' : World} {row : Option Nat} (h : w.grownBy w' row) : w.grownBy w'.drew row := ⟨h.os, h.tape, h.output, h.size, h.block⟩
theorem grownBy_drewN {w w' : World} {row : Option Nat} (h : w.grownBy w' row) (n : Nat) : w.grownBy (w'.drewN n) row := ⟨h.os, h.tape, h.output, h.size, h.block⟩
theorem grownBy_of_drewN {w w' : World} {row : Option Nat} {n : Nat} (h : (w.drewN n).grownBy w' row) : w.grownBy w' row := ⟨h.os, h.tape, h.output, h.size, h.block⟩
theorem grownBy_trans {a b c : World} {row : Option Nat} (h : a.grownBy b row) (k : b.grownBy c row) : a.grownBy c row :=
  ⟨k.os.trans h.os, k.tape.trans h.tape, k.output.trans h.output, Nat.le_trans h.size k.size, fun i hi hr => (k.block i (Nat.lt_of_lt_of_le hi h.size) hr).trans (h.block i hi hr)⟩

/-- A world of a class. -/
structure Wd (Cls : World → Prop) where
  val : World
  ok : Cls val
/-- A region that draws its order, all of whose operations and calls keep a class of worlds and hand back values that the class settles: walked once, in the order of the text. -/
theorem wp_region_class {P : Program} {id : Nat} {Q : Exit → Act → World → Prop} {a : Act} {w : World} {l : List Oper} (Cls : World → Prop) (hm : P.follows .mixedOrders = true) (hB : Region.lexB .any l.toArray = true) (hC : Cls w.drew)
    (h : wpQuiet P l.toArray (fun W' => ∃ q : Wd Cls, W' = q.val) (fun a' => ∀ W', (∃ q : Wd Cls, W' = q.val) → Q .normal a' W') l a) : (Code.region id l.toArray true).wp P Q a w :=
  wp_region_quiet (C := fun W' => ∃ q : Wd Cls, W' = q.val) hm hB ⟨⟨_, hC⟩, rfl⟩ (by simpa using h)
theorem class_of {P : Program} {f : FuncId} {args : Array Value} {W : World} {v : Value} {Cls : World → Prop}
    (h : Calls P f args W fun e w' => e = .returned v ∧ Cls w') : Calls P f args W fun e w'' => e = .returned v ∧ ∃ q : Wd Cls, w'' = q.val :=
  h.mono fun _ _ ⟨he, hc⟩ => ⟨he, ⟨_, hc⟩, rfl⟩

/-- A region that draws its order: all but the last operations only read (walked first), the last ones come in one order. -/
theorem wp_region_tail {P : Program} {id : Nat} {Q : Exit → Act → World → Prop} {a : Act} {w : World} {l : List Oper} (n : Nat) (hm : P.follows .mixedOrders = true) (hB : Region.lexTailB .any l.toArray n = true)
    (h : ∀ w2, w2 = w.drew → wpStill P l.toArray w2 (fun a' => wpList P l.toArray Q (l.drop n) a' w2) (l.take n) a) : (Code.region id l.toArray true).wp P Q a w :=
  wp_region_still_tail n hm hB (h _ rfl)

theorem heap_alloc_new (w : World) (o : Obj) : (w.alloc o).heap[w.heap.size]? = some o := by
  show (w.heap.push o)[w.heap.size]? = _
  simp

/-- v is a slice of n elements of s cells each, the cells c i j. -/
def Sliced (w : World) (v : Value) (n s : Nat) (c : Nat → Nat → Value) : Prop :=
  ∃ a cap, v = .slice a n cap ∧ n ≤ cap ∧ cap ≤ maxLen ∧ ∀ i, i < n → a = some ⟨blk a, ofs a, none⟩ ∧ blk a < w.heap.size ∧ ∀ j, j < s → w.cell? ⟨blk a, ofs a + i * s + j, none⟩ = some (c i j)

theorem Sliced.below {w w' : World} {v : Value} {n s : Nat} {c : Nat → Nat → Value} (h : Sliced w v n s c) (hb : Below w.heap.size w w') : Sliced w' v n s c := by
  obtain ⟨a, cap, rfl, h1, h2, h3⟩ := h
  refine ⟨a, cap, rfl, h1, h2, fun i hi => ?_⟩
  obtain ⟨g1, g2, g3⟩ := h3 i hi
  exact ⟨g1, Nat.lt_of_lt_of_le g2 hb.size, fun j hj => by rw [hb.cell (p := ⟨blk a, ofs a + i * s + j, none⟩) g2]; exact g3 j hj⟩
theorem Sliced.qt {w w' : World} {v : Value} {n s : Nat} {c : Nat → Nat → Value} (h : Sliced w v n s c) (hb : Qt w w') : Sliced w' v n s c := h.below (hb.below _)

/-- What the type tables say of a slice type. -/
structure SliceOf (P : Program) (t e : TypeId) (z : Value) (size bytes : Nat) : Prop where
  und : P.underlying t = some (.slice e)
  info : ∃ i, P.info? e = some i ∧ i.zero = some z ∧ i.size = size ∧ i.bytes = bytes

theorem run_indexAt_opt {P : Program} {t e : TypeId} {z : Value} {s by8 : Nat} (ht : SliceOf P t e z s by8)
    (a : Option Addr) (n cap : Nat) (k : IntKind) (x : Int) (h0 : 0 ≤ x) (h1 : x < n) (ha : a = some ⟨blk a, ofs a, none⟩) (W : World) :
    (Instr.indexAt t (.slice a n cap) (.int k x)).run P W = .ok (.pointer (some ⟨blk a, ofs a + x.toNat * s, none⟩)) W := by
  obtain ⟨i, hi, _, hs, _⟩ := ht.info
  have he : P.elem t = e := by simp [Program.elem, ht.und]
  have hc : P.cellsOf e = s := by simp [Program.cellsOf, hi, hs]
  rw [ha, run_indexAt_slice _ _ _ _ _ _ _ (by rw [he]; exact ht.und), if_pos ⟨h0, h1⟩, he, run_sizeOf _ hi, hc]
  simp [Addr.add]
  split
  · rename_i h; simp [h, blk, ofs]
  · simp [blk, ofs]

/-- What a walk needs to know of a slice of one-cell elements. -/
theorem Sliced.out1 {w : World} {v : Value} {n : Nat} {c : Nat → Nat → Value} (h : Sliced w v n 1 c) {P : Program} {t e : TypeId} {z : Value} {by8 : Nat} (ht : SliceOf P t e z 1 by8) :
    ∃ a cap, v = .slice a n cap ∧ n ≤ 9223372036854775807 ∧
      (∀ (k : IntKind) (x : Int), 0 ≤ x → x < n → ∀ W, (Instr.indexAt t (.slice a n cap) (.int k x)).run P W = .ok (.pointer (some ⟨blk a, ofs a + x.toNat, none⟩)) W) ∧
      (∀ j, j < n → w.cell? ⟨blk a, ofs a + j, none⟩ = some (c j 0)) ∧ (∀ j, j < n → blk a < w.heap.size) := by
  obtain ⟨a, cap, rfl, h1, h2, h3⟩ := h
  refine ⟨a, cap, rfl, by unfold maxLen at h2; omega, ?_, ?_, fun j hj => (h3 j hj).2.1⟩
  · intro k x h0 hl W
    have := run_indexAt_opt ht a n cap k x h0 hl (h3 x.toNat (by omega)).1 W
    simpa using this
  · intro j hj
    simpa using (h3 j hj).2.2 0 (by omega)

/-- What a walk needs to know of a slice of two-cell elements. -/
theorem Sliced.out2 {w : World} {v : Value} {n : Nat} {c : Nat → Nat → Value} (h : Sliced w v n 2 c) {P : Program} {t e : TypeId} {z : Value} {by8 : Nat} (ht : SliceOf P t e z 2 by8) :
    ∃ a cap, v = .slice a n cap ∧ n ≤ 9223372036854775807 ∧
      (∀ (k : IntKind) (x : Int), 0 ≤ x → x < n → ∀ W, (Instr.indexAt t (.slice a n cap) (.int k x)).run P W = .ok (.pointer (some ⟨blk a, ofs a + x.toNat * 2, none⟩)) W) ∧
      (∀ j, j < n → w.cell? ⟨blk a, ofs a + j * 2, none⟩ = some (c j 0) ∧ w.cell? ⟨blk a, ofs a + j * 2 + 1, none⟩ = some (c j 1)) ∧ (∀ j, j < n → blk a < w.heap.size) := by
  obtain ⟨a, cap, rfl, h1, h2, h3⟩ := h
  refine ⟨a, cap, rfl, by unfold maxLen at h2; omega, ?_, ?_, fun j hj => (h3 j hj).2.1⟩
  · intro k x h0 hl W
    exact run_indexAt_opt ht a n cap k x h0 hl (h3 x.toNat (by omega)).1 W
  · intro j hj
    exact ⟨by simpa using (h3 j hj).2.2 0 (by omega), by simpa using (h3 j hj).2.2 1 (by omega)⟩

section lists
variable {α : Type} [Inhabited α]

theorem nth_eq (l : List α) (i : Nat) (h : i < l.length) : nth l i = l[i] := by simp [nth, h]
theorem nth_map (f : α → Value) (l : List α) (i : Nat) (h : i < l.length) : (l.map f)[i]? = some (f (nth l i)) := by simp [nth, h]
theorem nth_set (l : List α) (i j : Nat) (x : α) : nth (l.set i x) j = if i = j ∧ i < l.length then x else nth l j := by
  unfold nth
  simp only [List.getD_eq_getElem?_getD, List.getElem?_set]
  by_cases h : i = j
  · subst h
    by_cases h2 : i < l.length
    · simp [h2]
    · simp [h2]
  · simp [h]
theorem nth_append (l m : List α) (i : Nat) : nth (l ++ m) i = if i < l.length then nth l i else nth m (i - l.length) := by
  unfold nth
  simp only [List.getD_eq_getElem?_getD, List.getElem?_append]
  split <;> rfl
theorem nth_ext {l m : List α} (h : l.length = m.length) (h2 : ∀ i, i < l.length → nth l i = nth m i) : l = m := by
  apply List.ext_getElem h
  intro i hi hj
  have := h2 i hi
  rwa [nth_eq _ _ hi, nth_eq _ _ hj] at this
theorem nth_out (l : List α) (i : Nat) (h : l.length ≤ i) : nth l i = default := by
  simp [nth, h]
theorem nth_mem (l : List α) (i : Nat) (h : i < l.length) : nth l i ∈ l := by
  rw [nth_eq _ _ h]; exact List.getElem_mem h
theorem mem_nth {l : List α} {x : α} (h : x ∈ l) : ∃ i, i < l.length ∧ nth l i = x := by
  obtain ⟨i, hi, rfl⟩ := List.getElem_of_mem h
  exact ⟨i, hi, nth_eq _ _ hi⟩
theorem take_snoc (l : List α) (k : Nat) (h : k < l.length) : l.take (k + 1) = l.take k ++ [nth l k] := by
  rw [nth_eq _ _ h]; exact List.take_succ_eq_append_getElem h

end lists

section rows
variable {α : Type}

/-- A slice that reads as a list; one cell an element. -/
def Lst [Inhabited α] (f : α → Value) (w : World) (v : Value) (l : List α) : Prop := Sliced w v l.length 1 fun i _ => f (nth l i)

/-- A row of the call's own, from block 'base' on. -/
def Own (f : α → Value) (w : World) (base : Nat) (e : TypeId) (v : Value) (l : List α) : Prop := w.ownsRow base e 1 v l.length (l.map f)

variable {f : α → Value} {w w' : World} {base : Nat} {e : TypeId} {v : Value} {l : List α} {a : Option Addr} {n cap : Nat}

theorem Lst.below [Inhabited α] (h : Lst f w v l) (hb : Below w.heap.size w w') : Lst f w' v l := Sliced.below h hb
theorem Lst.qt [Inhabited α] (h : Lst f w v l) (hb : Qt w w') : Lst f w' v l := Sliced.below h (hb.below _)
theorem Lst.nil [Inhabited α] (f : α → Value) (w : World) : Lst f w (.slice none 0 0) [] := ⟨none, 0, rfl, by simp, by unfold maxLen; omega, fun i hi => by simp at hi⟩

theorem Own.lst [Inhabited α] (h : Own f w base e v l) : Lst f w v l := by
  obtain ⟨h1, ⟨rfl, h2⟩ | ⟨g, cap, cur, rfl, hg, hh, hc, hm, hs, ht⟩⟩ := h
  · exact ⟨none, 0, by rw [h2], by omega, by unfold maxLen; omega, fun i hi => by omega⟩
  · refine ⟨some ⟨g, 0, none⟩, cap, rfl, hc, hm, fun i hi => ⟨rfl, ?_, fun j hj => ?_⟩⟩
    · exact (Array.getElem?_eq_some_iff.1 hh).1
    · have hj0 : j = 0 := by omega
      subst hj0
      have hx : cur.toList[i]? = some (f (nth l i)) := by
        rw [← nth_map f l i hi, ← ht, List.getElem?_take, if_pos (by omega)]
      simp [World.cell?, blk, ofs, hh]
      simpa using hx

theorem Own.frozen (h : Own f w base e (.slice a n cap) l) (h0 : 0 < l.length) (i : Nat) : w.frozen? ⟨blk a, i, none⟩ = false := by
  obtain ⟨h1, ⟨h2, h3⟩ | ⟨g, cap, cur, hv, hg, hh, hc, hm, hs, ht⟩⟩ := h
  · omega
  · simp at hv
    obtain ⟨rfl, rfl, rfl⟩ := hv
    simp [World.frozen?, blk, hh]

theorem Own.set (h : Own f w base e (.slice a n cap) l) (i : Nat) (x : α) :
    Own f (w.setCell ⟨blk a, ofs a + i, none⟩ (f x)) base e (.slice a n cap) (l.set i x) := by
  obtain ⟨h1, ⟨h2, h3⟩ | ⟨g, cap, cur, hv, hg, hh, hc, hm, hs, ht⟩⟩ := h
  · simp at h2
    obtain ⟨rfl, rfl, rfl⟩ := h2
    exact ⟨by simp, .inl ⟨rfl, by simpa using h3⟩⟩
  · simp at hv
    obtain ⟨rfl, rfl, rfl⟩ := hv
    refine ⟨by simp, .inr ⟨g, _, cur.setIfInBounds i (f x), by simp, hg, ?_, by simpa using hc, hm, by simpa using hs, ?_⟩⟩
    · simp [World.setCell, blk, ofs, Array.getElem?_modify, hh]
    · simp only [Array.toList_setIfInBounds, List.map_set, List.length_set, ← ht, List.take_set]

theorem Own.below (h : Own f w base e v l) (hb : Below w.heap.size w w') : Own f w' base e v l :=
  World.ownsRow.kept h (row := none) ⟨hb.os, hb.tape, hb.output, hb.size, fun k hk _ => hb.block k hk⟩ (by cases v.ownBlock <;> simp)

theorem Own.setOther (h : Own f w base e v l) {p : Addr} (hp : v.ownBlock ≠ some p.block) (u : Value) : Own f (w.setCell p u) base e v l :=
  ownsRow_setCell_other h hp u

theorem Own.grown {row : Option Nat} (h : Own f w base e v l) (hg : w.grownBy w' row) (hne : v.ownBlock = none ∨ v.ownBlock ≠ row) : Own f w' base e v l :=
  World.ownsRow.kept h hg hne

theorem Own.alloc (h : Own f w base e v l) (o : Obj) : Own f (w.alloc o) base e v l := World.ownsRow.alloc h o

theorem Own.qt (h : Own f w base e v l) (hb : Qt w w') : Own f w' base e v l := h.below (hb.below _)

theorem Own.nil (f : α → Value) (w : World) (base : Nat) (e : TypeId) : Own f w base e (.slice none 0 0) [] := ⟨by simp, .inl ⟨rfl, rfl⟩⟩

theorem Own.mono (h : Own f w base e v l) {base' : Nat} (hb : base' ≤ base) : Own f w base' e v l := by
  obtain ⟨h1, h2 | ⟨g, cap, cur, hv, hg, r⟩⟩ := h
  · exact ⟨h1, .inl h2⟩
  · exact ⟨h1, .inr ⟨g, cap, cur, hv, Nat.le_trans hb hg, r⟩⟩

theorem Own.blkge (h : Own f w base e (.slice a n cap) l) (h0 : 0 < l.length) : base ≤ blk a ∧ blk a < w.heap.size := by
  obtain ⟨h1, ⟨h2, h3⟩ | ⟨g, cap, cur, hv, hg, hh, hc, hm, hs, ht⟩⟩ := h
  · omega
  · simp at hv
    obtain ⟨rfl, rfl, rfl⟩ := hv
    exact ⟨hg, (Array.getElem?_eq_some_iff.1 hh).1⟩

theorem Own.shape (h : Own f w base e v l) (hn : l.length = n) : ∃ s cap, v = .slice s n cap := by
  subst hn
  obtain ⟨h1, ⟨h2, h3⟩ | ⟨g, cap, cur, hv, r⟩⟩ := h
  · exact ⟨none, 0, by rw [h2, h3]⟩
  · exact ⟨_, cap, hv⟩
theorem Own.lt (h : Own f w base e v l) : ∀ k, v.ownBlock = some k → base ≤ k ∧ k < w.heap.size := World.ownsRow.lt h
theorem Own.ofs0 (h : Own f w base e (.slice a n cap) l) : ofs a = 0 := by
  obtain ⟨h1, ⟨h2, h3⟩ | ⟨g, cap, cur, hv, hg, hh, hc, hm, hs, ht⟩⟩ := h
  · simp at h2; simp [h2.1, ofs]
  · simp at hv; simp [hv.1, ofs]

theorem made_cells (z : Value) (n : Nat) (h : z.cells = #[z]) : (madeCells z.cells (n * 1)).toList = List.replicate n z := by
  apply List.ext_getElem
  · simp [madeCells]
  · intro i h1 h2
    simp [madeCells, h, Nat.mod_one]

/-- 'make([]T, n)'. -/
theorem wp_make {P : Program} {t e : TypeId} {by8 : Nat} (x0 : α) (ht : SliceOf P t e (f x0) 1 by8) (hz : (f x0).cells = #[f x0]) (w : World) {ops : Array Oper} {rest : List Oper} {o : Oper} {a : Act} {Q : Exit → Act → World → Prop}
    (hg : o.guard = none) (l c : Operand) (hop : o.op = Op.makeSlice t l c) (kl kc : IntKind) (L C : Int) (n : Nat) (hl : a.eval l = .int kl L) (hc : a.eval c = .int kc C) (hL : L = (n : Int)) (hC : C = (n : Int))
    (hb : by8 * n ≤ 281474976710656) (hm : n ≤ maxLen)
    (hK : ∀ s cap w', Own f w' w.heap.size e (.slice s n cap) (List.replicate n x0) → Below w.heap.size w w' → wpList P ops Q rest (a.put o.dst (.slice s n cap)) w') :
    wpList P ops Q (o :: rest) a w := by
  obtain ⟨i, hi, hz0, hz1, hz2⟩ := ht.info
  refine wpList_make_full w hg l c t hop w.heap.size e i (f x0) 1 ht.und hi hz0 hz1 kl kc L C n hl hc hL hC (by rw [hz2]; exact hb) hm (Nat.le_refl _) ?_
  intro w' h1 h2
  refine hK _ _ w' ?_ ((Below.refl _ _).grown h2 (Nat.le_refl _) (by simp))
  rw [made_cells _ _ hz] at h1
  unfold Own
  simpa using h1

/-- 'append(s, x)'. -/
theorem wp_append1 {P : Program} {t e : TypeId} {z : Value} {by8 : Nat} (ht : SliceOf P t e z 1 by8) (hz : z.cells.size = 1) (w : World) {ops : Array Oper} {rest : List Oper} {o : Oper} {a : Act} {Q : Exit → Act → World → Prop}
    (hg : o.guard = none) (s x : Operand) (hop : o.op = .call { callee := .builtin .append, args := #[s, x], argTypes := #[t, t] })
    (base : Nat) (v : Value) (l : List α) (hs : a.eval s = v) (hown : Own f w base e v l) (y : α) (ad : Addr) (hx : a.eval x = .slice (some ad) 1 1) (hy : w.cell? ad = some (f y)) (h1 : (f y).oneCell' = true)
    (hlen : l.length < 17592186044416) (h8 : by8 ≤ 8) (hbase : base ≤ w.heap.size)
    (hK : ∀ v' w', Own f w' base e v' (l ++ [y]) → w.grownBy w' v.ownBlock → Below base w w' → wpList P ops Q rest (a.put o.dst v') w') : wpList P ops Q (o :: rest) a w := by
  obtain ⟨i, hi, hz0, hz1, hz2⟩ := ht.info
  refine wpList_append_own w hg s x t hop base e i z 1 by8 ht.und hi hz0 hz1 hz2 hz (by omega) v l.length (l.map f) hs hown ad 1 1 [f y] hx rfl ?_ (by simpa using h1) (by unfold maxLen; omega) ?_ hbase ?_
  · intro j u hj
    cases j with
    | zero => simp at hj; subst hj; simpa [Addr.add] using hy
    | succ j => simp at hj
  · exact Nat.le_trans (Nat.mul_le_mul (by omega : l.length + 1 ≤ 17592186044416) h8) (by omega)
  · intro v' w' h2 h3 _
    exact hK v' w' (by unfold Own; simpa using h2) h3 ((Below.refl _ _).grown h3 hbase fun k hk => (World.ownsRow.lt hown k hk).1)

end rows

/-- A slice of pairs of ints: two cells an element. -/
def Pairs (w : World) (v : Value) (l : List (Int × Int)) : Prop := Sliced w v l.length 2 fun i j => .int .i64 (if j = 0 then (nth l i).1 else (nth l i).2)
theorem Pairs.below {w w' : World} {v : Value} {l : List (Int × Int)} (h : Pairs w v l) (hb : Below w.heap.size w w') : Pairs w' v l := Sliced.below h hb
theorem Pairs.qt {w w' : World} {v : Value} {l : List (Int × Int)} (h : Pairs w v l) (hb : Qt w w') : Pairs w' v l := Sliced.below h (hb.below _)

abbrev Ints := Lst (Value.int .i64)
abbrev OwnI := Own (Value.int .i64)

end Go.Dfl
