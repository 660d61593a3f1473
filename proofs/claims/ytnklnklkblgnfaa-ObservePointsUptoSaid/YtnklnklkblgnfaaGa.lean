/- General lemmas, of no program: slices that read as lists, rows that the call owns, draws. -/
import Derived.WalkKit
import Derived.Lib.Hide
import Derived.WalkSpells
import Derived.Deep.QuietTactic
import Derived.BigQuiet
import Derived.WalkLawsBesides
import Derived.ChangeKeysEq
import Derived.StillTailTactics
import Derived.Deep.AppendLies
import Derived.Deep.RegionHeld3
import Derived.StillTail
import Derived.OrdersHeld
import Derived.Maps.OwnSet
import Derived.DeepKeys4
namespace Go.Dfl
open Go.RowKit

/-- The element of a list at a place; not opened by simp. -/
def nth {α : Type} [Inhabited α] (l : List α) (i : Nat) : α := l.getD i default
def blk : Option Addr → Nat | some a => a.block | none => 0
def ofs : Option Addr → Nat | some a => a.off | none => 0

theorem ret_int {k : IntKind} {a b : Int} (h : a = b) : Ending.returned (.int k a) = .returned (.int k b) := by rw [h]
theorem ret_bool {a b : Bool} (h : a = b) : Ending.returned (.bool a) = .returned (.bool b) := by rw [h]

/-- min and max of Go, kept whole by the walk. -/
def mn (x y : Int) : Int := if y < x then y else x
def mx (x y : Int) : Int := if x < y then y else x
theorem run_mn (P : Program) (w : World) (ts : Array TypeId) (t : TypeId) (k k' : IntKind) (x y : Int) : (Builtin.min_ ts t #[.int k x, .int k' y]).run P w = .ok (.int k (mn x y)) w := by
  rw [run_min_int2]; rfl
theorem run_mx (P : Program) (w : World) (ts : Array TypeId) (t : TypeId) (k k' : IntKind) (x y : Int) : (Builtin.max_ ts t #[.int k x, .int k' y]).run P w = .ok (.int k (mx x y)) w := by
  rw [run_max_int2]; rfl
theorem mn_le (x y : Int) : mn x y ≤ x ∧ mn x y ≤ y ∧ (mn x y = x ∨ mn x y = y) := by unfold mn; split <;> omega
theorem mx_ge (x y : Int) : x ≤ mx x y ∧ y ≤ mx x y ∧ (mx x y = x ∨ mx x y = y) := by unfold mx; split <;> omega

/-- Some draws have been made, nothing else. -/
def Qt (w w' : World) : Prop := ∃ n, w' = w.drewN n
theorem Qt.refl (w : World) : Qt w w := ⟨0, rfl⟩
theorem Qt.drewN (w : World) (n : Nat) : Qt w (w.drewN n) := ⟨n, rfl⟩
theorem Qt.drew (w : World) : Qt w w.drew := ⟨1, rfl⟩
theorem Qt.trans {a b c : World} (h : Qt a b) (k : Qt b c) : Qt a c := by
  obtain ⟨n, rfl⟩ := h; obtain ⟨m, rfl⟩ := k; exact ⟨n + m, by simp⟩
theorem Qt.below {w w' : World} (h : Qt w w') (B : Nat) : Below B w w' := by
  obtain ⟨n, rfl⟩ := h; exact below_drewN (Below.refl _ _) n
theorem Qt.quiet {P : Program} {f : FuncId} {args : Array Value} {w : World} {n : Nat} {v : Value}
    (h : Calls P f args (w.drewN n) fun e w' => e = .returned v ∧ Qt (w.drewN n) w') : Calls P f args (w.drewN n) fun e w'' => e = .returned v ∧ ∃ m, w'' = w.drewN m :=
  Calls.quiet_of h

theorem Qt.quiet2 {P : Program} {f : FuncId} {args : Array Value} {w : World} {a n : Nat} {v : Value}
    (h : Calls P f args (w.drewN (a + n)) fun e w' => e = .returned v ∧ Qt (w.drewN (a + n)) w') : Calls P f args (w.drewN (a + n)) fun e w'' => e = .returned v ∧ ∃ m, w'' = w.drewN (a + m) :=
  h.mono fun _ _ ⟨he, m, hm⟩ => ⟨he, n + m, by rw [hm, World.drewN_drewN, Nat.add_assoc]⟩
theorem grownBy_drew {w w' : World} {row : Option Nat} (h : w.grownBy w' row) : w.grownBy w'.drew row := ⟨h.os, h.tape, h.output, h.size, h.block⟩
theorem grownBy_drewN {w w' : World} {row : Option Nat} (h : w.grownBy w' row) (n : Nat) : w.grownBy (w'.drewN n) row := ⟨h.os, h.tape, h.output, h.size, h.block⟩
theorem grownBy_of_drewN {w w' : World} {row : Option Nat} {n : Nat} (h : (w.drewN n).grownBy w' row) : w.grownBy w' row := ⟨h.os, h.tape, h.output, h.size, h.block⟩
theorem grownBy_trans {a b c : World} {row : Option Nat} (h : a.grownBy b row) (k : b.grownBy c row) : a.grownBy c row :=
  ⟨k.os.trans h.os, k.tape.trans h.tape, k.output.trans h.output, Nat.le_trans h.size k.size, fun i hi hr => (k.block i (Nat.lt_of_lt_of_le hi h.size) hr).trans (h.block i hi hr)⟩

/-- A world of a class. -/
structure Wd (Cls : World → Prop) where
  val : World
  ok : Cls val
/-- A region that draws its order, all of whose operations and calls keep a class of worlds and hand back values that the class settles: walked once, in the order of the text. -/
theorem wp_region_class {P : Program} {id : Nat} {Q : Exit → Act → World → Prop} {a : Act} {w : World} {l : List Oper} (Cls : World → Prop) (hm : P.follows .mixedOrders = true) (hB : Region.lexB .any l.toArray = true) (hC : Cls w.drew)
    (h : wpQuiet P l.toArray (fun W' => ∃ q : Wd Cls, W' = q.val) (fun a' => ∀ W', (∃ q : Wd Cls, W' = q.val) → Q .normal a' W') l a) : (Code.region id l.toArray true).wp P Q a w :=
  wp_region_quiet (C := fun W' => ∃ q : Wd Cls, W' = q.val) hm hB ⟨⟨_, hC⟩, rfl⟩ (by simpa using h)
theorem class_of {P : Program} {f : FuncId} {args : Array Value} {W : World} {v : Value} {Cls : World → Prop}
    (h : Calls P f args W fun e w' => e = .returned v ∧ Cls w') : Calls P f args W fun e w'' => e = .returned v ∧ ∃ q : Wd Cls, w'' = q.val :=
  h.mono fun _ _ ⟨he, hc⟩ => ⟨he, ⟨_, hc⟩, rfl⟩

/-- A region that draws its order: all but the last operations only read (walked first), the last ones come in one order. -/
theorem wp_region_tail {P : Program} {id : Nat} {Q : Exit → Act → World → Prop} {a : Act} {w : World} {l : List Oper} (n : Nat) (hm : P.follows .mixedOrders = true) (hB : Region.lexTailB .any l.toArray n = true)
    (h : ∀ w2, w2 = w.drew → wpStill P l.toArray w2 (fun a' => wpList P l.toArray Q (l.drop n) a' w2) (l.take n) a) : (Code.region id l.toArray true).wp P Q a w :=
  wp_region_still_tail n hm hB (h _ rfl)

theorem heap_alloc_new (w : World) (o : Obj) : (w.alloc o).heap[w.heap.size]? = some o := by
  show (w.heap.push o)[w.heap.size]? = _
  simp

/-- v is a slice of n elements of s cells each, the cells c i j. -/
def Sliced (w : World) (v : Value) (n s : Nat) (c : Nat → Nat → Value) : Prop :=
  ∃ a cap, v = .slice a n cap ∧ n ≤ cap ∧ cap ≤ maxLen ∧ ∀ i, i < n → a = some ⟨blk a, ofs a, none⟩ ∧ blk a < w.heap.size ∧ ∀ j, j < s → w.cell? ⟨blk a, ofs a + i * s + j, none⟩ = some (c i j)

theorem Sliced.below {w w' : World} {v : Value} {n s : Nat} {c : Nat → Nat → Value} (h : Sliced w v n s c) (hb : Below w.heap.size w w') : Sliced w' v n s c := by
  obtain ⟨a, cap, rfl, h1, h2, h3⟩ := h
  refine ⟨a, cap, rfl, h1, h2, fun i hi => ?_⟩
  obtain ⟨g1, g2, g3⟩ := h3 i hi
  exact ⟨g1, Nat.lt_of_lt_of_le g2 hb.size, fun j hj => by rw [hb.cell (p := ⟨blk a, ofs a + i * s + j, none⟩) g2]; exact g3 j hj⟩
theorem Sliced.qt {w w' : World} {v : Value} {n s : Nat} {c : Nat → Nat → Value} (h : Sliced w v n s c) (hb : Qt w w') : Sliced w' v n s c := h.below (hb.below _)

/-- What the type tables say of a slice type. -/
structure SliceOf (P : Program) (t e : TypeId) (z : Value) (size bytes : Nat) : Prop where
  und : P.underlying t = some (.slice e)
  info : ∃ i, P.info? e = some i ∧ i.zero = some z ∧ i.size = size ∧ i.bytes = bytes

theorem run_indexAt_opt {P : Program} {t e : TypeId} {z : Value} {s by8 : Nat} (ht : SliceOf P t e z s by8)
    (a : Option Addr) (n cap : Nat) (k : IntKind) (x : Int) (h0 : 0 ≤ x) (h1 : x < n) (ha : a = some ⟨blk a, ofs a, none⟩) (W : World) :
    (Instr.indexAt t (.slice a n cap) (.int k x)).run P W = .ok (.pointer (some ⟨blk a, ofs a + x.toNat * s, none⟩)) W := by
  obtain ⟨i, hi, _, hs, _⟩ := ht.info
  have he : P.elem t = e := by simp [Program.elem, ht.und]
  have hc : P.cellsOf e = s := by simp [Program.cellsOf, hi, hs]
  rw [ha, run_indexAt_slice _ _ _ _ _ _ _ (by rw [he]; exact ht.und), if_pos ⟨h0, h1⟩, he, run_sizeOf _ hi, hc]
  simp [Addr.add]
  split
  · rename_i h; simp [h, blk, ofs]
  · simp [blk, ofs]

/-- What a walk needs to know of a slice of one-cell elements. -/
theorem Sliced.out1 {w : World} {v : Value} {n : Nat} {c : Nat → Nat → Value} (h : Sliced w v n 1 c) {P : Program} {t e : TypeId} {z : Value} {by8 : Nat} (ht : SliceOf P t e z 1 by8) :
    ∃ a cap, v = .slice a n cap ∧ n ≤ 9223372036854775807 ∧
      (∀ (k : IntKind) (x : Int), 0 ≤ x → x < n → ∀ W, (Instr.indexAt t (.slice a n cap) (.int k x)).run P W = .ok (.pointer (some ⟨blk a, ofs a + x.toNat, none⟩)) W) ∧
      (∀ j, j < n → w.cell? ⟨blk a, ofs a + j, none⟩ = some (c j 0)) ∧ (∀ j, j < n → blk a < w.heap.size) := by
  obtain ⟨a, cap, rfl, h1, h2, h3⟩ := h
  refine ⟨a, cap, rfl, by unfold maxLen at h2; omega, ?_, ?_, fun j hj => (h3 j hj).2.1⟩
  · intro k x h0 hl W
    have := run_indexAt_opt ht a n cap k x h0 hl (h3 x.toNat (by omega)).1 W
    simpa using this
  · intro j hj
    simpa using (h3 j hj).2.2 0 (by omega)

/-- What a walk needs to know of a slice of two-cell elements. -/
theorem Sliced.out2 {w : World} {v : Value} {n : Nat} {c : Nat → Nat → Value} (h : Sliced w v n 2 c) {P : Program} {t e : TypeId} {z : Value} {by8 : Nat} (ht : SliceOf P t e z 2 by8) :
    ∃ a cap, v = .slice a n cap ∧ n ≤ 9223372036854775807 ∧
      (∀ (k : IntKind) (x : Int), 0 ≤ x → x < n → ∀ W, (Instr.indexAt t (.slice a n cap) (.int k x)).run P W = .ok (.pointer (some ⟨blk a, ofs a + x.toNat * 2, none⟩)) W) ∧
      (∀ j, j < n → w.cell? ⟨blk a, ofs a + j * 2, none⟩ = some (c j 0) ∧ w.cell? ⟨blk a, ofs a + j * 2 + 1, none⟩ = some (c j 1)) ∧ (∀ j, j < n → blk a < w.heap.size) := by
  obtain ⟨a, cap, rfl, h1, h2, h3⟩ := h
  refine ⟨a, cap, rfl, by unfold maxLen at h2; omega, ?_, ?_, fun j hj => (h3 j hj).2.1⟩
  · intro k x h0 hl W
    exact run_indexAt_opt ht a n cap k x h0 hl (h3 x.toNat (by omega)).1 W
  · intro j hj
    exact ⟨by simpa using (h3 j hj).2.2 0 (by omega), by simpa using (h3 j hj).2.2 1 (by omega)⟩

section lists
variable {α : Type} [Inhabited α]

theorem nth_eq (l : List α) (i : Nat) (h : i < l.length) : nth l i = l[i] := by simp [nth, h]
theorem nth_map (f : α → Value) (l : List α) (i : Nat) (h : i < l.length) : (l.map f)[i]? = some (f (nth l i)) := by simp [nth, h]
theorem nth_set (l : List α) (i j : Nat) (x : α) : nth (l.set i x) j = if i = j ∧ i < l.length then x else nth l j := by
  unfold nth
  simp only [List.getD_eq_getElem?_getD, List.getElem?_set]
  by_cases h : i = j
  · subst h
    by_cases h2 : i < l.length
    · simp [h2]
    · simp [h2]
  · simp [h]
theorem nth_append (l m : List α) (i : Nat) : nth (l ++ m) i = if i < l.length then nth l i else nth m (i - l.length) := by
  unfold nth
  simp only [List.getD_eq_getElem?_getD, List.getElem?_append]
  split <;> rfl
theorem nth_ext {l m : List α} (h : l.length = m.length) (h2 : ∀ i, i < l.length → nth l i = nth m i) : l = m := by
  apply List.ext_getElem h
  intro i hi hj
  have := h2 i hi
  rwa [nth_eq _ _ hi, nth_eq _ _ hj] at this
theorem nth_out (l : List α) (i : Nat) (h : l.length ≤ i) : nth l i = default := by
  simp [nth, h]
theorem nth_mem (l : List α) (i : Nat) (h : i < l.length) : nth l i ∈ l := by
  rw [nth_eq _ _ h]; exact List.getElem_mem h
theorem mem_nth {l : List α} {x : α} (h : x ∈ l) : ∃ i, i < l.length ∧ nth l i = x := by
  obtain ⟨i, hi, rfl⟩ := List.getElem_of_mem h
  exact ⟨i, hi, nth_eq _ _ hi⟩
theorem take_snoc (l : List α) (k : Nat) (h : k < l.length) : l.take (k + 1) = l.take k ++ [nth l k] := by
  rw [nth_eq _ _ h]; exact List.take_succ_eq_append_getElem h

end lists

section rows
variable {α : Type}

/-- A slice that reads as a list; one cell an element. -/
def Lst [Inhabited α] (f : α → Value) (w : World) (v : Value) (l : List α) : Prop := Sliced w v l.length 1 fun i _ => f (nth l i)

/-- A row of the call's own, from block 'base' on. -/
def Own (f : α → Value) (w : World) (base : Nat) (e : TypeId) (v : Value) (l : List α) : Prop := w.ownsRow base e 1 v l.length (l.map f)

variable {f : α → Value} {w w' : World} {base : Nat} {e : TypeId} {v : Value} {l : List α} {a : Option Addr} {n cap : Nat}

theorem Lst.below [Inhabited α] (h : Lst f w v l) (hb : Below w.heap.size w w') : Lst f w' v l := Sliced.below h hb
theorem Lst.qt [Inhabited α] (h : Lst f w v l) (hb : Qt w w') : Lst f w' v l := Sliced.below h (hb.below _)
theorem Lst.nil [Inhabited α] (f : α → Value) (w : World) : Lst f w (.slice none 0 0) [] := ⟨none, 0, rfl, by simp, by unfold maxLen; omega, fun i hi => by simp at hi⟩

theorem Own.lst [Inhabited α] (h : Own f w base e v l) : Lst f w v l := by
  obtain ⟨h1, ⟨rfl, h2⟩ | ⟨g, cap, cur, rfl, hg, hh, hc, hm, hs, ht⟩⟩ := h
  · exact ⟨none, 0, by rw [h2], by omega, by unfold maxLen; omega, fun i hi => by omega⟩
  · refine ⟨some ⟨g, 0, none⟩, cap, rfl, hc, hm, fun i hi => ⟨rfl, ?_, fun j hj => ?_⟩⟩
    · exact (Array.getElem?_eq_some_iff.1 hh).1
    · have hj0 : j = 0 := by omega
      subst hj0
      have hx : cur.toList[i]? = some (f (nth l i)) := by
        rw [← nth_map f l i hi, ← ht, List.getElem?_take, if_pos (by omega)]
      simp [World.cell?, blk, ofs, hh]
      simpa using hx

theorem Own.frozen (h : Own f w base e (.slice a n cap) l) (h0 : 0 < l.length) (i : Nat) : w.frozen? ⟨blk a, i, none⟩ = false := by
  obtain ⟨h1, ⟨h2, h3⟩ | ⟨g, cap, cur, hv, hg, hh, hc, hm, hs, ht⟩⟩ := h
  · omega
  · simp at hv
    obtain ⟨rfl, rfl, rfl⟩ := hv
    simp [World.frozen?, blk, hh]

theorem Own.set (h : Own f w base e (.slice a n cap) l) (i : Nat) (x : α) :
    Own f (w.setCell ⟨blk a, ofs a + i, none⟩ (f x)) base e (.slice a n cap) (l.set i x) := by
  obtain ⟨h1, ⟨h2, h3⟩ | ⟨g, cap, cur, hv, hg, hh, hc, hm, hs, ht⟩⟩ := h
  · simp at h2
    obtain ⟨rfl, rfl, rfl⟩ := h2
    exact ⟨by simp, .inl ⟨rfl, by simpa using h3⟩⟩
  · simp at hv
    obtain ⟨rfl, rfl, rfl⟩ := hv
    refine ⟨by simp, .inr ⟨g, _, cur.setIfInBounds i (f x), by simp, hg, ?_, by simpa using hc, hm, by simpa using hs, ?_⟩⟩
    · simp [World.setCell, blk, ofs, Array.getElem?_modify, hh]
    · simp only [Array.toList_setIfInBounds, List.map_set, List.length_set, ← ht, List.take_set]

theorem Own.below (h : Own f w base e v l) (hb : Below w.heap.size w w') : Own f w' base e v l :=
  World.ownsRow.kept h (row := none) ⟨hb.os, hb.tape, hb.output, hb.size, fun k hk _ => hb.block k hk⟩ (by cases v.ownBlock <;> simp)

theorem Own.setOther (h : Own f w base e v l) {p : Addr} (hp : v.ownBlock ≠ some p.block) (u : Value) : Own f (w.setCell p u) base e v l :=
  ownsRow_setCell_other h hp u

theorem Own.grown {row : Option Nat} (h : Own f w base e v l) (hg : w.grownBy w' row) (hne : v.ownBlock = none ∨ v.ownBlock ≠ row) : Own f w' base e v l :=
  World.ownsRow.kept h hg hne

theorem Own.alloc (h : Own f w base e v l) (o : Obj) : Own f (w.alloc o) base e v l := World.ownsRow.alloc h o

theorem Own.qt (h : Own f w base e v l) (hb : Qt w w') : Own f w' base e v l := h.below (hb.below _)

theorem Own.nil (f : α → Value) (w : World) (base : Nat) (e : TypeId) : Own f w base e (.slice none 0 0) [] := ⟨by simp, .inl ⟨rfl, rfl⟩⟩

theorem Own.mono (h : Own f w base e v l) {base' : Nat} (hb : base' ≤ base) : Own f w base' e v l := by
  obtain ⟨h1, h2 | ⟨g, cap, cur, hv, hg, r⟩⟩ := h
  · exact ⟨h1, .inl h2⟩
  · exact ⟨h1, .inr ⟨g, cap, cur, hv, Nat.le_trans hb hg, r⟩⟩

theorem Own.blkge (h : Own f w base e (.slice a n cap) l) (h0 : 0 < l.length) : base ≤ blk a ∧ blk a < w.heap.size := by
  obtain ⟨h1, ⟨h2, h3⟩ | ⟨g, cap, cur, hv, hg, hh, hc, hm, hs, ht⟩⟩ := h
  · omega
  · simp at hv
    obtain ⟨rfl, rfl, rfl⟩ := hv
    exact ⟨hg, (Array.getElem?_eq_some_iff.1 hh).1⟩

theorem Own.shape (h : Own f w base e v l) (hn : l.length = n) : ∃ s cap, v = .slice s n cap := by
  subst hn
  obtain ⟨h1, ⟨h2, h3⟩ | ⟨g, cap, cur, hv, r⟩⟩ := h
  · exact ⟨none, 0, by rw [h2, h3]⟩
  · exact ⟨_, cap, hv⟩
theorem Own.lt (h : Own f w base e v l) : ∀ k, v.ownBlock = some k → base ≤ k ∧ k < w.heap.size := World.ownsRow.lt h
theorem Own.ofs0 (h : Own f w base e (.slice a n cap) l) : ofs a = 0 := by
  obtain ⟨h1, ⟨h2, h3⟩ | ⟨g, cap, cur, hv, hg, hh, hc, hm, hs, ht⟩⟩ := h
  · simp at h2; simp [h2.1, ofs]
  · simp at hv; simp [hv.1, ofs]

theorem made_cells (z : Value) (n : Nat) (h : z.cells = #[z]) : (madeCells z.cells (n * 1)).toList = List.replicate n z := by
  apply List.ext_getElem
  · simp [madeCells]
  · intro i h1 h2
    simp [madeCells, h, Nat.mod_one]

/-- 'make([]T, n)'. -/
theorem wp_make {P : Program} {t e : TypeId} {by8 : Nat} (x0 : α) (ht : SliceOf P t e (f x0) 1 by8) (hz : (f x0).cells = #[f x0]) (w : World) {ops : Array Oper} {rest : List Oper} {o : Oper} {a : Act} {Q : Exit → Act → World → Prop}
    (hg : o.guard = none) (l c : Operand) (hop : o.op = Op.makeSlice t l c) (kl kc : IntKind) (L C : Int) (n : Nat) (hl : a.eval l = .int kl L) (hc : a.eval c = .int kc C) (hL : L = (n : Int)) (hC : C = (n : Int))
    (hb : by8 * n ≤ 281474976710656) (hm : n ≤ maxLen)
    (hK : ∀ s cap w', Own f w' w.heap.size e (.slice s n cap) (List.replicate n x0) → Below w.heap.size w w' → wpList P ops Q rest (a.put o.dst (.slice s n cap)) w') :
    wpList P ops Q (o :: rest) a w := by
  obtain ⟨i, hi, hz0, hz1, hz2⟩ := ht.info
  refine wpList_make_full w hg l c t hop w.heap.size e i (f x0) 1 ht.und hi hz0 hz1 kl kc L C n hl hc hL hC (by rw [hz2]; exact hb) hm (Nat.le_refl _) ?_
  intro w' h1 h2
  refine hK _ _ w' ?_ ((Below.refl _ _).grown h2 (Nat.le_refl _) (by simp))
  rw [made_cells _ _ hz] at h1
  unfold Own
  simpa using h1

/-- 'append(s, x)'. -/
theorem wp_append1 {P : Program} {t e : TypeId} {z : Value} {by8 : Nat} (ht : SliceOf P t e z 1 by8) (hz : z.cells.size = 1) (w : World) {ops : Array Oper} {rest : List Oper} {o : Oper} {a : Act} {Q : Exit → Act → World → Prop}
    (hg : o.guard = none) (s x : Operand) (hop : o.op = .call { callee := .builtin .append, args := #[s, x], argTypes := #[t, t] })
    (base : Nat) (v : Value) (l : List α) (hs : a.eval s = v) (hown : Own f w base e v l) (y : α) (ad : Addr) (hx : a.eval x = .slice (some ad) 1 1) (hy : w.cell? ad = some (f y)) (h1 : (f y).oneCell' = true)
    (hlen : l.length < 17592186044416) (h8 : by8 ≤ 8) (hbase : base ≤ w.heap.size)
    (hK : ∀ v' w', Own f w' base e v' (l ++ [y]) → w.grownBy w' v.ownBlock → Below base w w' → wpList P ops Q rest (a.put o.dst v') w') : wpList P ops Q (o :: rest) a w := by
  obtain ⟨i, hi, hz0, hz1, hz2⟩ := ht.info
  refine wpList_append_own w hg s x t hop base e i z 1 by8 ht.und hi hz0 hz1 hz2 hz (by omega) v l.length (l.map f) hs hown ad 1 1 [f y] hx rfl ?_ (by simpa using h1) (by unfold maxLen; omega) ?_ hbase ?_
  · intro j u hj
    cases j with
    | zero => simp at hj; subst hj; simpa [Addr.add] using hy
    | succ j => simp at hj
  · exact Nat.le_trans (Nat.mul_le_mul (by omega : l.length + 1 ≤ 17592186044416) h8) (by omega)
  · intro v' w' h2 h3 _
    exact hK v' w' (by unfold Own; simpa using h2) h3 ((Below.refl _ _).grown h3 hbase fun k hk => (World.ownsRow.lt hown k hk).1)

end rows

/-- A slice of pairs of ints: two cells an element. -/
def Pairs (w : World) (v : Value) (l : List (Int × Int)) : Prop := Sliced w v l.length 2 fun i j => .int .i64 (if j = 0 then (nth l i).1 else (nth l i).2)
theorem Pairs.below {w w' : World} {v : Value} {l : List (Int × Int)} (h : Pairs w v l) (hb : Below w.heap.size w w') : Pairs w' v l := Sliced.below h hb
theorem Pairs.qt {w w' : World} {v : Value} {l : List (Int × Int)} (h : Pairs w v l) (hb : Qt w w') : Pairs w' v l := Sliced.below h (hb.below _)

abbrev Ints := Lst (Value.int .i64)
abbrev OwnI := Own (Value.int .i64)

end Go.Dfl

/- General lemmas, of no program: rows whose elements take several cells, sources of an append, rows of rows. -/
namespace Go.Dfl
open Go.RowKit

theorem gen_wp {P : Program} {c : Code} {Q : Exit → Act → World → Prop} {a : Act} {w : World} {n : Nat} (h : ∀ W, Qt w W → Code.wp P c Q a W) : Code.wp P c Q a (w.drewN n) := h _ ⟨n, rfl⟩
theorem grownBy_alloc (w : World) (o : Obj) : w.grownBy (w.alloc o) none :=
  ⟨rfl, rfl, rfl, by simp, fun k hk _ => Below.heap_alloc w o k hk⟩
theorem grownBy_refl (w : World) (row : Option Nat) : w.grownBy w row := ⟨rfl, rfl, rfl, Nat.le_refl _, fun _ _ _ => rfl⟩
theorem grownBy_drew0 (w : World) : w.grownBy w.drew none := ⟨rfl, rfl, rfl, Nat.le_refl _, fun _ _ _ => rfl⟩
theorem grownBy_qt {w w' : World} (h : Qt w w') : w.grownBy w' none := by obtain ⟨n, rfl⟩ := h; exact ⟨rfl, rfl, rfl, Nat.le_refl _, fun _ _ _ => rfl⟩
theorem grownBy_below {w w' : World} (h : Below w.heap.size w w') : w.grownBy w' none := ⟨h.os, h.tape, h.output, h.size, fun k hk _ => h.block k hk⟩
theorem grownBy_setCell (w : World) (a : Addr) (v : Value) : w.grownBy (w.setCell a v) (some a.block) := by
  refine ⟨rfl, rfl, rfl, by simp, fun k hk hne => ?_⟩
  unfold World.setCell
  simp only [Array.getElem?_modify]
  rw [if_neg]
  intro e
  exact hne (by rw [e])
theorem grownBy_widen {w w' : World} {row : Option Nat} (h : w.grownBy w' none) : w.grownBy w' row := ⟨h.os, h.tape, h.output, h.size, fun k hk _ => h.block k hk (by simp)⟩
theorem cell_alloc1 (W : World) (v : Value) (t : TypeId) : (W.alloc (.cells #[v] t)).cell? ⟨W.heap.size, 0, none⟩ = some v := by
  unfold World.cell?
  rw [heap_alloc_new]
  rfl
theorem le_alloc {n : Nat} {W : World} (o : Obj) (h : n ≤ W.heap.size) : n ≤ (W.alloc o).heap.size := by simp; omega
theorem cell_alloc2 (W : World) (v : Value) (t : TypeId) (o : Obj) : ((W.alloc (.cells #[v] t)).alloc o).cell? ⟨W.heap.size, 0, none⟩ = some v :=
  (grownBy_alloc _ _).cell (cell_alloc1 W v t) (by simp)
theorem cell_at1 {W : World} {v : Value} {t : TypeId} {B : Nat} (h : B = W.heap.size) : (W.alloc (.cells #[v] t)).cell? ⟨B, 0, none⟩ = some v := by subst h; exact cell_alloc1 _ _ _
theorem cell_at2 {W : World} {v : Value} {t : TypeId} {B : Nat} {o : Obj} (h : B = W.heap.size) : ((W.alloc (.cells #[v] t)).alloc o).cell? ⟨B, 0, none⟩ = some v := by subst h; exact cell_alloc2 _ _ _ _
theorem add0 {g j : Nat} : (⟨g, 0, none⟩ : Addr).add j = ⟨g, j, none⟩ := by unfold Addr.add; split <;> simp_all
theorem add1 {g k j : Nat} : (⟨g, k, none⟩ : Addr).add j = ⟨g, k + j, none⟩ := by unfold Addr.add; split <;> simp_all

/-! ### Sources of an append -/
/-- A slice that is only read, as a source of an append; one cell an element. -/
def Src {α : Type} [Inhabited α] (f : α → Value) (w : World) (u : Value) (m : List α) : Prop :=
  ∃ a c, u = .slice a m.length c ∧ (a = none → m.length = 0) ∧ ∀ j, j < m.length → ∃ ad : Addr, a = some ad ∧ w.cell? (ad.add j) = some (f (nth m j))

theorem run_append_none {P : Program} {w : World} (base : Nat) (t ty e : TypeId) (i : TypeInfo) (size : Nat) (ht : P.underlying t = some (.slice e)) (hi : P.info? e = some i)
    (v : Value) (n : Nat) (xs : List Value) (hown : w.ownsRow base e size v n xs) (c : Nat) : (Builtin.append_ #[t, t] ty #[v, .slice none 0 c]).run P w = .ok v w := by
  rcases hown.2 with ⟨rfl, rfl⟩ | ⟨g, cap, cur, rfl, _, _, hnc, _⟩
  · simp [Builtin.append_, run_underlying ht, sizeOf, typeInfo, hi, Builtin.lenOf, Builtin.firstCells]
  · simp [Builtin.append_, run_underlying ht, sizeOf, typeInfo, hi, Builtin.lenOf, Builtin.firstCells, hnc, storeCells]

section
variable {α : Type} [Inhabited α] {f : α → Value} {P : Program} {t e : TypeId} {z : Value} {by8 : Nat}

theorem run_append_src (ht : SliceOf P t e z 1 by8) (hz : z.cells.size = 1) (w : World) (base : Nat) (v : Value) (l : List α) (hown : Own f w base e v l) (u : Value) (m : List α) (hu : Src f w u m) (h1 : ∀ y ∈ m, (f y).oneCell' = true)
    (hlen : l.length + m.length < 5864062014805) (h8 : by8 ≤ 24) (hbase : base ≤ w.heap.size) (ty : TypeId) :
    ∃ v' w', (Builtin.append_ #[t, t] ty #[v, u]).run P w = .ok v' w' ∧ Own f w' base e v' (l ++ m) ∧ w.grownBy w' v.ownBlock ∧ (v'.ownBlock = v.ownBlock ∨ v'.ownBlock = some w.heap.size) := by
  obtain ⟨i, hi, hz0, hz1, hz2⟩ := ht.info
  obtain ⟨a, c, rfl, hn, hc⟩ := hu
  cases a with
  | none =>
    obtain rfl : m = [] := List.eq_nil_of_length_eq_zero (hn rfl)
    refine ⟨v, w, ?_, by simpa using hown, grownBy_refl _ _, .inl rfl⟩
    exact run_append_none base t ty e i 1 ht.und hi v _ _ hown c
  | some ad =>
    have hnews : ∀ j x, (m.map f)[j]? = some x → w.cell? (ad.add j) = some x := by
      intro j x hj
      have hjl : j < m.length := by
        rw [List.getElem?_eq_some_iff] at hj; obtain ⟨h, -⟩ := hj; simpa using h
      rw [nth_map f m j hjl] at hj
      obtain ⟨ad', e1, e2⟩ := hc j hjl
      simp at e1; subst e1
      rw [e2]; exact hj
    have hone : ∀ x ∈ m.map f, x.oneCell' = true := by
      intro x hx
      simp at hx; obtain ⟨y, hy, rfl⟩ := hx; exact h1 y hy
    obtain ⟨v', w', hr, h2, h3, -, h5⟩ := run_append_own_at (P := P) w base t ty e i z 1 by8 ht.und hi hz0 hz1 hz2 hz (by omega) v l.length (l.map f) hown ad m.length c (m.map f) (by simp) hnews hone (by unfold maxLen; omega) (Nat.le_trans (Nat.mul_le_mul (by omega : l.length + m.length ≤ 5864062014805) h8) (by omega)) hbase
    exact ⟨v', w', hr, by unfold Own; simpa using h2, h3, h5⟩

/-- 'append(s, u...)' as one step of a region that draws its order. -/
theorem step_appendS (ht : SliceOf P t e z 1 by8) (hz : z.cells.size = 1) {w : World} {ops : Array Oper} {o : Oper} {a : Act} {K : Act → World → Prop} {Q : Exit → Act → World → Prop} {E : Prop}
    (hg : o.guard = none) (s x : Operand) (hop : o.op = .call { callee := .builtin .append, args := #[s, x], argTypes := #[t, t] })
    (base : Nat) (v : Value) (l : List α) (hs : a.eval s = v) (u : Value) (m : List α) (hx : a.eval x = u)
    (hown : Own f w base e v l) (hu : Src f w u m) (h1 : ∀ y ∈ m, (f y).oneCell' = true)
    (hlen : l.length + m.length < 5864062014805) (h8 : by8 ≤ 24) (hbase : base ≤ w.heap.size)
    (hK : ∀ v' w', Own f w' base e v' (l ++ m) → w.grownBy w' v.ownBlock → (v'.ownBlock = v.ownBlock ∨ v'.ownBlock = some w.heap.size) → K (a.put o.dst v') w') :
    if Region.wanted o (yielded ops a.tmps) = true then Oper.wp P o a w K Q else E := by
  have hw : Region.wanted o (yielded ops a.tmps) = true := by simp [Region.wanted, hg]
  rw [if_pos hw]
  obtain ⟨v', w', hr, h2, h3, h4⟩ := run_append_src ht hz w base v l hown u m hu h1 hlen h8 hbase o.type
  unfold Oper.wp execOp
  simp only [hop, resolve, invoke, builtin, Sem.run_bind, Sem.run_pure, Result.andThen_ok, List.map_toArray, List.map_cons, List.map_nil, hs, hx, hr]
  exact hK v' w' h2 h3 h4

/-- 'append(s, u...)' in a plain region. -/
theorem wp_appendS (ht : SliceOf P t e z 1 by8) (hz : z.cells.size = 1) {w : World} {ops : Array Oper} {rest : List Oper} {o : Oper} {a : Act} {Q : Exit → Act → World → Prop}
    (hg : o.guard = none) (s x : Operand) (hop : o.op = .call { callee := .builtin .append, args := #[s, x], argTypes := #[t, t] })
    (base : Nat) (v : Value) (l : List α) (hs : a.eval s = v) (u : Value) (m : List α) (hx : a.eval x = u)
    (hown : Own f w base e v l) (hu : Src f w u m) (h1 : ∀ y ∈ m, (f y).oneCell' = true)
    (hlen : l.length + m.length < 5864062014805) (h8 : by8 ≤ 24) (hbase : base ≤ w.heap.size)
    (hK : ∀ v' w', Own f w' base e v' (l ++ m) → w.grownBy w' v.ownBlock → (v'.ownBlock = v.ownBlock ∨ v'.ownBlock = some w.heap.size) → wpList P ops Q rest (a.put o.dst v') w') : wpList P ops Q (o :: rest) a w := by
  refine wpList_plain hg fun K hK' => ?_
  obtain ⟨v', w', hr, h2, h3, h4⟩ := run_append_src ht hz w base v l hown u m hu h1 hlen h8 hbase o.type
  unfold Oper.wp execOp
  simp only [hop, resolve, invoke, builtin, Sem.run_bind, Sem.run_pure, Result.andThen_ok, List.map_toArray, List.map_cons, List.map_nil, hs, hx, hr]
  exact hK' _ _ (hK v' w' h2 h3 h4)

theorem Src.grown {w w' : World} {u : Value} {m : List α} {row : Option Nat} (h : Src f w u m) (hg : w.grownBy w' row) (hr : ∀ k, u.ownBlock = some k → some k ≠ row) : Src f w' u m := by
  obtain ⟨a, c, rfl, h1, h2⟩ := h
  refine ⟨a, c, rfl, h1, fun j hj => ?_⟩
  obtain ⟨ad, rfl, h3⟩ := h2 j hj
  refine ⟨ad, rfl, hg.cell h3 ?_⟩
  have : (ad.add j).block = ad.block := by unfold Addr.add; split <;> rfl
  rw [this]
  exact hr _ rfl

theorem Lst.src {w : World} {v : Value} {m : List α} (h : Lst f w v m) : Src f w v m := by
  obtain ⟨a, cap, rfl, h1, h2, h3⟩ := h
  refine ⟨a, cap, rfl, fun ha => ?_, fun j hj => ?_⟩
  · rcases Nat.eq_zero_or_pos m.length with e | e
    · exact e
    · have := (h3 0 e).1; rw [ha] at this; simp at this
  · obtain ⟨g1, g2, g3⟩ := h3 j hj
    refine ⟨_, g1, ?_⟩
    rw [add1]
    simpa using g3 0 (by omega)

theorem src_one (f : α → Value) {w : World} {B : Nat} {x : α} (h : w.cell? ⟨B, 0, none⟩ = some (f x)) : Src f w (.slice (some ⟨B, 0, none⟩) 1 1) [x] :=
  ⟨_, _, rfl, by simp, fun j hj => ⟨_, rfl, by
    obtain rfl : j = 0 := by simpa using hj
    simpa [Addr.add, nth] using h⟩⟩

/-- Own, cut in front: 'x[:k]'. -/
theorem Own.cutTo {w : World} {base : Nat} {v : Value} {l : List α} (ht : SliceOf P t e z 1 by8) (h : Own f w base e v l) (k : Nat) (hk : k ≤ l.length) :
    ∃ u, (∀ (ik : IntKind) (W : World), (Instr.slice t v none (some (.int ik (k : Int))) none).run P W = .ok u W) ∧ u.ownBlock = v.ownBlock ∧ ∀ W, Own f W base e v l → Src f W u (l.take k) := by
  obtain ⟨i, hi, _, hs, _⟩ := ht.info
  have hlt : (l.take k).length = k := by simp; omega
  obtain ⟨h1, ⟨rfl, h2⟩ | ⟨g, cap, cur, rfl, hg, hh, hc, hm, hsz, htk⟩⟩ := h
  · obtain rfl : k = 0 := by omega
    refine ⟨.slice none 0 0, fun ik W => ?_, rfl, fun W _ => ⟨none, 0, by simp, by simp, fun j hj => by simp at hj⟩⟩
    simp [Instr.slice, run_underlying ht.und, Instr.sliceBounds, Instr.sliceBound, asIntOf, run_sizeOf _ hi]
  · refine ⟨.slice (some ⟨g, 0, none⟩) k cap, fun ik W => ?_, rfl, fun W ho => ⟨some ⟨g, 0, none⟩, cap, by rw [hlt], by simp, fun j hj => ⟨_, rfl, ?_⟩⟩⟩
    · have h1' : k ≤ cap := by omega
      simp [Instr.slice, run_underlying ht.und, Instr.sliceBounds, Instr.sliceBound, asIntOf, h1', run_sizeOf _ hi, Addr.add]
    · rw [hlt] at hj
      have := World.ownsRow.cellAt ho j (by omega)
      rw [add0, this, nth_map f l j (by omega)]
      simp [nth, hj]

/-- Own, cut behind: 'x[k:]'. -/
theorem Own.cutFrom {w : World} {base : Nat} {v : Value} {l : List α} (ht : SliceOf P t e z 1 by8) (h : Own f w base e v l) (k : Nat) (hk : k ≤ l.length) :
    ∃ u, (∀ (ik : IntKind) (W : World), (Instr.slice t v (some (.int ik (k : Int))) none none).run P W = .ok u W) ∧ u.ownBlock = v.ownBlock ∧ ∀ W, Own f W base e v l → Src f W u (l.drop k) := by
  obtain ⟨i, hi, _, hs, _⟩ := ht.info
  have hlt : (l.drop k).length = l.length - k := by simp
  obtain ⟨h1, ⟨rfl, h2⟩ | ⟨g, cap, cur, rfl, hg, hh, hc, hm, hsz, htk⟩⟩ := h
  · obtain rfl : k = 0 := by omega
    refine ⟨.slice none 0 0, fun ik W => ?_, rfl, fun W _ => ⟨none, 0, by simp [h2], by simp [h2], fun j hj => by simp [h2] at hj⟩⟩
    simp [Instr.slice, run_underlying ht.und, Instr.sliceBounds, Instr.sliceBound, asIntOf, run_sizeOf _ hi]
  · refine ⟨.slice (some ⟨g, if cap = k then 0 else k, none⟩) (l.length - k) (cap - k), fun ik W => ?_, rfl, fun W ho => ⟨_, _, by rw [hlt], by simp, fun j hj => ⟨_, rfl, ?_⟩⟩⟩
    · have h1' : k ≤ l.length := by omega
      simp [Instr.slice, run_underlying ht.und, Instr.sliceBounds, Instr.sliceBound, asIntOf, h1', run_sizeOf _ hi, Addr.add]
      have hce : P.cellsOf e = 1 := by simp [Program.cellsOf, hi, hs]
      by_cases hck : cap = k
      · simp [hck]
      · simp [hck, hce]
        intro h0; simp [h0]
    · rw [hlt] at hj
      have := World.ownsRow.cellAt ho (k + j) (by omega)
      rw [if_neg (by omega), add1, this, nth_map f l (k + j) (by omega)]
      simp [nth]
end

theorem own_empty {α : Type} (f : α → Value) {w : World} {base : Nat} {e : TypeId} {B : Nat} (h : B = w.heap.size) (hb : base ≤ w.heap.size) : Own f (w.alloc (.cells #[] e)) base e (.slice (some ⟨B, 0, none⟩) 0 0) [] := by
  subst h
  exact World.ownsRow_lit (size := 1) w #[] 0 hb (by unfold maxLen; omega) rfl

/-! ### Rows of rows -/
instance : Inhabited Value := ⟨undef⟩

/-- What is asked of the rows within a row. -/
structure Kind {β : Type} (I : World → Nat → Value → β → Prop) : Prop where
  grown : ∀ {w w' : World} {base : Nat} {v : Value} {l : β} {row : Option Nat}, I w base v l → w.grownBy w' row → (v.ownBlock = none ∨ v.ownBlock ≠ row) → I w' base v l
  lt : ∀ {w : World} {base : Nat} {v : Value} {l : β}, I w base v l → ∀ k, v.ownBlock = some k → base ≤ k ∧ k < w.heap.size

theorem Kind.own {α : Type} (f : α → Value) (e : TypeId) : Kind (fun w base v (l : List α) => Own f w base e v l) :=
  ⟨fun h hg hne => Own.grown h hg hne, fun h => Own.lt h⟩

/-- A row of the call's own whose elements are rows of the call's own. -/
structure OwnN {β : Type} [Inhabited β] (I : World → Nat → Value → β → Prop) (w : World) (base : Nat) (eo : TypeId) (v : Value) (vs : List Value) (ll : List β) : Prop where
  out : Own (fun x : Value => x) w base eo v vs
  len : vs.length = ll.length
  inn : ∀ i, i < ll.length → I w base (nth vs i) (nth ll i)
  sep : ∀ i j, i < ll.length → j < ll.length → i ≠ j → ∀ k, (nth vs i).ownBlock = some k → (nth vs j).ownBlock ≠ some k
  apart : ∀ i, i < ll.length → ∀ k, (nth vs i).ownBlock = some k → v.ownBlock ≠ some k

/-- The blocks of a row of rows. -/
def Foot (v : Value) (vs : List Value) (k : Nat) : Prop := v.ownBlock = some k ∨ ∃ i, i < vs.length ∧ (nth vs i).ownBlock = some k

section
variable {β : Type} [Inhabited β] {I : World → Nat → Value → β → Prop} {w w' : World} {base : Nat} {eo : TypeId} {v : Value} {vs : List Value} {ll : List β}

theorem OwnN.grown (hK : Kind I) (h : OwnN I w base eo v vs ll) {row : Option Nat} (hg : w.grownBy w' row) (hr : ∀ k, row = some k → ¬ Foot v vs k) : OwnN I w' base eo v vs ll := by
  refine ⟨h.out.grown hg ?_, h.len, fun i hi => hK.grown (h.inn i hi) hg ?_, h.sep, h.apart⟩
  · cases hv : v.ownBlock with
    | none => exact .inl rfl
    | some k => exact .inr fun e => hr k e.symm (.inl hv)
  · cases hv : (nth vs i).ownBlock with
    | none => exact .inl rfl
    | some k => exact .inr fun e => hr k e.symm (.inr ⟨i, by rw [h.len]; exact hi, hv⟩)

theorem OwnN.foot (hK : Kind I) (h : OwnN I w base eo v vs ll) (k : Nat) (hk : Foot v vs k) : base ≤ k ∧ k < w.heap.size := by
  rcases hk with hk | ⟨i, hi, hk⟩
  · exact h.out.lt k hk
  · exact hK.lt (h.inn i (by rw [← h.len]; exact hi)) k hk

theorem OwnN.alloc (hK : Kind I) (h : OwnN I w base eo v vs ll) (o : Obj) : OwnN I (w.alloc o) base eo v vs ll := h.grown hK (grownBy_alloc _ _) (by simp)
theorem OwnN.qt (hK : Kind I) (h : OwnN I w base eo v vs ll) (hq : Qt w w') : OwnN I w' base eo v vs ll := h.grown hK (grownBy_qt hq) (by simp)
theorem OwnN.below (hK : Kind I) (h : OwnN I w base eo v vs ll) (hb : Below w.heap.size w w') : OwnN I w' base eo v vs ll := h.grown hK (grownBy_below hb) (by simp)

/-- The row outside, after one within has been appended to. -/
theorem OwnN.outAt (h : OwnN I w base eo v vs ll) {i : Nat} (hi : i < ll.length) (hg : w.grownBy w' (nth vs i).ownBlock) : Own (fun x : Value => x) w' base eo v vs := by
  refine h.out.grown hg ?_
  cases hv : v.ownBlock with
  | none => exact .inl rfl
  | some k => exact .inr fun e => h.apart i hi k e.symm hv

/-- 'x[i] = u', u what an append to x[i] has given. -/
theorem OwnN.put (hK : Kind I) {a : Option Addr} {n cap : Nat} (h : OwnN I w base eo (.slice a n cap) vs ll) {i : Nat} (hi : i < ll.length) {u : Value} {l : β} (hg : w.grownBy w' (nth vs i).ownBlock) (hu : I w' base u l)
    (hl : ∀ k, u.ownBlock = some k → (nth vs i).ownBlock = some k ∨ w.heap.size ≤ k) :
    OwnN I (w'.setCell ⟨blk a, ofs a + i, none⟩ u) base eo (.slice a n cap) (vs.set i u) (ll.set i l) := by
  have hvl : i < vs.length := by rw [h.len]; exact hi
  have ho := h.outAt hi hg
  have hob : (Value.slice a n cap).ownBlock = some (blk a) := by
    have hs := ho.lst
    obtain ⟨a2, c2, he, -, -, h3⟩ := hs
    simp at he
    obtain ⟨rfl, -, -⟩ := he
    rw [(h3 i hvl).1]; rfl
  have hub : ∀ k, u.ownBlock = some k → k ≠ blk a := by
    intro k hk e
    rcases hl k hk with h1 | h1
    · exact h.apart i hi k h1 (by rw [hob, e])
    · have := (h.out.lt _ hob).2; omega
  have hjb : ∀ j, j < ll.length → ∀ k, (nth vs j).ownBlock = some k → k ≠ blk a := by
    intro j hj k hk e
    exact h.apart j hj k hk (by rw [hob, e])
  have hset := grownBy_setCell w' ⟨blk a, ofs a + i, none⟩ u
  have hn : ∀ j, nth (vs.set i u) j = if i = j then u else nth vs j := by
    intro j; rw [nth_set]; by_cases e : i = j
    · rw [if_pos ⟨e, hvl⟩, if_pos e]
    · rw [if_neg (by omega), if_neg e]
  have hn2 : ∀ j, nth (ll.set i l) j = if i = j then l else nth ll j := by
    intro j; rw [nth_set]; by_cases e : i = j
    · rw [if_pos ⟨e, hi⟩, if_pos e]
    · rw [if_neg (by omega), if_neg e]
  refine ⟨ho.set i u, by simp [h.len], fun j hj => ?_, fun j m hj hm hne k hk => ?_, fun j hj k hk => ?_⟩
  · simp at hj
    rw [hn, hn2]
    by_cases e : i = j
    · rw [if_pos e, if_pos e]
      refine hK.grown hu hset ?_
      cases hv : u.ownBlock with
      | none => exact .inl rfl
      | some k => exact .inr fun e => hub k hv (by simpa using e)
    · rw [if_neg e, if_neg e]
      refine hK.grown (hK.grown (h.inn j hj) hg ?_) hset ?_
      · cases hv : (nth vs j).ownBlock with
        | none => exact .inl rfl
        | some k => exact .inr fun e2 => h.sep j i hj hi (Ne.symm e) k hv e2.symm
      · cases hv : (nth vs j).ownBlock with
        | none => exact .inl rfl
        | some k => exact .inr fun e => hjb j hj k hv (by simpa using e)
  · simp at hj hm
    rw [hn] at hk ⊢
    by_cases e1 : i = j
    · rw [if_pos e1] at hk
      rw [if_neg (by omega)]
      intro hm2
      rcases hl k hk with h1 | h1
      · exact h.sep m i hm hi (by omega) k hm2 h1
      · have := (hK.lt (h.inn m hm) k hm2).2; omega
    · rw [if_neg e1] at hk
      by_cases e2 : i = m
      · rw [if_pos e2]
        intro hm2
        rcases hl k hm2 with h1 | h1
        · exact h.sep j i hj hi (by omega) k hk h1
        · have := (hK.lt (h.inn j hj) k hk).2; omega
      · rw [if_neg e2]; exact h.sep j m hj hm hne k hk
  · simp at hj
    rw [hn] at hk
    rw [hob]
    by_cases e : i = j
    · rw [if_pos e] at hk
      intro e2; exact hub k hk (by simpa using e2.symm)
    · rw [if_neg e] at hk
      intro e2; exact hjb j hj k hk (by simpa using e2.symm)

/-- 'append(x, u)'. -/
theorem OwnN.push (hK : Kind I) (h : OwnN I w base eo v vs ll) {v' u : Value} {l : β} (ho : Own (fun x : Value => x) w' base eo v' (vs ++ [u])) (hg : w.grownBy w' v.ownBlock)
    (hl : v'.ownBlock = v.ownBlock ∨ v'.ownBlock = some w.heap.size) (hu : I w base u l) (hs : ∀ k, u.ownBlock = some k → ¬ Foot v vs k) : OwnN I w' base eo v' (vs ++ [u]) (ll ++ [l]) := by
  have hvl := h.len
  have hn : ∀ j, j < ll.length → nth (vs ++ [u]) j = nth vs j := fun j hj => by rw [nth_append, if_pos (by omega)]
  have hn0 : nth (vs ++ [u]) ll.length = u := by rw [nth_append, if_neg (by omega), hvl, Nat.sub_self]; rfl
  have hn2 : ∀ j, j < ll.length → nth (ll ++ [l]) j = nth ll j := fun j hj => by rw [nth_append, if_pos hj]
  have hn3 : nth (ll ++ [l]) ll.length = l := by rw [nth_append, if_neg (by omega), Nat.sub_self]; rfl
  have hvb : ∀ x : Value, (∀ k, x.ownBlock = some k → v.ownBlock ≠ some k) → x.ownBlock = none ∨ x.ownBlock ≠ v.ownBlock := by
    intro x hx
    cases hv : x.ownBlock with
    | none => exact .inl rfl
    | some k => exact .inr fun e => hx k hv e.symm
  have hap : ∀ k, u.ownBlock = some k → v.ownBlock ≠ some k := fun k hk e => hs k hk (.inl e)
  refine ⟨ho, by simp [hvl], fun j hj => ?_, fun j m hj hm hne k hk => ?_, fun j hj k hk => ?_⟩
  · simp at hj
    rcases Nat.lt_or_ge j ll.length with h1 | h1
    · rw [hn j h1, hn2 j h1]
      exact hK.grown (h.inn j h1) hg (hvb _ (h.apart j h1))
    · obtain rfl : j = ll.length := by omega
      rw [hn0, hn3]
      exact hK.grown hu hg (hvb _ hap)
  · simp at hj hm
    rcases Nat.lt_or_ge j ll.length with h1 | h1
    · rw [hn j h1] at hk
      rcases Nat.lt_or_ge m ll.length with h2 | h2
      · rw [hn m h2]; exact h.sep j m h1 h2 hne k hk
      · obtain rfl : m = ll.length := by omega
        rw [hn0]; intro e; exact hs k e (.inr ⟨j, by omega, hk⟩)
    · obtain rfl : j = ll.length := by omega
      rw [hn0] at hk
      rw [hn m (by omega)]
      intro e; exact hs k hk (.inr ⟨m, by omega, e⟩)
  · simp at hj
    rcases Nat.lt_or_ge j ll.length with h1 | h1
    · rw [hn j h1] at hk
      rcases hl with e | e
      · rw [e]; exact h.apart j h1 k hk
      · rw [e]; intro e2; have := (hK.lt (h.inn j h1) k hk).2; simp at e2; omega
    · obtain rfl : j = ll.length := by omega
      rw [hn0] at hk
      rcases hl with e | e
      · rw [e]; exact hap k hk
      · rw [e]; intro e2; have := (hK.lt hu k hk).2; simp at e2; omega

/-- 'make([][]T, n)'. -/
theorem OwnN.made {n : Nat} {d : β} (ho : Own (fun x : Value => x) w base eo v (List.replicate n (.slice none 0 0))) (hI : I w base (.slice none 0 0) d) : OwnN I w base eo v (List.replicate n (.slice none 0 0)) (List.replicate n d) := by
  have h1 : ∀ i, i < n → nth (List.replicate n (Value.slice none 0 0)) i = .slice none 0 0 := fun i hi => by simp [nth, hi]
  have h2 : ∀ i, i < n → nth (List.replicate n d) i = d := fun i hi => by simp [nth, hi]
  refine ⟨ho, by simp, fun i hi => ?_, fun i j hi hj _ k hk => ?_, fun i hi k hk => ?_⟩
  · simp at hi; rw [h1 i hi, h2 i hi]; exact hI
  · simp at hi; rw [h1 i hi] at hk; simp [Value.ownBlock] at hk
  · simp at hi; rw [h1 i hi] at hk; simp [Value.ownBlock] at hk
theorem OwnN.empty (w : World) (base : Nat) (eo : TypeId) : OwnN I w base eo (.slice none 0 0) [] [] :=
  ⟨Own.nil _ _ _ _, rfl, fun i hi => by simp at hi, fun i j hi => by simp at hi, fun i hi => by simp at hi⟩

end

/-- A slice of slices that is only read. -/
def Grid {α : Type} [Inhabited α] (f : α → Value) (w : World) (v : Value) (vs : List Value) (ll : List (List α)) : Prop :=
  Lst (fun x : Value => x) w v vs ∧ vs.length = ll.length ∧ ∀ i, i < ll.length → Lst f w (nth vs i) (nth ll i)
theorem Grid.below {α : Type} [Inhabited α] {f : α → Value} {w w' : World} {v : Value} {vs : List Value} {ll : List (List α)} (h : Grid f w v vs ll) (hb : Below w.heap.size w w') : Grid f w' v vs ll :=
  ⟨h.1.below hb, h.2.1, fun i hi => (h.2.2 i hi).below hb⟩
theorem Grid.qt {α : Type} [Inhabited α] {f : α → Value} {w w' : World} {v : Value} {vs : List Value} {ll : List (List α)} (h : Grid f w v vs ll) (hb : Qt w w') : Grid f w' v vs ll := h.below (hb.below _)
theorem OwnN.grid {α : Type} [Inhabited α] {f : α → Value} {w : World} {base : Nat} {eo e : TypeId} {v : Value} {vs : List Value} {ll : List (List α)} (h : OwnN (fun w base v (l : List α) => Own f w base e v l) w base eo v vs ll) : Grid f w v vs ll :=
  ⟨h.out.lst, h.len, fun i hi => (h.inn i hi).lst⟩

theorem wp_append1at {α : Type} {f : α → Value} {P : Program} {t e : TypeId} {z : Value} {by8 : Nat} (ht : SliceOf P t e z 1 by8) (hz : z.cells.size = 1) (w : World) {ops : Array Oper} {rest : List Oper} {o : Oper} {a : Act} {Q : Exit → Act → World → Prop}
    (hg : o.guard = none) (s x : Operand) (hop : o.op = .call { callee := .builtin .append, args := #[s, x], argTypes := #[t, t] })
    (base : Nat) (v : Value) (l : List α) (hs : a.eval s = v) (hown : Own f w base e v l) (y : α) (ad : Addr) (hx : a.eval x = .slice (some ad) 1 1) (hy : w.cell? ad = some (f y)) (h1 : (f y).oneCell' = true)
    (hlen : l.length < 17592186044416) (h8 : by8 ≤ 8) (hbase : base ≤ w.heap.size)
    (hK : ∀ v' w', Own f w' base e v' (l ++ [y]) → w.grownBy w' v.ownBlock → (v'.ownBlock = v.ownBlock ∨ v'.ownBlock = some w.heap.size) → wpList P ops Q rest (a.put o.dst v') w') : wpList P ops Q (o :: rest) a w := by
  obtain ⟨i, hi, hz0, hz1, hz2⟩ := ht.info
  refine wpList_append_own_at w hg s x t hop base e i z 1 by8 ht.und hi hz0 hz1 hz2 hz (by omega) v l.length (l.map f) hs hown ad 1 1 [f y] hx rfl ?_ (by simpa using h1) (by unfold maxLen; omega) ?_ hbase ?_
  · intro j u hj
    cases j with
    | zero => simp at hj; subst hj; simpa [Addr.add] using hy
    | succ j => simp at hj
  · exact Nat.le_trans (Nat.mul_le_mul (by omega : l.length + 1 ≤ 17592186044416) h8) (by omega)
  · intro v' w' h2 h3 _ h4
    exact hK v' w' (by unfold Own; simpa using h2) h3 h4

end Go.Dfl

/- General lemmas, of no program: rows of the call's own whose elements take several cells. -/
namespace Go.Dfl
open Go.RowKit

/-- How an element lies in memory. -/
structure El (α : Type) where
  sz : Nat
  c : α → List Value
  len : ∀ x, (c x).length = sz
  one : ∀ x, ∀ v ∈ c x, v.oneCell' = true
  pos : 0 < sz

section
variable {α : Type} (E : El α)

theorem flat_len : ∀ (l : List α), (l.flatMap E.c).length = l.length * E.sz
  | [] => by simp
  | x :: l => by
    have := flat_len l
    rw [List.flatMap_cons, List.length_append, E.len, this, List.length_cons, Nat.succ_mul]; omega
theorem flat_get [Inhabited α] : ∀ (l : List α) (i j : Nat), i < l.length → j < E.sz → (l.flatMap E.c)[i * E.sz + j]? = (E.c (nth l i))[j]?
  | [], i, j, h, _ => by simp at h
  | x :: l, 0, j, _, hj => by
    rw [List.flatMap_cons, Nat.zero_mul, Nat.zero_add, List.getElem?_append_left (by rw [E.len]; exact hj)]; rfl
  | x :: l, i + 1, j, h, hj => by
    have := flat_get l i j (by simpa using h) hj
    rw [List.flatMap_cons, List.getElem?_append_right (by rw [E.len, Nat.succ_mul]; omega), E.len]
    rw [show (i + 1) * E.sz + j - E.sz = i * E.sz + j by rw [Nat.succ_mul]; omega, this]
    rfl

/-- A row of the call's own. -/
def OwnE (w : World) (base : Nat) (e : TypeId) (v : Value) (l : List α) : Prop := w.ownsRow base e E.sz v l.length (l.flatMap E.c)
variable {E}
variable {w w' : World} {base : Nat} {e : TypeId} {v : Value} {l : List α}

theorem OwnE.nil (E : El α) (w : World) (base : Nat) (e : TypeId) : OwnE E w base e (.slice none 0 0) [] := ⟨by simp, .inl ⟨rfl, rfl⟩⟩
theorem OwnE.grown {row : Option Nat} (h : OwnE E w base e v l) (hg : w.grownBy w' row) (hne : v.ownBlock = none ∨ v.ownBlock ≠ row) : OwnE E w' base e v l := World.ownsRow.kept h hg hne
theorem OwnE.lt (h : OwnE E w base e v l) : ∀ k, v.ownBlock = some k → base ≤ k ∧ k < w.heap.size := World.ownsRow.lt h
theorem OwnE.shape (h : OwnE E w base e v l) {n : Nat} (hn : l.length = n) : ∃ s cap, v = .slice s n cap := by
  subst hn
  obtain ⟨h1, ⟨h2, h3⟩ | ⟨g, cap, cur, hv, r⟩⟩ := h
  · exact ⟨none, 0, by rw [h2, h3]⟩
  · exact ⟨_, cap, hv⟩
theorem Kind.ownE (E : El α) (e : TypeId) : Kind (fun w base v (l : List α) => OwnE E w base e v l) :=
  ⟨fun h hg hne => OwnE.grown h hg hne, fun h => OwnE.lt h⟩

/-- It can be read. -/
theorem OwnE.sliced [Inhabited α] (h : OwnE E w base e v l) : Sliced w v l.length E.sz fun i j => ((E.c (nth l i))[j]?).getD undef := by
  obtain ⟨h1, ⟨rfl, h2⟩ | ⟨g, cap, cur, rfl, hg, hh, hc, hm, hs, ht⟩⟩ := h
  · exact ⟨none, 0, by rw [h2], by omega, by unfold maxLen; omega, fun i hi => by omega⟩
  · refine ⟨some ⟨g, 0, none⟩, cap, rfl, hc, hm, fun i hi => ⟨rfl, ?_, fun j hj => ?_⟩⟩
    · exact (Array.getElem?_eq_some_iff.1 hh).1
    · have hlt : i * E.sz + j < l.length * E.sz := by
        have := Nat.mul_le_mul_right E.sz (Nat.succ_le_of_lt hi)
        rw [Nat.succ_mul] at this; omega
      have hx : cur.toList[i * E.sz + j]? = (E.c (nth l i))[j]? := by
        rw [← flat_get E l i j hi hj, ← ht, List.getElem?_take, if_pos hlt]
      have hj2 : j < (E.c (nth l i)).length := by rw [E.len]; exact hj
      rw [List.getElem?_eq_getElem hj2] at hx
      show w.cell? _ = some (((E.c (nth l i))[j]?).getD undef)
      rw [List.getElem?_eq_getElem hj2]
      simp [World.cell?, blk, ofs, hh]
      simpa using hx

/-- 'append(s, x)' for one element that lies in a block of its own. -/
theorem run_appendE {P : Program} {t : TypeId} {z : Value} {by8 : Nat} (ht : SliceOf P t e z E.sz by8) (hz : z.cells.size = E.sz) (hown : OwnE E w base e v l) (x : α) (B : Nat) (hB : ∀ j y, (E.c x)[j]? = some y → w.cell? ⟨B, j, none⟩ = some y)
    (hlen : (l.length + 1) * by8 ≤ 140737488355328) (hmax : l.length + 1 ≤ 1000000000000) (hbase : base ≤ w.heap.size) (ty : TypeId) :
    ∃ v' w', (Builtin.append_ #[t, t] ty #[v, .slice (some ⟨B, 0, none⟩) 1 1]).run P w = .ok v' w' ∧ OwnE E w' base e v' (l ++ [x]) ∧ w.grownBy w' v.ownBlock ∧ (v'.ownBlock = v.ownBlock ∨ v'.ownBlock = some w.heap.size) := by
  obtain ⟨i, hi, hz0, hz1, hz2⟩ := ht.info
  obtain ⟨v', w', hr, h2, h3, -, h5⟩ := run_append_own_at (P := P) w base t ty e i z E.sz by8 ht.und hi hz0 hz1 hz2 hz E.pos v l.length (l.flatMap E.c) hown ⟨B, 0, none⟩ 1 1 (E.c x) (by rw [E.len, Nat.one_mul]) (fun j y hj => by rw [add0]; exact hB j y hj) (E.one x) (by unfold maxLen; omega) hlen hbase
  exact ⟨v', w', hr, by unfold OwnE; simpa using h2, h3, h5⟩

theorem wp_appendE {P : Program} {t : TypeId} {z : Value} {by8 : Nat} (ht : SliceOf P t e z E.sz by8) (hz : z.cells.size = E.sz) {ops : Array Oper} {rest : List Oper} {o : Oper} {a : Act} {Q : Exit → Act → World → Prop}
    (hg : o.guard = none) (s u : Operand) (hop : o.op = .call { callee := .builtin .append, args := #[s, u], argTypes := #[t, t] })
    (hs : a.eval s = v) (B : Nat) (hu : a.eval u = .slice (some ⟨B, 0, none⟩) 1 1) (hown : OwnE E w base e v l) (x : α) (hB : ∀ j y, (E.c x)[j]? = some y → w.cell? ⟨B, j, none⟩ = some y)
    (hlen : (l.length + 1) * by8 ≤ 140737488355328) (hmax : l.length + 1 ≤ 1000000000000) (hbase : base ≤ w.heap.size)
    (hK : ∀ v' w', OwnE E w' base e v' (l ++ [x]) → w.grownBy w' v.ownBlock → (v'.ownBlock = v.ownBlock ∨ v'.ownBlock = some w.heap.size) → wpList P ops Q rest (a.put o.dst v') w') : wpList P ops Q (o :: rest) a w := by
  refine wpList_plain hg fun K hK' => ?_
  obtain ⟨v', w', hr, h2, h3, h4⟩ := run_appendE ht hz hown x B hB hlen hmax hbase o.type
  unfold Oper.wp execOp
  simp only [hop, resolve, invoke, builtin, Sem.run_bind, Sem.run_pure, Result.andThen_ok, List.map_toArray, List.map_cons, List.map_nil, hs, hu, hr]
  exact hK' _ _ (hK v' w' h2 h3 h4)

end

/-- Cells of a block that is known whole. -/
theorem cells_new {W : World} {cs : List Value} {t : TypeId} {B : Nat} (h : B = W.heap.size) : ∀ j y, cs[j]? = some y → (W.alloc (.cells cs.toArray t)).cell? ⟨B, j, none⟩ = some y := by
  intro j y hj
  subst h
  unfold World.cell?
  rw [heap_alloc_new]
  simpa using hj

/-- A slice of elements of several cells: what a walk needs of it. -/
theorem Sliced.outN {w : World} {v : Value} {n s : Nat} {c : Nat → Nat → Value} (h : Sliced w v n s c) {P : Program} {t e : TypeId} {z : Value} {by8 : Nat} (ht : SliceOf P t e z s by8) (_hs : 0 < s) :
    ∃ a cap, v = .slice a n cap ∧ n ≤ 9223372036854775807 ∧
      (∀ (k : IntKind) (x : Int), 0 ≤ x → x < n → ∀ W, (Instr.indexAt t (.slice a n cap) (.int k x)).run P W = .ok (.pointer (some ⟨blk a, ofs a + x.toNat * s, none⟩)) W) ∧
      (∀ i, i < n → ∀ j, j < s → w.cell? ⟨blk a, ofs a + i * s + j, none⟩ = some (c i j)) ∧ (∀ j, j < n → blk a < w.heap.size) := by
  obtain ⟨a, cap, rfl, h1, h2, h3⟩ := h
  refine ⟨a, cap, rfl, by unfold maxLen at h2; omega, ?_, fun i hi j hj => (h3 i hi).2.2 j hj, fun j hj => (h3 j hj).2.1⟩
  intro k x h0 hl W
  exact run_indexAt_opt ht a n cap k x h0 hl (h3 x.toNat (by omega)).1 W

theorem OwnE.mono9 {α : Type} {E : El α} {w : World} {base base' : Nat} {e : TypeId} {v : Value} {l : List α} (h : OwnE E w base e v l) (hb : base' ≤ base) : OwnE E w base' e v l := by
  obtain ⟨h1, h2 | ⟨g, cap, cur, hv, hg, r⟩⟩ := h
  · exact ⟨h1, .inl h2⟩
  · exact ⟨h1, .inr ⟨g, cap, cur, hv, Nat.le_trans hb hg, r⟩⟩
end Go.Dfl

/- A region that draws its order: operations that only read come first, whatever the order; the others come in one order; what was read must stay until the last of them. Of no program. -/
namespace Go.Dfl

section
variable {P : Program} {ops : Array Oper} {Q : Exit → Act → World → Prop} {md : Region.Mode} {S : World → Prop} {n : Nat}

/-- Whatever order is picked from here on; S holds behind every operation but the last. -/
def wpAnyT (P : Program) (md : Region.Mode) (ops : Array Oper) (Q : Exit → Act → World → Prop) (S : World → Prop) (n : Nat) : Nat → Array Bool → Act → World → Prop
  | 0, listed, a, w => Region.ready md ops listed = [] ∧ Q .normal a w
  | fuel + 1, listed, a, w =>
    (Region.ready md ops listed = [] → Q .normal a w) ∧
    ∀ i ∈ Region.ready md ops listed, wpOp P ops Q i (fun a' w' => (i < n → S w') ∧ wpAnyT P md ops Q S n fuel (listed.setIfInBounds i true) a' w') a w

theorem wpAny_of_T : ∀ (fuel : Nat) (listed : Array Bool) (a : Act) (w : World), wpAnyT P md ops Q S n fuel listed a w → wpAny P md ops Q fuel listed a w
  | 0, _, _, _, h => h
  | fuel + 1, _, _, _, h => ⟨h.1, fun i hi => wpOp_mono (fun a' w' h' => wpAny_of_T fuel _ a' w' h'.2) (h.2 i hi)⟩

theorem wpAnyT_first {i : Nat} {oi : Oper} {v : Value} (hi : ops[i]? = some oi) (hsel : ∀ (j : Nat) (o : Oper) cs b, ops[j]? = some o → o.op ≠ .select cs b)
    (hQ : ∀ c a w, Q (.panic c) (a.put oi.dst v) w → Q (.panic c) a w)
    (hs : Region.sinkB md ops n = true) (hc : Region.chainB md ops n = true) (hn : n < ops.size) (hin : i < n) :
    ∀ (fuel : Nat) (listed : Array Bool) (a : Act) (w : World), HeadInv md ops n listed →
      (∀ j oj, ops[j]? = some oj → j ≠ i → listed.getD j true = false → (∀ e ∈ oj.after, Region.binds md e = true → e.on ≠ i) → oi.apart ops oj = true) →
      i ∈ Region.ready md ops listed → YieldsIf P ops S oi v a → S w →
      wpAnyT P md ops Q S n fuel (listed.setIfInBounds i true) (a.put oi.dst v) w → wpAnyT P md ops Q S n (fuel + 1) listed a w := by
  intro fuel
  induction fuel with
  | zero =>
    intro listed a w _ _ hr hy hS H
    refine ⟨fun h => (by rw [h] at hr; cases hr), fun j hj => ?_⟩
    by_cases hji : j = i
    · subst hji; exact hy.wpOp hi hS ⟨fun _ => hS, H⟩
    · have := ready_mono hj hji
      rw [H.1] at this
      cases this
  | succ fuel ih =>
    intro listed a w inv hfree hr hy hS H
    refine ⟨fun h => (by rw [h] at hr; cases hr), fun j hj => ?_⟩
    by_cases hji : j = i
    · subst hji; exact hy.wpOp hi hS ⟨fun _ => hS, H⟩
    · have hun := (mem_ready.1 hr).1
      have hjn : j < n := by
        rcases Nat.lt_or_ge j n with h | h
        · exact h
        · exact absurd hj (tail_waits hs hc hn inv _ i rfl hin hun j h)
      have h1 := H.2 j (ready_mono hj hji)
      obtain ⟨hjun, oj, hoj, hall⟩ := mem_ready.1 hj
      have hnot : ∀ e ∈ oj.after, Region.binds md e = true → e.on ≠ i := fun e he hb heq => by
        have h1 := hall e he hb
        rw [heq, getD_both hun] at h1
        cases h1
      have h2 := wpOp_putIf hoj (hfree j oj hoj hji hjun hnot) (fun cs b => hsel i oi cs b hi) (fun cs b => hsel j oj cs b hoj) hQ hy h1
      have hfree' : ∀ k ok, ops[k]? = some ok → k ≠ i → (listed.setIfInBounds j true).getD k true = false →
          (∀ e ∈ ok.after, Region.binds md e = true → e.on ≠ i) → oi.apart ops ok = true := fun k ok hk hki hun hno => by
        refine hfree k ok hk hki ?_ hno
        by_cases hjk : j = k
        · subst hjk; exact hjun
        · rw [getD_set_ne true hjk] at hun; exact hun
      refine wpOp_mono (fun a' w' h3 => ⟨h3.2.1, ih (listed.setIfInBounds j true) a' w' (inv.set hj hjn) hfree' (ready_mono hr (Ne.symm hji)) h3.1 (h3.2.1 hjn) ?_⟩) h2
      rw [Array.setIfInBounds_comm _ _ hji]
      exact h3.2.2

/-- The operations that only read, one after the other. -/
def wpHeads (P : Program) (ops : Array Oper) (S : World → Prop) (K : Act → Prop) : List Nat → Act → Prop
  | [], a => K a
  | i :: is, a => ∃ o, ops[i]? = some o ∧ ∃ v, YieldsIf P ops S o v a ∧ wpHeads P ops S K is (a.put o.dst v)

theorem wpHeads_cons {K : Act → Prop} {i : Nat} {is : List Nat} {a : Act} {o : Oper} {v : Value} (ho : ops[i]? = some o) (hy : YieldsIf P ops S o v a) (h : wpHeads P ops S K is (a.put o.dst v)) : wpHeads P ops S K (i :: is) a :=
  ⟨o, ho, v, hy, h⟩
theorem wpHeads_nil {K : Act → Prop} {a : Act} (h : K a) : wpHeads P ops S K [] a := h

/-- K behind a normal end; no panic. -/
def ThenQ (K : Act → World → Prop) (Q : Exit → Act → World → Prop) : Exit → Act → World → Prop
  | .normal, a, w => K a w
  | .panic _, _, _ => False
  | e, a, w => Q e a w

theorem thenQ_mk {K : Act → World → Prop} {a : Act} {w : World} (h : K a w) : ThenQ K Q .normal a w := h
theorem tail_mk {S : World → Prop} {K : Act → World → Prop} {a : Act} {w : World} (h1 : S w) (h2 : K a w) : ThenQ (fun a w => S w ∧ K a w) Q .normal a w := ⟨h1, h2⟩

/-- A world under a name, with what is kept of it. -/
theorem K_gen {K : Act → World → Prop} {a : Act} {w : World} (p : World → Prop) (hw : p w) (h : ∀ W, p W → K a W) : K a w := h w hw

/-- The others, in their order. -/
def wpTails (P : Program) (ops : Array Oper) (S : World → Prop) (Q : Exit → Act → World → Prop) : List Nat → Act → World → Prop
  | [], a, w => Q .normal a w
  | t :: ts, a, w => ∃ o, ops[t]? = some o ∧ wpList P ops (ThenQ (fun a' w' => (ts ≠ [] → S w') ∧ wpTails P ops S Q ts a' w') Q) [o] a w

theorem wpTails_cons {t t2 : Nat} {ts : List Nat} {a : Act} {w : World} {o : Oper} (ho : ops[t]? = some o) (h : wpList P ops (ThenQ (fun a' w' => S w' ∧ wpTails P ops S Q (t2 :: ts) a' w') Q) [o] a w) : wpTails P ops S Q (t :: t2 :: ts) a w := by
  refine ⟨o, ho, ?_⟩
  have e : (fun (a' : Act) (w' : World) => ((t2 :: ts) ≠ [] → S w') ∧ wpTails P ops S Q (t2 :: ts) a' w') = (fun a' w' => S w' ∧ wpTails P ops S Q (t2 :: ts) a' w') := by
    funext a' w'; simp
  rw [e]; exact h
theorem wpTails_one {t : Nat} {a : Act} {w : World} {o : Oper} (ho : ops[t]? = some o) (h : wpList P ops (ThenQ (fun a' w' => Q .normal a' w') Q) [o] a w) : wpTails P ops S Q [t] a w := by
  refine ⟨o, ho, ?_⟩
  have e : (fun (a' : Act) (w' : World) => (([] : List Nat) ≠ [] → S w') ∧ wpTails P ops S Q [] a' w') = (fun a' w' => Q .normal a' w') := by
    funext a' w'; simp [wpTails]
  rw [e]; exact h

theorem Oper.wp_monoQ {o : Oper} {a : Act} {w : World} {K : Act → World → Prop} {Q Q' : Exit → Act → World → Prop} (hp : ∀ c a w, Q (.panic c) a w → Q' (.panic c) a w) (hl : LetsOut Q → LetsOut Q')
    (hh : o.wp P a w K Q) : o.wp P a w K Q' := by
  unfold Oper.wp at *
  generalize (execOp a.eval o).run P w = r at *
  cases r with
  | ok n w' =>
    cases n <;> simp only [Oper.upon] at hh ⊢ <;>
      first
        | exact hh
        | exact Calls.mono hh (fun e w'' he => by cases e <;> first | exact he | exact hp _ _ _ he | exact hl he)
  | halt x w' => cases x <;> simp only [Oper.upon] at hh ⊢ <;> first | exact hh | exact hp _ _ _ hh

theorem wpOp_of_then {i : Nat} {o : Oper} {K : Act → World → Prop} {a : Act} {w : World} (ho : ops[i]? = some o) (h : wpList P ops (ThenQ K Q) [o] a w) : wpOp P ops (NoPanic Q) i K a w := by
  unfold wpOp
  simp only [ho]
  unfold wpList at h
  have hl : LetsOut (ThenQ K Q) → LetsOut (NoPanic Q) := fun ⟨a, w, h⟩ => ⟨a, w, h⟩
  split
  · rename_i hw
    rw [if_pos hw] at h
    rcases h with h | ⟨h1, h2⟩
    · exact .inl (Oper.wp_monoQ (fun c a w h => by cases h) hl (Oper.wp_mono (fun a' w' h' => h') h))
    · exact .inr ⟨h1, hl h2⟩
  · rename_i hw
    rw [if_neg hw] at h
    exact h

/-- The order of the tail. -/
def tailB (ops : Array Oper) : List Nat → Array Bool → Bool
  | [], listed => (Region.ready .any ops listed).isEmpty
  | t :: ts, listed => decide (Region.ready .any ops listed = [t]) && (!ts.isEmpty || decide (t + 1 = ops.size)) && tailB ops ts (listed.setIfInBounds t true)
def headB (ops : Array Oper) (ts : List Nat) : List Nat → Array Bool → Bool
  | [], listed => tailB ops ts listed
  | i :: is, listed => decide (i + 1 < ops.size) && (Region.ready .any ops listed).contains i && Region.free .any ops listed i && headB ops ts is (listed.setIfInBounds i true)
def mixB (ops : Array Oper) (hs ts : List Nat) : Bool :=
  Region.noSelect ops && decide (0 < ops.size) && Region.sinkB .any ops (ops.size - 1) && headB ops ts hs (Array.replicate ops.size false)

theorem wpAnyT_tails : ∀ (ts : List Nat) (listed : Array Bool) (a : Act) (w : World), tailB ops ts listed = true → wpTails P ops S Q ts a w →
    wpAnyT P .any ops (NoPanic Q) S (ops.size - 1) ts.length listed a w
  | [], listed, a, w, hB, h => ⟨by simpa [tailB] using hB, h⟩
  | t :: ts, listed, a, w, hB, h => by
    simp only [tailB, Bool.and_eq_true, decide_eq_true_eq] at hB
    obtain ⟨⟨hr, hl⟩, hB⟩ := hB
    obtain ⟨o, ho, h⟩ := h
    refine ⟨fun h0 => (by rw [hr] at h0; cases h0), fun i hi => ?_⟩
    rw [hr] at hi
    obtain rfl : i = t := by simpa using hi
    refine wpOp_mono (fun a' w' h' => ⟨fun hlt => ?_, wpAnyT_tails ts _ a' w' hB h'.2⟩) (wpOp_of_then ho h)
    refine h'.1 fun e => ?_
    subst e
    simp at hl
    omega

theorem wpAnyT_heads {ts : List Nat} (hsel : Region.noSelect ops = true) (hs : Region.sinkB .any ops (ops.size - 1) = true) (hn : 0 < ops.size) : ∀ (is : List Nat) (listed : Array Bool) (a : Act) (w : World), HeadInv .any ops (ops.size - 1) listed →
    headB ops ts is listed = true → S w → wpHeads P ops S (fun a' => wpTails P ops S Q ts a' w) is a →
    wpAnyT P .any ops (NoPanic Q) S (ops.size - 1) (is.length + ts.length) listed a w
  | [], listed, a, w, _, hB, _, h => by
    rw [List.length_nil, Nat.zero_add]
    exact wpAnyT_tails ts listed a w hB h
  | i :: is, listed, a, w, inv, hB, hS, h => by
    simp only [headB, Bool.and_eq_true, decide_eq_true_eq] at hB
    obtain ⟨⟨⟨hi, hr⟩, hf⟩, hB⟩ := hB
    obtain ⟨o, ho, v, hy, h⟩ := h
    have hr' : i ∈ Region.ready .any ops listed := by simpa using hr
    rw [List.length_cons, show is.length + 1 + ts.length = (is.length + ts.length) + 1 by omega]
    refine wpAnyT_first ho (Region.noSelect_spec hsel) (fun c a w h => h) hs ?_ (by omega) (by omega) _ listed a w inv (Region.free_spec ho hf) hr' hy hS (wpAnyT_heads hsel hs hn is _ _ w (inv.set hr' (by omega)) hB hS h)
    unfold Region.chainB
    rw [List.all_eq_true]
    intro t ht
    have := List.mem_range.1 ht
    simp; omega

theorem wp_region_mix {id : Nat} {a : Act} {w : World} {l : List Oper} (hs ts : List Nat) (S : World → Prop) (hm : P.follows .mixedOrders = true) (hB : mixB l.toArray hs ts = true) (hl : hs.length + ts.length = l.length) (hS : S w.drew)
    (h : wpHeads P l.toArray S (fun a' => wpTails P l.toArray S Q ts a' w.drew) hs a) : (Code.region id l.toArray true).wp P Q a w := by
  refine wp_region_noPanic (wp_region_any hm (wpAny_of_T (S := S) (n := l.toArray.size - 1) _ _ _ _ ?_))
  simp only [mixB, Bool.and_eq_true, decide_eq_true_eq] at hB
  obtain ⟨⟨⟨h1, h2⟩, h3⟩, h4⟩ := hB
  have inv0 : HeadInv .any l.toArray (l.toArray.size - 1) (Array.replicate l.toArray.size false) :=
    ⟨by simp, fun j oj _ hl => (by rw [getD_replicate_false] at hl; cases hl), fun t _ ht => getD_in (by simpa using ht) (getD_replicate_false _ _)⟩
  have := wpAnyT_heads (P := P) (Q := Q) (S := S) h1 h3 h2 hs _ a w.drew inv0 h4 hS h
  rw [hl] at this
  rw [show l.toArray.size = l.length by simp] at this ⊢
  exact this

/-! ### The same where nothing waits for all: S must stay to the very end -/
def wpTailsH (P : Program) (ops : Array Oper) (S : World → Prop) (Q : Exit → Act → World → Prop) : List Nat → Act → World → Prop
  | [], a, w => Q .normal a w
  | t :: ts, a, w => ∃ o, ops[t]? = some o ∧ wpList P ops (ThenQ (fun a' w' => S w' ∧ wpTailsH P ops S Q ts a' w') Q) [o] a w
theorem wpTailsH_cons {t : Nat} {ts : List Nat} {a : Act} {w : World} {o : Oper} (ho : ops[t]? = some o) (h : wpList P ops (ThenQ (fun a' w' => S w' ∧ wpTailsH P ops S Q ts a' w') Q) [o] a w) : wpTailsH P ops S Q (t :: ts) a w := ⟨o, ho, h⟩
theorem wpTailsH_nil {a : Act} {w : World} (h : Q .normal a w) : wpTailsH P ops S Q [] a w := h

def tailHB (ops : Array Oper) : List Nat → Array Bool → Bool
  | [], listed => (Region.ready .any ops listed).isEmpty
  | t :: ts, listed => decide (Region.ready .any ops listed = [t]) && tailHB ops ts (listed.setIfInBounds t true)
def headHB (ops : Array Oper) (ts : List Nat) : List Nat → Array Bool → Bool
  | [], listed => tailHB ops ts listed
  | i :: is, listed => (Region.ready .any ops listed).contains i && Region.free .any ops listed i && headHB ops ts is (listed.setIfInBounds i true)
def mixHB (ops : Array Oper) (hs ts : List Nat) : Bool := Region.noSelect ops && headHB ops ts hs (Array.replicate ops.size false)

theorem wpAnyH_tails : ∀ (ts : List Nat) (listed : Array Bool) (a : Act) (w : World), tailHB ops ts listed = true → wpTailsH P ops S Q ts a w → wpAnyH P .any ops (NoPanic Q) S ts.length listed a w
  | [], listed, a, w, hB, h => ⟨by simpa [tailHB] using hB, h⟩
  | t :: ts, listed, a, w, hB, h => by
    simp only [tailHB, Bool.and_eq_true, decide_eq_true_eq] at hB
    obtain ⟨o, ho, h⟩ := h
    refine wpAnyH_all hB.1 (by simp) fun i hi => ?_
    obtain rfl : i = t := by simpa using hi
    exact wpOp_mono (fun a' w' h' => ⟨h'.1, wpAnyH_tails ts _ a' w' hB.2 h'.2⟩) (wpOp_of_then ho h)
theorem wpAnyH_heads {ts : List Nat} (hsel : Region.noSelect ops = true) : ∀ (is : List Nat) (listed : Array Bool) (a : Act) (w : World), headHB ops ts is listed = true → S w → wpHeads P ops S (fun a' => wpTailsH P ops S Q ts a' w) is a →
    wpAnyH P .any ops (NoPanic Q) S (is.length + ts.length) listed a w
  | [], listed, a, w, hB, _, h => by
    rw [List.length_nil, Nat.zero_add]
    exact wpAnyH_tails ts listed a w hB h
  | i :: is, listed, a, w, hB, hS, h => by
    simp only [headHB, Bool.and_eq_true] at hB
    obtain ⟨⟨hr, hf⟩, hB⟩ := hB
    obtain ⟨o, ho, v, hy, h⟩ := h
    rw [List.length_cons, show is.length + 1 + ts.length = (is.length + ts.length) + 1 by omega]
    exact wpAnyH_take ho hsel hf hr (fun c a w h => h) hy hS (wpAnyH_heads hsel is _ _ w hB hS h)
theorem wp_region_mixH {id : Nat} {a : Act} {w : World} {l : List Oper} (hs ts : List Nat) (S : World → Prop) (hm : P.follows .mixedOrders = true) (hB : mixHB l.toArray hs ts = true) (hl : hs.length + ts.length = l.length) (hS : S w.drew)
    (h : wpHeads P l.toArray S (fun a' => wpTailsH P l.toArray S Q ts a' w.drew) hs a) : (Code.region id l.toArray true).wp P Q a w := by
  refine wp_region_noPanic (wp_region_held (S := S) hm ?_)
  simp only [mixHB, Bool.and_eq_true] at hB
  have := wpAnyH_heads (P := P) (Q := Q) (S := S) hB.1 hs _ a w.drew hB.2 hS h
  rw [hl] at this
  rw [show l.toArray.size = l.length by simp] at this ⊢
  exact this

end
end Go.Dfl

/- A set of keys kept as a map[K]bool that the call made: asked by m[k], written by m[k] = true. Of no program. -/
namespace Go.Dfl
open Go.Maps

/-- Block b is a map[K]bool that holds true at just the keys of the list. -/
def SetM (P : Program) (k e : TypeId) (w : World) (b n : Nat) (l : List Value) : Prop :=
  ∃ D : DataW Unit, w.ownsMap P k (plainElem P e) b n D ∧ ∀ key kl, keyOf P k key = some kl → ∃ x, D.atKey kl (.lit (.bool false)) = .lit (.bool x) ∧ (x = true ↔ key ∈ l)

section
variable {P : Program} {k e t : TypeId} {w w' : World} {b n : Nat} {l : List Value}

theorem SetM.made (P : Program) (k e : TypeId) (w : World) {B : Nat} (hB : B = w.heap.size) : SetM P k e (w.alloc (.map #[] 0)) B 0 [] := by
  subst hB
  exact ⟨_, World.ownsMap_made w P k _, fun key kl _ => ⟨false, by simp [DataW.atKey], by simp⟩⟩
theorem SetM.kept {row : Option Nat} (h : SetM P k e w b n l) (hg : w.grownBy w' row) (hne : some b ≠ row) : SetM P k e w' b n l := by
  obtain ⟨D, h1, h2⟩ := h
  exact ⟨D, h1.kept hg hne, h2⟩
theorem SetM.block {w' : World} (h : SetM P k e w b n l) (hb : w'.heap[b]? = w.heap[b]?) : SetM P k e w' b n l := by
  obtain ⟨D, ⟨es, clock, h0, h1⟩, h2⟩ := h
  exact ⟨D, ⟨es, clock, hb.trans h0, h1⟩, h2⟩
theorem SetM.mono (h : SetM P k e w b n l) {n' : Nat} (hn : n ≤ n') : SetM P k e w b n' l := by
  obtain ⟨D, h1, h2⟩ := h
  exact ⟨D, h1.mono hn, h2⟩
theorem SetM.lt (h : SetM P k e w b n l) : b < w.heap.size := by obtain ⟨D, h1, -⟩ := h; exact h1.lt
theorem plainElem_bool_inv {H : Type} {P : Program} {e : TypeId} (he : P.underlying e = some .bool) {v : Value} {z : DataW H × List MemPlace} (h : plainElem P e v = some z) : ∃ a, v = .bool a ∧ z = (.lit (.bool a), []) := by
  unfold plainElem at h
  rw [he] at h
  cases v <;> simp at h
  subst h
  exact ⟨_, rfl, rfl⟩
theorem SetM.look (h : SetM P k e w b n l) (K : Keyed P k) (ht : P.underlying t = some (.map k e)) (he : P.underlying e = some .bool) (hz : (zeroValue e).run P w = .ok (.bool false) w) {key : Value} {kl : Lit} (hkey : keyOf P k key = some kl) :
    ∃ x, (Instr.lookup t (.map (some b)) key false).run P w = .ok (.bool x) w ∧ (x = true ↔ key ∈ l) := by
  obtain ⟨D, h1, h2⟩ := h
  obtain ⟨v, ps, hrun, hv⟩ := h1.lookup K ht hz (plainElem_bool he false) hkey
  obtain ⟨x, hx, hl⟩ := h2 key kl hkey
  obtain ⟨a, rfl, ha⟩ := plainElem_bool_inv he hv
  rw [hx] at ha
  simp only [Prod.mk.injEq, DataW.lit.injEq, Lit.bool.injEq] at ha
  exact ⟨a, hrun, by rw [← ha.1]; exact hl⟩
theorem SetM.put (h : SetM P k e w b n l) (K : Keyed P k) (ht : P.underlying t = some (.map k e)) (he : P.underlying e = some .bool) (hn : n < maxLen) {key : Value} {kl : Lit} (hkey : keyOf P k key = some kl) :
    ∃ w', (Instr.mapUpdate t (.map (some b)) key (.bool true)).run P w = .ok () w' ∧ SetM P k e w' b (n + 1) (key :: l) ∧ w.grownBy w' (some b) := by
  obtain ⟨D, h1, h2⟩ := h
  obtain ⟨w', hrun, how, hg⟩ := h1.update K ht hn hkey (plainElem_bool he true)
  refine ⟨w', hrun, ⟨_, how, fun key' kl' hk' => ?_⟩, hg⟩
  by_cases ek : kl' = kl
  · subst ek
    obtain rfl := K.inj hk' hkey
    exact ⟨true, atKey_put_same h1.isMap (K.key hkey) _ _, by simp⟩
  · obtain ⟨x, hx, hl⟩ := h2 key' kl' hk'
    refine ⟨x, by rw [atKey_put_other ek]; exact hx, ?_⟩
    have : key' ≠ key := fun e' => ek (by rw [e', hkey] at hk'; simpa using hk'.symm)
    simp [this, hl]
theorem wp_mapPut {ops : Array Oper} {rest : List Oper} {o : Oper} {a : Act} {Q : Exit → Act → World → Prop} (h : SetM P k e w b n l) (hg : o.guard = none) (m x v : Operand) (hop : o.op = Op.mapUpdate t m x v) (K : Keyed P k) (ht : P.underlying t = some (.map k e)) (he : P.underlying e = some .bool)
    (hm : a.eval m = .map (some b)) (hv : a.eval v = .bool true) (hn : n < maxLen) (key : Value) (kl : Lit) (hx : a.eval x = key) (hkey : keyOf P k key = some kl)
    (hK : ∀ w', SetM P k e w' b (n + 1) (key :: l) → w.grownBy w' (some b) → wpList P ops Q rest (a.put o.dst undef) w') : wpList P ops Q (o :: rest) a w := by
  refine wpList_plain hg fun K' hK' => ?_
  obtain ⟨w', hrun, r1, r2⟩ := h.put K ht he hn hkey
  unfold Oper.wp
  simp [execOp, hop, hm, hx, hv, hrun, Result.andThen]
  exact hK' _ _ (hK w' r1 r2)
end
end Go.Dfl

/- A region that draws its order, walked by a plan: operations that only read are taken as soon as they may be, of the others each that may come next comes next. Of no program. -/
namespace Go.Dfl

inductive Plan where
  | done : Plan
  | stop : Plan
  | take : Nat → Plan → Plan
  | alt : Nat → Plan → Plan → Plan

section
variable {P : Program} {ops : Array Oper} {Q : Exit → Act → World → Prop} {S : World → Prop}

def Plan.alts : Plan → List Nat
  | .alt i _ r => i :: r.alts
  | _ => []
def Plan.dep : Plan → Nat
  | .done => 0
  | .stop => 0
  | .take _ p => p.dep + 1
  | .alt _ p r => max (p.dep + 1) r.dep
def planB (ops : Array Oper) : Plan → Array Bool → Bool → Bool
  | .done, l, _ => (Region.ready .any ops l).isEmpty
  | .stop, _, c => c
  | .take i p, l, _ => (Region.ready .any ops l).contains i && Region.free .any ops l i && planB ops p (l.setIfInBounds i true) false
  | .alt i p r, l, c => (c || decide (Region.ready .any ops l = i :: r.alts)) && planB ops p (l.setIfInBounds i true) false && planB ops r l true
def planWp (P : Program) (ops : Array Oper) (S : World → Prop) (Q : Exit → Act → World → Prop) : Plan → Act → World → Prop
  | .done, a, w => Q .normal a w
  | .stop, _, _ => True
  | .take i p, a, w => ∃ o, ops[i]? = some o ∧ ∃ v, YieldsIf P ops S o v a ∧ planWp P ops S Q p (a.put o.dst v) w
  | .alt i p r, a, w => (∃ o, ops[i]? = some o ∧ wpList P ops (ThenQ (fun a' w' => S w' ∧ planWp P ops S Q p a' w') Q) [o] a w) ∧ planWp P ops S Q r a w

theorem plan_sound (hsel : Region.noSelect ops = true) : ∀ (p : Plan),
    (∀ (l : Array Bool) (a : Act) (w : World) (fuel : Nat), planB ops p l false = true → S w → planWp P ops S Q p a w → p.dep ≤ fuel → wpAnyH P .any ops (NoPanic Q) S fuel l a w) ∧
    (∀ (l : Array Bool) (a : Act) (w : World) (fuel : Nat), planB ops p l true = true → S w → planWp P ops S Q p a w → p.dep ≤ fuel + 1 → ∀ i ∈ p.alts, wpOp P ops (NoPanic Q) i (fun a' w' => S w' ∧ wpAnyH P .any ops (NoPanic Q) S fuel (l.setIfInBounds i true) a' w') a w)
  | .done => ⟨fun l a w fuel hB _ h _ => wpAnyH_done (Q := NoPanic Q) (by simpa [planB] using hB) h fuel, fun _ _ _ _ _ _ _ _ i hi => (nomatch hi)⟩
  | .stop => ⟨fun _ _ _ _ hB _ _ _ => (nomatch hB), fun _ _ _ _ _ _ _ _ i hi => (nomatch hi)⟩
  | .take i p => by
    refine ⟨fun l a w fuel hB hS h hd => ?_, fun _ _ _ _ _ _ _ _ i hi => (nomatch hi)⟩
    simp only [planB, Bool.and_eq_true] at hB
    obtain ⟨⟨hr, hf⟩, hB⟩ := hB
    obtain ⟨o, ho, v, hy, h⟩ := h
    simp only [Plan.dep] at hd
    obtain ⟨f, rfl⟩ : ∃ f, fuel = f + 1 := ⟨fuel - 1, by omega⟩
    exact wpAnyH_take ho hsel hf hr (fun c a w h => h) hy hS ((plan_sound hsel p).1 _ _ w f hB hS h (by omega))
  | .alt i p r => by
    have key : ∀ (l : Array Bool) (a : Act) (w : World) (fuel : Nat), planB ops p (l.setIfInBounds i true) false = true → planB ops r l true = true → S w → planWp P ops S Q (.alt i p r) a w → (Plan.alt i p r).dep ≤ fuel + 1 →
        ∀ j ∈ (Plan.alt i p r).alts, wpOp P ops (NoPanic Q) j (fun a' w' => S w' ∧ wpAnyH P .any ops (NoPanic Q) S fuel (l.setIfInBounds j true) a' w') a w := by
      intro l a w fuel hp hr hS h hd j hj
      obtain ⟨⟨o, ho, h1⟩, h2⟩ := h
      simp only [Plan.dep] at hd
      rcases List.mem_cons.1 hj with rfl | hj
      · exact wpOp_mono (fun a' w' h' => ⟨h'.1, (plan_sound hsel p).1 _ a' w' fuel hp h'.1 h'.2 (by omega)⟩) (wpOp_of_then ho h1)
      · exact (plan_sound hsel r).2 l a w fuel hr hS h2 (by omega) j hj
    refine ⟨fun l a w fuel hB hS h hd => ?_, fun l a w fuel hB hS h hd => ?_⟩
    · simp only [planB, Bool.and_eq_true, Bool.false_or, decide_eq_true_eq] at hB
      obtain ⟨⟨hr, hp⟩, hB⟩ := hB
      obtain ⟨f, rfl⟩ : ∃ f, fuel = f + 1 := ⟨fuel - 1, by simp only [Plan.dep] at hd; omega⟩
      exact wpAnyH_all hr (by simp) (key l a w f hp hB hS h hd)
    · simp only [planB, Bool.and_eq_true] at hB
      exact key l a w fuel hB.1.2 hB.2 hS h hd

theorem wp_region_plan {id : Nat} {a : Act} {w : World} {l : List Oper} (p : Plan) (S : World → Prop) (hm : P.follows .mixedOrders = true) (hsel : Region.noSelect l.toArray = true) (hB : planB l.toArray p (Array.replicate l.length false) false = true) (hd : decide (p.dep ≤ l.length) = true) (hS : S w.drew)
    (h : planWp P l.toArray S Q p a w.drew) : (Code.region id l.toArray true).wp P Q a w := by
  refine wp_region_noPanic (wp_region_held (S := S) hm ?_)
  rw [show l.toArray.size = l.length by simp]
  exact (plan_sound hsel p).1 _ a w.drew _ hB hS h (by simpa using hd)
theorem plan_take {i : Nat} {p : Plan} {a : Act} {w : World} {o : Oper} {v : Value} (ho : ops[i]? = some o) (hy : YieldsIf P ops S o v a) (h : planWp P ops S Q p (a.put o.dst v) w) : planWp P ops S Q (.take i p) a w := ⟨o, ho, v, hy, h⟩
theorem plan_alt {i : Nat} {p r : Plan} {a : Act} {w : World} {o : Oper} (ho : ops[i]? = some o) (h1 : wpList P ops (ThenQ (fun a' w' => S w' ∧ planWp P ops S Q p a' w') Q) [o] a w) (h2 : planWp P ops S Q r a w) : planWp P ops S Q (.alt i p r) a w := ⟨⟨o, ho, h1⟩, h2⟩
theorem plan_stop {a : Act} {w : World} : planWp P ops S Q .stop a w := trivial
theorem plan_done {a : Act} {w : World} (h : Q .normal a w) : planWp P ops S Q .done a w := h
end
end Go.Dfl
