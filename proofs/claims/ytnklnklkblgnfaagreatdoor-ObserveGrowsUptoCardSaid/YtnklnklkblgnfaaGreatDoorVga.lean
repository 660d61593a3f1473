/- Texts of the claim, merged. -/
import Derived.WalkKit
import Derived.Lib.Hide
import Derived.WalkSpells
import Derived.Deep.QuietTactic
import Derived.BigQuiet
import Derived.WalkLawsBesides
import Derived.ChangeKeysEq
import Derived.StillTailTactics
import Derived.Deep.AppendLies
import Derived.Deep.RegionHeld3
import Derived.StillTail
import Derived.OrdersHeld
import Derived.Maps.OwnSet
import Derived.DeepKeys4
import Derived.Deep.RegionLaw
import Derived.Test.YtnklnklkblgnfaaGreatDoorRows
import Derived.Sort.Grow
import Derived.Shelf.SlSorted.Search
import Derived.ProofKit
import Derived.OpenShut
import Derived.ShutString
import Derived.ChangeOld
import Derived.Deep.SlicePairs
import Derived.Deep.Slices
import Derived.Maps.RangeWalk
import Derived.Shelf.SlSortCmp.WholeK
import Derived.Shelf.SlSortCmp.NoneTotal
import Derived.Test.YtnklnklkblgnfaaGreatDoorProg
import Derived.Deep.Cut
import Derived.Deep.DeepCutAuto
section
namespace Go.Dfl
open Go.RowKit
def nth {α : Type} [Inhabited α] (l : List α) (i : Nat) : α := l.getD i default
def blk : Option Addr → Nat | some a => a.block | none => 0
def ofs : Option Addr → Nat | some a => a.off | none => 0
theorem ret_int {k : IntKind} {a b : Int} (h : a = b) : Ending.returned (.int k a) = .returned (.int k b) := by rw [h]
def mn (x y : Int) : Int := if y < x then y else x
def Qt (w w' : World) : Prop := ∃ n, w' = w.drewN n
theorem Qt.drewN (w : World) (n : Nat) : Qt w (w.drewN n) := ⟨n, rfl⟩
theorem Qt.below {w w' : World} (h : Qt w w') (B : Nat) : Below B w w' := by
 obtain ⟨n, rfl⟩ := h; exact below_drewN (Below.refl _ _) n
theorem grownBy_drew {w w' : World} {row : Option Nat} (h : w.grownBy w' row) : w.grownBy w'.drew row := ⟨h.os, h.tape, h.output, h.size, h.block⟩
theorem grownBy_trans {a b c : World} {row : Option Nat} (h : a.grownBy b row) (k : b.grownBy c row) : a.grownBy c row :=
 ⟨k.os.trans h.os, k.tape.trans h.tape, k.output.trans h.output, Nat.le_trans h.size k.size, fun i hi hr => (k.block i (Nat.lt_of_lt_of_le hi h.size) hr).trans (h.block i hi hr)⟩
structure Wd (Cls : World → Prop) where
 val : World
 ok : Cls val
theorem wp_region_class {P : Program} {id : Nat} {Q : Exit → Act → World → Prop} {a : Act} {w : World} {l : List Oper} (Cls : World → Prop) (hm : P.follows .mixedOrders = true) (hB : Region.lexB .any l.toArray = true) (hC : Cls w.drew)
  (h : wpQuiet P l.toArray (fun W' => ∃ q : Wd Cls, W' = q.val) (fun a' => ∀ W', (∃ q : Wd Cls, W' = q.val) → Q .normal a' W') l a) : (Code.region id l.toArray true).wp P Q a w :=
 wp_region_quiet (C := fun W' => ∃ q : Wd Cls, W' = q.val) hm hB ⟨⟨_, hC⟩, rfl⟩ (by simpa using h)
theorem class_of {P : Program} {f : FuncId} {args : Array Value} {W : World} {v : Value} {Cls : World → Prop}
  (h : Calls P f args W fun e w' => e = .returned v ∧ Cls w') : Calls P f args W fun e w'' => e = .returned v ∧ ∃ q : Wd Cls, w'' = q.val :=
 h.mono fun _ _ ⟨he, hc⟩ => ⟨he, ⟨_, hc⟩, rfl⟩
theorem heap_alloc_new (w : World) (o : Obj) : (w.alloc o).heap[w.heap.size]? = some o := by
 show (w.heap.push o)[w.heap.size]? = _
 simp
def Sliced (w : World) (v : Value) (n s : Nat) (c : Nat → Nat → Value) : Prop :=
 ∃ a cap, v = .slice a n cap ∧ n ≤ cap ∧ cap ≤ maxLen ∧ ∀ i, i < n → a = some ⟨blk a, ofs a, none⟩ ∧ blk a < w.heap.size ∧ ∀ j, j < s → w.cell? ⟨blk a, ofs a + i * s + j, none⟩ = some (c i j)
theorem Sliced.below {w w' : World} {v : Value} {n s : Nat} {c : Nat → Nat → Value} (h : Sliced w v n s c) (hb : Below w.heap.size w w') : Sliced w' v n s c := by
 obtain ⟨a, cap, rfl, h1, h2, h3⟩ := h
 refine ⟨a, cap, rfl, h1, h2, fun i hi => ?_⟩
 obtain ⟨g1, g2, g3⟩ := h3 i hi
 exact ⟨g1, Nat.lt_of_lt_of_le g2 hb.size, fun j hj => by rw [hb.cell (p := ⟨blk a, ofs a + i * s + j, none⟩) g2]; exact g3 j hj⟩
structure SliceOf (P : Program) (t e : TypeId) (z : Value) (size bytes : Nat) : Prop where
 und : P.underlying t = some (.slice e)
 info : ∃ i, P.info? e = some i ∧ i.zero = some z ∧ i.size = size ∧ i.bytes = bytes
theorem run_indexAt_opt {P : Program} {t e : TypeId} {z : Value} {s by8 : Nat} (ht : SliceOf P t e z s by8)
  (a : Option Addr) (n cap : Nat) (k : IntKind) (x : Int) (h0 : 0 ≤ x) (h1 : x < n) (ha : a = some ⟨blk a, ofs a, none⟩) (W : World) :
  (Instr.indexAt t (.slice a n cap) (.int k x)).run P W = .ok (.pointer (some ⟨blk a, ofs a + x.toNat * s, none⟩)) W := by
 obtain ⟨i, hi, _, hs, _⟩ := ht.info
 have he : P.elem t = e := by simp [Program.elem, ht.und]
 have hc : P.cellsOf e = s := by simp [Program.cellsOf, hi, hs]
 rw [ha, run_indexAt_slice _ _ _ _ _ _ _ (by rw [he]; exact ht.und), if_pos ⟨h0, h1⟩, he, run_sizeOf _ hi, hc]
 simp [Addr.add]
 split
 ·rename_i h; simp [h, blk, ofs]
 ·simp [blk, ofs]
theorem Sliced.out1 {w : World} {v : Value} {n : Nat} {c : Nat → Nat → Value} (h : Sliced w v n 1 c) {P : Program} {t e : TypeId} {z : Value} {by8 : Nat} (ht : SliceOf P t e z 1 by8) :
  ∃ a cap, v = .slice a n cap ∧ n ≤ 9223372036854775807 ∧
   (∀ (k : IntKind) (x : Int), 0 ≤ x → x < n → ∀ W, (Instr.indexAt t (.slice a n cap) (.int k x)).run P W = .ok (.pointer (some ⟨blk a, ofs a + x.toNat, none⟩)) W) ∧
   (∀ j, j < n → w.cell? ⟨blk a, ofs a + j, none⟩ = some (c j 0)) ∧ (∀ j, j < n → blk a < w.heap.size) := by
 obtain ⟨a, cap, rfl, h1, h2, h3⟩ := h
 refine ⟨a, cap, rfl, by unfold maxLen at h2; omega, ?_, ?_, fun j hj => (h3 j hj).2.1⟩
 ·intro k x h0 hl W
  have := run_indexAt_opt ht a n cap k x h0 hl (h3 x.toNat (by omega)).1 W
  simpa using this
 ·intro j hj
  simpa using (h3 j hj).2.2 0 (by omega)
section lists
variable {α : Type} [Inhabited α]
theorem nth_eq (l : List α) (i : Nat) (h : i < l.length) : nth l i = l[i] := by simp [nth, h]
theorem nth_map (f : α → Value) (l : List α) (i : Nat) (h : i < l.length) : (l.map f)[i]? = some (f (nth l i)) := by simp [nth, h]
theorem nth_set (l : List α) (i j : Nat) (x : α) : nth (l.set i x) j = if i = j ∧ i < l.length then x else nth l j := by
 unfold nth
 simp only [List.getD_eq_getElem?_getD, List.getElem?_set]
 by_cases h : i = j
 ·subst h
  by_cases h2 : i < l.length
  ·simp [h2]
  ·simp [h2]
 ·simp [h]
theorem nth_append (l m : List α) (i : Nat) : nth (l ++ m) i = if i < l.length then nth l i else nth m (i - l.length) := by
 unfold nth
 simp only [List.getD_eq_getElem?_getD, List.getElem?_append]
 split <;> rfl
theorem nth_ext {l m : List α} (h : l.length = m.length) (h2 : ∀ i, i < l.length → nth l i = nth m i) : l = m := by
 apply List.ext_getElem h
 intro i hi hj
 have := h2 i hi
 rwa [nth_eq _ _ hi, nth_eq _ _ hj] at this
theorem nth_out (l : List α) (i : Nat) (h : l.length ≤ i) : nth l i = default := by
 simp [nth, h]
theorem nth_mem (l : List α) (i : Nat) (h : i < l.length) : nth l i ∈ l := by
 rw [nth_eq _ _ h]; exact List.getElem_mem h
theorem mem_nth {l : List α} {x : α} (h : x ∈ l) : ∃ i, i < l.length ∧ nth l i = x := by
 obtain ⟨i, hi, rfl⟩ := List.getElem_of_mem h
 exact ⟨i, hi, nth_eq _ _ hi⟩
theorem take_snoc (l : List α) (k : Nat) (h : k < l.length) : l.take (k + 1) = l.take k ++ [nth l k] := by
 rw [nth_eq _ _ h]; exact List.take_succ_eq_append_getElem h
end lists
section rows
variable {α : Type}
def Lst [Inhabited α] (f : α → Value) (w : World) (v : Value) (l : List α) : Prop := Sliced w v l.length 1 fun i _ => f (nth l i)
def Own (f : α → Value) (w : World) (base : Nat) (e : TypeId) (v : Value) (l : List α) : Prop := w.ownsRow base e 1 v l.length (l.map f)
variable {f : α → Value} {w w' : World} {base : Nat} {e : TypeId} {v : Value} {l : List α} {a : Option Addr} {n cap : Nat}
theorem Own.lst [Inhabited α] (h : Own f w base e v l) : Lst f w v l := by
 obtain ⟨h1, ⟨rfl, h2⟩ | ⟨g, cap, cur, rfl, hg, hh, hc, hm, hs, ht⟩⟩ := h
 ·exact ⟨none, 0, by rw [h2], by omega, by unfold maxLen; omega, fun i hi => by omega⟩
 ·refine ⟨some ⟨g, 0, none⟩, cap, rfl, hc, hm, fun i hi => ⟨rfl, ?_, fun j hj => ?_⟩⟩
  ·exact (Array.getElem?_eq_some_iff.1 hh).1
  ·have hj0 : j = 0 := by omega
   subst hj0
   have hx : cur.toList[i]? = some (f (nth l i)) := by
    rw [← nth_map f l i hi, ← ht, List.getElem?_take, if_pos (by omega)]
   simp [World.cell?, blk, ofs, hh]
   simpa using hx
end rows
abbrev Ints := Lst (Value.int .i64)
abbrev OwnI := Own (Value.int .i64)
end Go.Dfl
namespace Go.Dfl
open Go.RowKit
theorem grownBy_alloc (w : World) (o : Obj) : w.grownBy (w.alloc o) none :=
 ⟨rfl, rfl, rfl, by simp, fun k hk _ => Below.heap_alloc w o k hk⟩
theorem grownBy_refl (w : World) (row : Option Nat) : w.grownBy w row := ⟨rfl, rfl, rfl, Nat.le_refl _, fun _ _ _ => rfl⟩
theorem grownBy_below {w w' : World} (h : Below w.heap.size w w') : w.grownBy w' none := ⟨h.os, h.tape, h.output, h.size, fun k hk _ => h.block k hk⟩
theorem grownBy_setCell (w : World) (a : Addr) (v : Value) : w.grownBy (w.setCell a v) (some a.block) := by
 refine ⟨rfl, rfl, rfl, by simp, fun k hk hne => ?_⟩
 unfold World.setCell
 simp only [Array.getElem?_modify]
 rw [if_neg]
 intro e
 exact hne (by rw [e])
theorem le_alloc {n : Nat} {W : World} (o : Obj) (h : n ≤ W.heap.size) : n ≤ (W.alloc o).heap.size := by simp; omega
theorem add0 {g j : Nat} : (⟨g, 0, none⟩ : Addr).add j = ⟨g, j, none⟩ := by unfold Addr.add; split <;> simp_all
theorem run_append_none {P : Program} {w : World} (base : Nat) (t ty e : TypeId) (i : TypeInfo) (size : Nat) (ht : P.underlying t = some (.slice e)) (hi : P.info? e = some i)
  (v : Value) (n : Nat) (xs : List Value) (hown : w.ownsRow base e size v n xs) (c : Nat) : (Builtin.append_ #[t, t] ty #[v, .slice none 0 c]).run P w = .ok v w := by
 rcases hown.2 with ⟨rfl, rfl⟩ | ⟨g, cap, cur, rfl, _, _, hnc, _⟩
 ·simp [Builtin.append_, run_underlying ht, sizeOf, typeInfo, hi, Builtin.lenOf, Builtin.firstCells]
 ·simp [Builtin.append_, run_underlying ht, sizeOf, typeInfo, hi, Builtin.lenOf, Builtin.firstCells, hnc, storeCells]
section
variable {α : Type} [Inhabited α] {f : α → Value} {P : Program} {t e : TypeId} {z : Value} {by8 : Nat}
end
instance : Inhabited Value := ⟨undef⟩
section
variable {β : Type} [Inhabited β] {I : World → Nat → Value → β → Prop} {w w' : World} {base : Nat} {eo : TypeId} {v : Value} {vs : List Value} {ll : List β}
end
end Go.Dfl
namespace Go.Dfl
open Go.RowKit
structure El (α : Type) where
 sz : Nat
 c : α → List Value
 len : ∀ x, (c x).length = sz
 one : ∀ x, ∀ v ∈ c x, v.oneCell' = true
 pos : 0 < sz
section
variable {α : Type} (E : El α)
theorem flat_len : ∀ (l : List α), (l.flatMap E.c).length = l.length * E.sz
 | [] => by simp
 | x :: l => by
   have := flat_len l
   rw [List.flatMap_cons, List.length_append, E.len, this, List.length_cons, Nat.succ_mul]; omega
theorem flat_get [Inhabited α] : ∀ (l : List α) (i j : Nat), i < l.length → j < E.sz → (l.flatMap E.c)[i * E.sz + j]? = (E.c (nth l i))[j]?
 | [], i, j, h, _ => by simp at h
 | x :: l, 0, j, _, hj => by
   rw [List.flatMap_cons, Nat.zero_mul, Nat.zero_add, List.getElem?_append_left (by rw [E.len]; exact hj)]; rfl
 | x :: l, i + 1, j, h, hj => by
   have := flat_get l i j (by simpa using h) hj
   rw [List.flatMap_cons, List.getElem?_append_right (by rw [E.len, Nat.succ_mul]; omega), E.len]
   rw [show (i + 1) * E.sz + j - E.sz = i * E.sz + j by rw [Nat.succ_mul]; omega, this]
   rfl
def OwnE (w : World) (base : Nat) (e : TypeId) (v : Value) (l : List α) : Prop := w.ownsRow base e E.sz v l.length (l.flatMap E.c)
variable {E}
variable {w w' : World} {base : Nat} {e : TypeId} {v : Value} {l : List α}
theorem OwnE.nil (E : El α) (w : World) (base : Nat) (e : TypeId) : OwnE E w base e (.slice none 0 0) [] := ⟨by simp, .inl ⟨rfl, rfl⟩⟩
theorem OwnE.grown {row : Option Nat} (h : OwnE E w base e v l) (hg : w.grownBy w' row) (hne : v.ownBlock = none ∨ v.ownBlock ≠ row) : OwnE E w' base e v l := World.ownsRow.kept h hg hne
theorem OwnE.lt (h : OwnE E w base e v l) : ∀ k, v.ownBlock = some k → base ≤ k ∧ k < w.heap.size := World.ownsRow.lt h
theorem OwnE.shape (h : OwnE E w base e v l) {n : Nat} (hn : l.length = n) : ∃ s cap, v = .slice s n cap := by
 subst hn
 obtain ⟨h1, ⟨h2, h3⟩ | ⟨g, cap, cur, hv, r⟩⟩ := h
 ·exact ⟨none, 0, by rw [h2, h3]⟩
 ·exact ⟨_, cap, hv⟩
theorem OwnE.sliced [Inhabited α] (h : OwnE E w base e v l) : Sliced w v l.length E.sz fun i j => ((E.c (nth l i))[j]?).getD undef := by
 obtain ⟨h1, ⟨rfl, h2⟩ | ⟨g, cap, cur, rfl, hg, hh, hc, hm, hs, ht⟩⟩ := h
 ·exact ⟨none, 0, by rw [h2], by omega, by unfold maxLen; omega, fun i hi => by omega⟩
 ·refine ⟨some ⟨g, 0, none⟩, cap, rfl, hc, hm, fun i hi => ⟨rfl, ?_, fun j hj => ?_⟩⟩
  ·exact (Array.getElem?_eq_some_iff.1 hh).1
  ·have hlt : i * E.sz + j < l.length * E.sz := by
    have := Nat.mul_le_mul_right E.sz (Nat.succ_le_of_lt hi)
    rw [Nat.succ_mul] at this; omega
   have hx : cur.toList[i * E.sz + j]? = (E.c (nth l i))[j]? := by
    rw [← flat_get E l i j hi hj, ← ht, List.getElem?_take, if_pos hlt]
   have hj2 : j < (E.c (nth l i)).length := by rw [E.len]; exact hj
   rw [List.getElem?_eq_getElem hj2] at hx
   show w.cell? _ = some (((E.c (nth l i))[j]?).getD undef)
   rw [List.getElem?_eq_getElem hj2]
   simp [World.cell?, blk, ofs, hh]
   simpa using hx
theorem run_appendE {P : Program} {t : TypeId} {z : Value} {by8 : Nat} (ht : SliceOf P t e z E.sz by8) (hz : z.cells.size = E.sz) (hown : OwnE E w base e v l) (x : α) (B : Nat) (hB : ∀ j y, (E.c x)[j]? = some y → w.cell? ⟨B, j, none⟩ = some y)
  (hlen : (l.length + 1) * by8 ≤ 140737488355328) (hmax : l.length + 1 ≤ 1000000000000) (hbase : base ≤ w.heap.size) (ty : TypeId) :
  ∃ v' w', (Builtin.append_ #[t, t] ty #[v, .slice (some ⟨B, 0, none⟩) 1 1]).run P w = .ok v' w' ∧ OwnE E w' base e v' (l ++ [x]) ∧ w.grownBy w' v.ownBlock ∧ (v'.ownBlock = v.ownBlock ∨ v'.ownBlock = some w.heap.size) := by
 obtain ⟨i, hi, hz0, hz1, hz2⟩ := ht.info
 obtain ⟨v', w', hr, h2, h3, -, h5⟩ := run_append_own_at (P := P) w base t ty e i z E.sz by8 ht.und hi hz0 hz1 hz2 hz E.pos v l.length (l.flatMap E.c) hown ⟨B, 0, none⟩ 1 1 (E.c x) (by rw [E.len, Nat.one_mul]) (fun j y hj => by rw [add0]; exact hB j y hj) (E.one x) (by unfold maxLen; omega) hlen hbase
 exact ⟨v', w', hr, by unfold OwnE; simpa using h2, h3, h5⟩
theorem wp_appendE {P : Program} {t : TypeId} {z : Value} {by8 : Nat} (ht : SliceOf P t e z E.sz by8) (hz : z.cells.size = E.sz) {ops : Array Oper} {rest : List Oper} {o : Oper} {a : Act} {Q : Exit → Act → World → Prop}
  (hg : o.guard = none) (s u : Operand) (hop : o.op = .call { callee := .builtin .append, args := #[s, u], argTypes := #[t, t] })
  (hs : a.eval s = v) (B : Nat) (hu : a.eval u = .slice (some ⟨B, 0, none⟩) 1 1) (hown : OwnE E w base e v l) (x : α) (hB : ∀ j y, (E.c x)[j]? = some y → w.cell? ⟨B, j, none⟩ = some y)
  (hlen : (l.length + 1) * by8 ≤ 140737488355328) (hmax : l.length + 1 ≤ 1000000000000) (hbase : base ≤ w.heap.size)
  (hK : ∀ v' w', OwnE E w' base e v' (l ++ [x]) → w.grownBy w' v.ownBlock → (v'.ownBlock = v.ownBlock ∨ v'.ownBlock = some w.heap.size) → wpList P ops Q rest (a.put o.dst v') w') : wpList P ops Q (o :: rest) a w := by
 refine wpList_plain hg fun K hK' => ?_
 obtain ⟨v', w', hr, h2, h3, h4⟩ := run_appendE ht hz hown x B hB hlen hmax hbase o.type
 unfold Oper.wp execOp
 simp only [hop, resolve, invoke, builtin, Sem.run_bind, Sem.run_pure, Result.andThen_ok, List.map_toArray, List.map_cons, List.map_nil, hs, hu, hr]
 exact hK' _ _ (hK v' w' h2 h3 h4)
end
theorem cells_new {W : World} {cs : List Value} {t : TypeId} {B : Nat} (h : B = W.heap.size) : ∀ j y, cs[j]? = some y → (W.alloc (.cells cs.toArray t)).cell? ⟨B, j, none⟩ = some y := by
 intro j y hj
 subst h
 unfold World.cell?
 rw [heap_alloc_new]
 simpa using hj
theorem Sliced.outN {w : World} {v : Value} {n s : Nat} {c : Nat → Nat → Value} (h : Sliced w v n s c) {P : Program} {t e : TypeId} {z : Value} {by8 : Nat} (ht : SliceOf P t e z s by8) (_hs : 0 < s) :
  ∃ a cap, v = .slice a n cap ∧ n ≤ 9223372036854775807 ∧
   (∀ (k : IntKind) (x : Int), 0 ≤ x → x < n → ∀ W, (Instr.indexAt t (.slice a n cap) (.int k x)).run P W = .ok (.pointer (some ⟨blk a, ofs a + x.toNat * s, none⟩)) W) ∧
   (∀ i, i < n → ∀ j, j < s → w.cell? ⟨blk a, ofs a + i * s + j, none⟩ = some (c i j)) ∧ (∀ j, j < n → blk a < w.heap.size) := by
 obtain ⟨a, cap, rfl, h1, h2, h3⟩ := h
 refine ⟨a, cap, rfl, by unfold maxLen at h2; omega, ?_, fun i hi j hj => (h3 i hi).2.2 j hj, fun j hj => (h3 j hj).2.1⟩
 intro k x h0 hl W
 exact run_indexAt_opt ht a n cap k x h0 hl (h3 x.toNat (by omega)).1 W
theorem OwnE.mono9 {α : Type} {E : El α} {w : World} {base base' : Nat} {e : TypeId} {v : Value} {l : List α} (h : OwnE E w base e v l) (hb : base' ≤ base) : OwnE E w base' e v l := by
 obtain ⟨h1, h2 | ⟨g, cap, cur, hv, hg, r⟩⟩ := h
 ·exact ⟨h1, .inl h2⟩
 ·exact ⟨h1, .inr ⟨g, cap, cur, hv, Nat.le_trans hb hg, r⟩⟩
end Go.Dfl
namespace Go.Dfl
section
variable {P : Program} {ops : Array Oper} {Q : Exit → Act → World → Prop} {md : Region.Mode} {S : World → Prop} {n : Nat}
def wpAnyT (P : Program) (md : Region.Mode) (ops : Array Oper) (Q : Exit → Act → World → Prop) (S : World → Prop) (n : Nat) : Nat → Array Bool → Act → World → Prop
 | 0, listed, a, w => Region.ready md ops listed = [] ∧ Q .normal a w
 | fuel + 1, listed, a, w =>
   (Region.ready md ops listed = [] → Q .normal a w) ∧
   ∀ i ∈ Region.ready md ops listed, wpOp P ops Q i (fun a' w' => (i < n → S w') ∧ wpAnyT P md ops Q S n fuel (listed.setIfInBounds i true) a' w') a w
theorem wpAny_of_T : ∀ (fuel : Nat) (listed : Array Bool) (a : Act) (w : World), wpAnyT P md ops Q S n fuel listed a w → wpAny P md ops Q fuel listed a w
 | 0, _, _, _, h => h
 | fuel + 1, _, _, _, h => ⟨h.1, fun i hi => wpOp_mono (fun a' w' h' => wpAny_of_T fuel _ a' w' h'.2) (h.2 i hi)⟩
theorem wpAnyT_first {i : Nat} {oi : Oper} {v : Value} (hi : ops[i]? = some oi) (hsel : ∀ (j : Nat) (o : Oper) cs b, ops[j]? = some o → o.op ≠ .select cs b)
  (hQ : ∀ c a w, Q (.panic c) (a.put oi.dst v) w → Q (.panic c) a w)
  (hs : Region.sinkB md ops n = true) (hc : Region.chainB md ops n = true) (hn : n < ops.size) (hin : i < n) :
  ∀ (fuel : Nat) (listed : Array Bool) (a : Act) (w : World), HeadInv md ops n listed →
   (∀ j oj, ops[j]? = some oj → j ≠ i → listed.getD j true = false → (∀ e ∈ oj.after, Region.binds md e = true → e.on ≠ i) → oi.apart ops oj = true) →
   i ∈ Region.ready md ops listed → YieldsIf P ops S oi v a → S w →
   wpAnyT P md ops Q S n fuel (listed.setIfInBounds i true) (a.put oi.dst v) w → wpAnyT P md ops Q S n (fuel + 1) listed a w := by
 intro fuel
 induction fuel with
 | zero =>
   intro listed a w _ _ hr hy hS H
   refine ⟨fun h => (by rw [h] at hr; cases hr), fun j hj => ?_⟩
   by_cases hji : j = i
   ·subst hji; exact hy.wpOp hi hS ⟨fun _ => hS, H⟩
   ·have := ready_mono hj hji
    rw [H.1] at this
    cases this
 | succ fuel ih =>
   intro listed a w inv hfree hr hy hS H
   refine ⟨fun h => (by rw [h] at hr; cases hr), fun j hj => ?_⟩
   by_cases hji : j = i
   ·subst hji; exact hy.wpOp hi hS ⟨fun _ => hS, H⟩
   ·have hun := (mem_ready.1 hr).1
    have hjn : j < n := by
     rcases Nat.lt_or_ge j n with h | h
     ·exact h
     ·exact absurd hj (tail_waits hs hc hn inv _ i rfl hin hun j h)
    have h1 := H.2 j (ready_mono hj hji)
    obtain ⟨hjun, oj, hoj, hall⟩ := mem_ready.1 hj
    have hnot : ∀ e ∈ oj.after, Region.binds md e = true → e.on ≠ i := fun e he hb heq => by
     have h1 := hall e he hb
     rw [heq, getD_both hun] at h1
     cases h1
    have h2 := wpOp_putIf hoj (hfree j oj hoj hji hjun hnot) (fun cs b => hsel i oi cs b hi) (fun cs b => hsel j oj cs b hoj) hQ hy h1
    have hfree' : ∀ k ok, ops[k]? = some ok → k ≠ i → (listed.setIfInBounds j true).getD k true = false →
      (∀ e ∈ ok.after, Region.binds md e = true → e.on ≠ i) → oi.apart ops ok = true := fun k ok hk hki hun hno => by
     refine hfree k ok hk hki ?_ hno
     by_cases hjk : j = k
     ·subst hjk; exact hjun
     ·rw [getD_set_ne true hjk] at hun; exact hun
    refine wpOp_mono (fun a' w' h3 => ⟨h3.2.1, ih (listed.setIfInBounds j true) a' w' (inv.set hj hjn) hfree' (ready_mono hr (Ne.symm hji)) h3.1 (h3.2.1 hjn) ?_⟩) h2
    rw [Array.setIfInBounds_comm _ _ hji]
    exact h3.2.2
def wpHeads (P : Program) (ops : Array Oper) (S : World → Prop) (K : Act → Prop) : List Nat → Act → Prop
 | [], a => K a
 | i :: is, a => ∃ o, ops[i]? = some o ∧ ∃ v, YieldsIf P ops S o v a ∧ wpHeads P ops S K is (a.put o.dst v)
theorem wpHeads_cons {K : Act → Prop} {i : Nat} {is : List Nat} {a : Act} {o : Oper} {v : Value} (ho : ops[i]? = some o) (hy : YieldsIf P ops S o v a) (h : wpHeads P ops S K is (a.put o.dst v)) : wpHeads P ops S K (i :: is) a :=
 ⟨o, ho, v, hy, h⟩
theorem wpHeads_nil {K : Act → Prop} {a : Act} (h : K a) : wpHeads P ops S K [] a := h
def ThenQ (K : Act → World → Prop) (Q : Exit → Act → World → Prop) : Exit → Act → World → Prop
 | .normal, a, w => K a w
 | .panic _, _, _ => False
 | e, a, w => Q e a w
theorem thenQ_mk {K : Act → World → Prop} {a : Act} {w : World} (h : K a w) : ThenQ K Q .normal a w := h
theorem tail_mk {S : World → Prop} {K : Act → World → Prop} {a : Act} {w : World} (h1 : S w) (h2 : K a w) : ThenQ (fun a w => S w ∧ K a w) Q .normal a w := ⟨h1, h2⟩
def wpTails (P : Program) (ops : Array Oper) (S : World → Prop) (Q : Exit → Act → World → Prop) : List Nat → Act → World → Prop
 | [], a, w => Q .normal a w
 | t :: ts, a, w => ∃ o, ops[t]? = some o ∧ wpList P ops (ThenQ (fun a' w' => (ts ≠ [] → S w') ∧ wpTails P ops S Q ts a' w') Q) [o] a w
theorem wpTails_cons {t t2 : Nat} {ts : List Nat} {a : Act} {w : World} {o : Oper} (ho : ops[t]? = some o) (h : wpList P ops (ThenQ (fun a' w' => S w' ∧ wpTails P ops S Q (t2 :: ts) a' w') Q) [o] a w) : wpTails P ops S Q (t :: t2 :: ts) a w := by
 refine ⟨o, ho, ?_⟩
 have e : (fun (a' : Act) (w' : World) => ((t2 :: ts) ≠ [] → S w') ∧ wpTails P ops S Q (t2 :: ts) a' w') = (fun a' w' => S w' ∧ wpTails P ops S Q (t2 :: ts) a' w') := by
  funext a' w'; simp
 rw [e]; exact h
theorem wpTails_one {t : Nat} {a : Act} {w : World} {o : Oper} (ho : ops[t]? = some o) (h : wpList P ops (ThenQ (fun a' w' => Q .normal a' w') Q) [o] a w) : wpTails P ops S Q [t] a w := by
 refine ⟨o, ho, ?_⟩
 have e : (fun (a' : Act) (w' : World) => (([] : List Nat) ≠ [] → S w') ∧ wpTails P ops S Q [] a' w') = (fun a' w' => Q .normal a' w') := by
  funext a' w'; simp [wpTails]
 rw [e]; exact h
theorem Oper.wp_monoQ {o : Oper} {a : Act} {w : World} {K : Act → World → Prop} {Q Q' : Exit → Act → World → Prop} (hp : ∀ c a w, Q (.panic c) a w → Q' (.panic c) a w) (hl : LetsOut Q → LetsOut Q')
  (hh : o.wp P a w K Q) : o.wp P a w K Q' := by
 unfold Oper.wp at *
 generalize (execOp a.eval o).run P w = r at *
 cases r with
 | ok n w' =>
   cases n <;> simp only [Oper.upon] at hh ⊢ <;>
    first
     | exact hh
     | exact Calls.mono hh (fun e w'' he => by cases e <;> first | exact he | exact hp _ _ _ he | exact hl he)
 | halt x w' => cases x <;> simp only [Oper.upon] at hh ⊢ <;> first | exact hh | exact hp _ _ _ hh
theorem wpOp_of_then {i : Nat} {o : Oper} {K : Act → World → Prop} {a : Act} {w : World} (ho : ops[i]? = some o) (h : wpList P ops (ThenQ K Q) [o] a w) : wpOp P ops (NoPanic Q) i K a w := by
 unfold wpOp
 simp only [ho]
 unfold wpList at h
 have hl : LetsOut (ThenQ K Q) → LetsOut (NoPanic Q) := fun ⟨a, w, h⟩ => ⟨a, w, h⟩
 split
 ·rename_i hw
  rw [if_pos hw] at h
  rcases h with h | ⟨h1, h2⟩
  ·exact .inl (Oper.wp_monoQ (fun c a w h => by cases h) hl (Oper.wp_mono (fun a' w' h' => h') h))
  ·exact .inr ⟨h1, hl h2⟩
 ·rename_i hw
  rw [if_neg hw] at h
  exact h
def tailB (ops : Array Oper) : List Nat → Array Bool → Bool
 | [], listed => (Region.ready .any ops listed).isEmpty
 | t :: ts, listed => decide (Region.ready .any ops listed = [t]) && (!ts.isEmpty || decide (t + 1 = ops.size)) && tailB ops ts (listed.setIfInBounds t true)
def headB (ops : Array Oper) (ts : List Nat) : List Nat → Array Bool → Bool
 | [], listed => tailB ops ts listed
 | i :: is, listed => decide (i + 1 < ops.size) && (Region.ready .any ops listed).contains i && Region.free .any ops listed i && headB ops ts is (listed.setIfInBounds i true)
def mixB (ops : Array Oper) (hs ts : List Nat) : Bool :=
 Region.noSelect ops && decide (0 < ops.size) && Region.sinkB .any ops (ops.size - 1) && headB ops ts hs (Array.replicate ops.size false)
theorem wpAnyT_tails : ∀ (ts : List Nat) (listed : Array Bool) (a : Act) (w : World), tailB ops ts listed = true → wpTails P ops S Q ts a w →
  wpAnyT P .any ops (NoPanic Q) S (ops.size - 1) ts.length listed a w
 | [], listed, a, w, hB, h => ⟨by simpa [tailB] using hB, h⟩
 | t :: ts, listed, a, w, hB, h => by
   simp only [tailB, Bool.and_eq_true, decide_eq_true_eq] at hB
   obtain ⟨⟨hr, hl⟩, hB⟩ := hB
   obtain ⟨o, ho, h⟩ := h
   refine ⟨fun h0 => (by rw [hr] at h0; cases h0), fun i hi => ?_⟩
   rw [hr] at hi
   obtain rfl : i = t := by simpa using hi
   refine wpOp_mono (fun a' w' h' => ⟨fun hlt => ?_, wpAnyT_tails ts _ a' w' hB h'.2⟩) (wpOp_of_then ho h)
   refine h'.1 fun e => ?_
   subst e
   simp at hl
   omega
theorem wpAnyT_heads {ts : List Nat} (hsel : Region.noSelect ops = true) (hs : Region.sinkB .any ops (ops.size - 1) = true) (hn : 0 < ops.size) : ∀ (is : List Nat) (listed : Array Bool) (a : Act) (w : World), HeadInv .any ops (ops.size - 1) listed →
  headB ops ts is listed = true → S w → wpHeads P ops S (fun a' => wpTails P ops S Q ts a' w) is a →
  wpAnyT P .any ops (NoPanic Q) S (ops.size - 1) (is.length + ts.length) listed a w
 | [], listed, a, w, _, hB, _, h => by
   rw [List.length_nil, Nat.zero_add]
   exact wpAnyT_tails ts listed a w hB h
 | i :: is, listed, a, w, inv, hB, hS, h => by
   simp only [headB, Bool.and_eq_true, decide_eq_true_eq] at hB
   obtain ⟨⟨⟨hi, hr⟩, hf⟩, hB⟩ := hB
   obtain ⟨o, ho, v, hy, h⟩ := h
   have hr' : i ∈ Region.ready .any ops listed := by simpa using hr
   rw [List.length_cons, show is.length + 1 + ts.length = (is.length + ts.length) + 1 by omega]
   refine wpAnyT_first ho (Region.noSelect_spec hsel) (fun c a w h => h) hs ?_ (by omega) (by omega) _ listed a w inv (Region.free_spec ho hf) hr' hy hS (wpAnyT_heads hsel hs hn is _ _ w (inv.set hr' (by omega)) hB hS h)
   unfold Region.chainB
   rw [List.all_eq_true]
   intro t ht
   have := List.mem_range.1 ht
   simp; omega
theorem wp_region_mix {id : Nat} {a : Act} {w : World} {l : List Oper} (hs ts : List Nat) (S : World → Prop) (hm : P.follows .mixedOrders = true) (hB : mixB l.toArray hs ts = true) (hl : hs.length + ts.length = l.length) (hS : S w.drew)
  (h : wpHeads P l.toArray S (fun a' => wpTails P l.toArray S Q ts a' w.drew) hs a) : (Code.region id l.toArray true).wp P Q a w := by
 refine wp_region_noPanic (wp_region_any hm (wpAny_of_T (S := S) (n := l.toArray.size - 1) _ _ _ _ ?_))
 simp only [mixB, Bool.and_eq_true, decide_eq_true_eq] at hB
 obtain ⟨⟨⟨h1, h2⟩, h3⟩, h4⟩ := hB
 have inv0 : HeadInv .any l.toArray (l.toArray.size - 1) (Array.replicate l.toArray.size false) :=
  ⟨by simp, fun j oj _ hl => (by rw [getD_replicate_false] at hl; cases hl), fun t _ ht => getD_in (by simpa using ht) (getD_replicate_false _ _)⟩
 have := wpAnyT_heads (P := P) (Q := Q) (S := S) h1 h3 h2 hs _ a w.drew inv0 h4 hS h
 rw [hl] at this
 rw [show l.toArray.size = l.length by simp] at this ⊢
 exact this
end
end Go.Dfl
namespace Go.Dfl
open Go.Maps
section
variable {P : Program} {k e t : TypeId} {w w' : World} {b n : Nat} {l : List Value}
theorem plainElem_bool_inv {H : Type} {P : Program} {e : TypeId} (he : P.underlying e = some .bool) {v : Value} {z : DataW H × List MemPlace} (h : plainElem P e v = some z) : ∃ a, v = .bool a ∧ z = (.lit (.bool a), []) := by
 unfold plainElem at h
 rw [he] at h
 cases v <;> simp at h
 subst h
 exact ⟨_, rfl, rfl⟩
end
end Go.Dfl
namespace Go.Dfl
inductive Plan where
 | done : Plan
 | stop : Plan
 | take : Nat → Plan → Plan
 | alt : Nat → Plan → Plan → Plan
section
variable {P : Program} {ops : Array Oper} {Q : Exit → Act → World → Prop} {S : World → Prop}
def Plan.alts : Plan → List Nat
 | .alt i _ r => i :: r.alts
 | _ => []
def Plan.dep : Plan → Nat
 | .done => 0
 | .stop => 0
 | .take _ p => p.dep + 1
 | .alt _ p r => max (p.dep + 1) r.dep
def planB (ops : Array Oper) : Plan → Array Bool → Bool → Bool
 | .done, l, _ => (Region.ready .any ops l).isEmpty
 | .stop, _, c => c
 | .take i p, l, _ => (Region.ready .any ops l).contains i && Region.free .any ops l i && planB ops p (l.setIfInBounds i true) false
 | .alt i p r, l, c => (c || decide (Region.ready .any ops l = i :: r.alts)) && planB ops p (l.setIfInBounds i true) false && planB ops r l true
def planWp (P : Program) (ops : Array Oper) (S : World → Prop) (Q : Exit → Act → World → Prop) : Plan → Act → World → Prop
 | .done, a, w => Q .normal a w
 | .stop, _, _ => True
 | .take i p, a, w => ∃ o, ops[i]? = some o ∧ ∃ v, YieldsIf P ops S o v a ∧ planWp P ops S Q p (a.put o.dst v) w
 | .alt i p r, a, w => (∃ o, ops[i]? = some o ∧ wpList P ops (ThenQ (fun a' w' => S w' ∧ planWp P ops S Q p a' w') Q) [o] a w) ∧ planWp P ops S Q r a w
theorem plan_sound (hsel : Region.noSelect ops = true) : ∀ (p : Plan),
  (∀ (l : Array Bool) (a : Act) (w : World) (fuel : Nat), planB ops p l false = true → S w → planWp P ops S Q p a w → p.dep ≤ fuel → wpAnyH P .any ops (NoPanic Q) S fuel l a w) ∧
  (∀ (l : Array Bool) (a : Act) (w : World) (fuel : Nat), planB ops p l true = true → S w → planWp P ops S Q p a w → p.dep ≤ fuel + 1 → ∀ i ∈ p.alts, wpOp P ops (NoPanic Q) i (fun a' w' => S w' ∧ wpAnyH P .any ops (NoPanic Q) S fuel (l.setIfInBounds i true) a' w') a w)
 | .done => ⟨fun l a w fuel hB _ h _ => wpAnyH_done (Q := NoPanic Q) (by simpa [planB] using hB) h fuel, fun _ _ _ _ _ _ _ _ i hi => (nomatch hi)⟩
 | .stop => ⟨fun _ _ _ _ hB _ _ _ => (nomatch hB), fun _ _ _ _ _ _ _ _ i hi => (nomatch hi)⟩
 | .take i p => by
   refine ⟨fun l a w fuel hB hS h hd => ?_, fun _ _ _ _ _ _ _ _ i hi => (nomatch hi)⟩
   simp only [planB, Bool.and_eq_true] at hB
   obtain ⟨⟨hr, hf⟩, hB⟩ := hB
   obtain ⟨o, ho, v, hy, h⟩ := h
   simp only [Plan.dep] at hd
   obtain ⟨f, rfl⟩ : ∃ f, fuel = f + 1 := ⟨fuel - 1, by omega⟩
   exact wpAnyH_take ho hsel hf hr (fun c a w h => h) hy hS ((plan_sound hsel p).1 _ _ w f hB hS h (by omega))
 | .alt i p r => by
   have key : ∀ (l : Array Bool) (a : Act) (w : World) (fuel : Nat), planB ops p (l.setIfInBounds i true) false = true → planB ops r l true = true → S w → planWp P ops S Q (.alt i p r) a w → (Plan.alt i p r).dep ≤ fuel + 1 →
     ∀ j ∈ (Plan.alt i p r).alts, wpOp P ops (NoPanic Q) j (fun a' w' => S w' ∧ wpAnyH P .any ops (NoPanic Q) S fuel (l.setIfInBounds j true) a' w') a w := by
    intro l a w fuel hp hr hS h hd j hj
    obtain ⟨⟨o, ho, h1⟩, h2⟩ := h
    simp only [Plan.dep] at hd
    rcases List.mem_cons.1 hj with rfl | hj
    ·exact wpOp_mono (fun a' w' h' => ⟨h'.1, (plan_sound hsel p).1 _ a' w' fuel hp h'.1 h'.2 (by omega)⟩) (wpOp_of_then ho h1)
    ·exact (plan_sound hsel r).2 l a w fuel hr hS h2 (by omega) j hj
   refine ⟨fun l a w fuel hB hS h hd => ?_, fun l a w fuel hB hS h hd => ?_⟩
   ·simp only [planB, Bool.and_eq_true, Bool.false_or, decide_eq_true_eq] at hB
    obtain ⟨⟨hr, hp⟩, hB⟩ := hB
    obtain ⟨f, rfl⟩ : ∃ f, fuel = f + 1 := ⟨fuel - 1, by simp only [Plan.dep] at hd; omega⟩
    exact wpAnyH_all hr (by simp) (key l a w f hp hB hS h hd)
   ·simp only [planB, Bool.and_eq_true] at hB
    exact key l a w fuel hB.1.2 hB.2 hS h hd
theorem wp_region_plan {id : Nat} {a : Act} {w : World} {l : List Oper} (p : Plan) (S : World → Prop) (hm : P.follows .mixedOrders = true) (hsel : Region.noSelect l.toArray = true) (hB : planB l.toArray p (Array.replicate l.length false) false = true) (hd : decide (p.dep ≤ l.length) = true) (hS : S w.drew)
  (h : planWp P l.toArray S Q p a w.drew) : (Code.region id l.toArray true).wp P Q a w := by
 refine wp_region_noPanic (wp_region_held (S := S) hm ?_)
 rw [show l.toArray.size = l.length by simp]
 exact (plan_sound hsel p).1 _ a w.drew _ hB hS h (by simpa using hd)
theorem plan_take {i : Nat} {p : Plan} {a : Act} {w : World} {o : Oper} {v : Value} (ho : ops[i]? = some o) (hy : YieldsIf P ops S o v a) (h : planWp P ops S Q p (a.put o.dst v) w) : planWp P ops S Q (.take i p) a w := ⟨o, ho, v, hy, h⟩
theorem plan_alt {i : Nat} {p r : Plan} {a : Act} {w : World} {o : Oper} (ho : ops[i]? = some o) (h1 : wpList P ops (ThenQ (fun a' w' => S w' ∧ planWp P ops S Q p a' w') Q) [o] a w) (h2 : planWp P ops S Q r a w) : planWp P ops S Q (.alt i p r) a w := ⟨⟨o, ho, h1⟩, h2⟩
theorem plan_stop {a : Act} {w : World} : planWp P ops S Q .stop a w := trivial
theorem plan_done {a : Act} {w : World} (h : Q .normal a w) : planWp P ops S Q .done a w := h
end
end Go.Dfl
end
section
namespace Go.Dfl
open Go.RowKit
end Go.Dfl
namespace Go.Gra
def cmpI (x y : Int) : Int := if x < y then -1 else if y < x then 1 else 0
end Go.Gra
end
section
namespace Go.Gra
open Go.RowKit
def Grw (W Z : World) : Prop := ∃ q os, Z = Go.Sort.grow (W.drewN q) os
theorem gen_code {P : Program} {c : Code} {Q : Exit → Act → World → Prop} {a : Act} {w : World} (p : World → Prop) (hw : p w) (h : ∀ W, p W → Code.wp P c Q a W) : Code.wp P c Q a w := h w hw
theorem gen_calls {P : Program} {f : FuncId} {args : Array Value} {w : World} {Q : Ending → World → Prop} (p : World → Prop) (hw : p w) (h : ∀ W, p W → Calls P f args W Q) : Calls P f args w Q := h w hw
theorem Grw.refl (W : World) : Grw W W := ⟨0, #[], by simp; rfl⟩
theorem Grw.drewN {W Z : World} (h : Grw W Z) (n : Nat) : Grw W (Z.drewN n) := by
 obtain ⟨q, os, rfl⟩ := h
 exact ⟨q + n, os, by rw [← World.drewN_drewN]; rfl⟩
theorem Grw.drew {W Z : World} (h : Grw W Z) : Grw W Z.drew := h.drewN 1
theorem Grw.alloc {W Z : World} (h : Grw W Z) (o : Obj) : Grw W (Z.alloc o) := by
 obtain ⟨q, os, rfl⟩ := h
 exact ⟨q, os.push o, by rw [Go.Sort.alloc_eq_grow, Go.Sort.grow_grow, Array.append_singleton]⟩
end Go.Gra
namespace Go.Proofs.YtnklnklkblgnfaaGreatDoor
open Go.RowKit Go.Dfl Go.Gra
theorem sIntG : SliceOf Tryz.prog 77 3 (.int .i64 0) 1 8 := ⟨Tryz.underlying77, info_parts (P := Tryz.prog) (e := 3) (by kernel_rfl)⟩
theorem cmpI_any (x y : Int) (w : World) : Calls Tryz.prog 17 #[.int .i64 x, .int .i64 y] w fun e w' => e = .returned (.int .i64 (cmpI x y)) ∧ w' = w := by
 have q1 : (x != x) = false := by simp
 have q2 : (y != y) = false := by simp
 by_cases h1 : x < y
 ·go_enter Tryz.func17, Tryz.ntmps17
  go_wp2
  go_ret
  exact ⟨ret_int (by simp [cmpI, h1]), rfl⟩
 ·by_cases h2 : y < x
  ·go_enter Tryz.func17, Tryz.ntmps17
   go_wp2
   go_ret
   exact ⟨ret_int (by simp [cmpI, h1, h2]), rfl⟩
  ·go_enter Tryz.func17, Tryz.ntmps17
   go_wp2
   go_ret
   exact ⟨ret_int (by unfold cmpI; rw [if_neg (by omega), if_neg (by omega)]), rfl⟩
theorem cmpL_any (x y : Int) (w : World) : Calls Tryz.prog 26 #[.int .i64 x, .int .i64 y] w fun e w' => e = .returned (.int .i64 (cmpI x y)) ∧ w' = w := by
 have q1 : (x != x) = false := by simp
 have q2 : (y != y) = false := by simp
 by_cases h1 : x < y
 ·go_enter Tryz.func26, Tryz.ntmps26
  go_wp2
  go_ret
  exact ⟨ret_int (by simp [cmpI, h1]), rfl⟩
 ·by_cases h2 : y < x
  ·go_enter Tryz.func26, Tryz.ntmps26
   go_wp2
   go_ret
   exact ⟨ret_int (by simp [cmpI, h1, h2]), rfl⟩
  ·go_enter Tryz.func26, Tryz.ntmps26
   go_wp2
   go_ret
   exact ⟨ret_int (by unfold cmpI; rw [if_neg (by omega), if_neg (by omega)]), rfl⟩
def orI (l : List Int) : Int := (l.find? fun x => decide (x ≠ 0)).getD 0
theorem orI_first {l : List Int} {k : Nat} (h : k < l.length) (h0 : ∀ i, i < k → nth l i = 0) (h1 : nth l k ≠ 0) : orI l = nth l k := by
 unfold orI
 have : l.find? (fun x => decide (x ≠ 0)) = some (nth l k) := by
  rw [List.find?_eq_some_iff_getElem]
  refine ⟨by simpa using h1, k, h, (nth_eq _ _ h).symm, fun j hj => ?_⟩
  rw [← nth_eq l j (by omega), h0 j hj]; simp
 rw [this]; rfl
theorem orI_none {l : List Int} (h0 : ∀ i, i < l.length → nth l i = 0) : orI l = 0 := by
 unfold orI
 have : l.find? (fun x => decide (x ≠ 0)) = none := by
  rw [List.find?_eq_none]
  intro x hx
  obtain ⟨i, hi, rfl⟩ := mem_nth hx
  simp [h0 i hi]
 rw [this]; rfl
set_option maxHeartbeats 800000 in
theorem cmpOr_any (v : Value) (l : List Int) (w : World) (h : Ints w v l) :
  Calls Tryz.prog 16 #[v] w fun e w' => e = .returned (.int .i64 (orI l)) ∧ w' = w := by
 obtain ⟨a, cap, rfl, hm, hidx, hcell, _⟩ := h.out1 sIntG
 clear h
 go_enter Tryz.func16, Tryz.ntmps16
 go_wp2_with fail
 go_loopw [5, 8] (fun _ i wr => ∃ k : Nat, k ≤ l.length ∧ i = .int .i64 k ∧ wr = w ∧ Hid (∀ i, i < k → nth l i = 0)) (fun _ i _ => l.length - (intOf i).toNat)
 case atStart => exact ⟨0, by omega, rfl, rfl, fun i hi => by omega⟩
 case round =>
  obtain ⟨k, hk, rfl, rfl, hch⟩ := hrel
  by_cases hlt : k < l.length
  ·have hck := hcell k hlt
   by_cases h1 : nth l k = 0
   ·have hd : (nth l k != 0) = false := by simpa using h1
    have HX := Lib.hid h1
    clear h1
    go_wp2_with fail
    go_roundw
    case rel => exact ⟨k + 1, by omega, by go_num, by trivial, fun i hi => by
     by_cases e : i = k
     ·subst e; exact HX.out
     ·exact hch.out i (by omega)⟩
    case measure => simp [intOf]; omega
   ·have hd : (nth l k != 0) = true := by simpa using h1
    have HX := Lib.hid h1
    clear h1
    go_wp2_with fail
    go_ret
    exact ⟨ret_int (orI_first hlt hch.out HX.out).symm, rfl⟩
  ·obtain rfl : k = l.length := by omega
   go_wp2_with fail
   go_ret
   exact ⟨ret_int (orI_none hch.out).symm, rfl⟩
end Go.Proofs.YtnklnklkblgnfaaGreatDoor
end
section
namespace Go.Dfl
open Go.ChangeShapes Go.WideShapes Go.ChangeAt Go.RowKit Go.Deep
theorem cell_lt {w : World} {a : Addr} {v : Value} (h : w.cell? a = some v) : a.block < w.heap.size ∧ a.spot = none := by
 refine ⟨?_, World.cell?_spot h⟩
 unfold World.cell? at h
 split at h
 ·rename_i he; exact (Array.getElem?_eq_some_iff.1 he).1
 ·simp at h
theorem addr_none {x : Addr} (h : x.spot = none) (i : Nat) : x.add i = ⟨x.block, x.off + i, none⟩ := by
 obtain ⟨b, o, s⟩ := x
 simp at h; subst h
 simp [Addr.add]
section
variable {H : Type} {enc : TypeId × Value → H} {P : Program} {w : World} {base : Nat} {spare : Nat → Bool} {held : Bool}
end
end Go.Dfl
end
section
namespace Go.Dfl
open Go.ChangeShapes Go.WideShapes Go.ChangeAt Go.RowKit Go.Deep
open Go.Proofs.YtnklnklkblgnfaaGreatDoor.Rows (uptoBulk uptoBulkAll)
structure Vw (α : Type) where
 sz : Nat
 ok : World → List Value → α → Prop
 wt : α → Nat
 below : ∀ {w w' : World} {cs : List Value} {x : α}, ok w cs x → Below w.heap.size w w' → ok w' cs x
def inI (x : Int) : Prop := -9223372036854775808 ≤ x ∧ x ≤ 9223372036854775807
instance (x : Int) : Decidable (inI x) := by unfold inI; infer_instance
def vI : Vw Int := ⟨1, fun _ cs x => cs = [.int .i64 x] ∧ inI x, fun _ => 1, fun h _ => h⟩
def vS : Vw ByteArray := ⟨1, fun _ cs s => cs = [.string s] ∧ s.size ≤ maxLen, fun s => s.size + 1, fun h _ => h⟩
def vB : Vw Bool := ⟨1, fun _ cs b => cs = [.bool b], fun _ => 1, fun h _ => h⟩
section
variable {α : Type} [Inhabited α]
def InS (V : Vw α) (w : World) (v : Value) (l : List α) : Prop :=
 ∃ c : Nat → Nat → Value, Sliced w v l.length V.sz c ∧ ∀ i, i < l.length → V.ok w ((List.range V.sz).map (c i)) (nth l i)
theorem InS.below {V : Vw α} {w w' : World} {v : Value} {l : List α} (h : InS V w v l) (hb : Below w.heap.size w w') : InS V w' v l := by
 obtain ⟨c, h1, h2⟩ := h
 exact ⟨c, Sliced.below h1 hb, fun i hi => V.below (h2 i hi) hb⟩
theorem InS.nil (V : Vw α) (w : World) : InS V w (.slice none 0 0) ([] : List α) := ⟨fun _ _ => undef, ⟨none, 0, rfl, by simp, by unfold maxLen; omega, fun i hi => by simp at hi⟩, fun i hi => by simp at hi⟩
theorem InS.shape {V : Vw α} {w : World} {v : Value} {l : List α} (h : InS V w v l) : ∃ a c, v = .slice a l.length c := by
 obtain ⟨c, ⟨a, cap, rfl, -⟩, -⟩ := h
 exact ⟨a, cap, rfl⟩
def vL (V : Vw α) : Vw (List α) := ⟨1, fun w cs l => ∃ v, cs = [v] ∧ InS V w v l, fun l => (l.map V.wt).sum + 1, fun ⟨v, h1, h2⟩ hb => ⟨v, h1, h2.below hb⟩⟩
theorem InS.out {V : Vw α} {w : World} {v : Value} {l : List α} (h : InS V w v l) {P : Program} {t e : TypeId} {z : Value} {by8 : Nat} (ht : SliceOf P t e z V.sz by8) :
  ∃ a cap, v = .slice a l.length cap ∧ l.length ≤ 9223372036854775807 ∧
   (∀ x : Int, 0 ≤ x → x < l.length → ∀ W, (Instr.indexAt t (.slice a l.length cap) (.int .i64 x)).run P W = .ok (.pointer (some ⟨blk a, ofs a + x.toNat * V.sz, none⟩)) W) ∧
   ∀ i, i < l.length → blk a < w.heap.size ∧ ∃ cs : List Value, V.ok w cs (nth l i) ∧ ∀ W, Below w.heap.size w W → ∀ j, j < V.sz → W.cell? ⟨blk a, ofs a + i * V.sz + j, none⟩ = some (nth cs j) := by
 obtain ⟨c, ⟨a, cap, rfl, h1, h2, h3⟩, h4⟩ := h
 refine ⟨a, cap, rfl, by unfold maxLen at h2; omega, fun x h0 hl W => ?_, fun i hi => ⟨(h3 i hi).2.1, _, h4 i hi, fun W hb j hj => ?_⟩⟩
 ·exact run_indexAt_opt ht a l.length cap .i64 x h0 hl (h3 x.toNat (by omega)).1 W
 ·rw [hb.cell (p := ⟨blk a, ofs a + i * V.sz + j, none⟩) (h3 i hi).2.1, (h3 i hi).2.2 j hj, nth_eq _ _ (by simpa using hj)]
  simp
end
def Opens {α : Type} (P : Program) (t : TypeId) (V : Vw α) : Prop :=
 P.cellsOf t = V.sz ∧ ∀ (H : Type) (enc : TypeId × Value → H) (w : World) (base : Nat) (spare : Nat → Bool) (held : Bool) (n : Nat) (cs : List Value) (x : DataW H × List MemPlace), DataW.trod enc P w base spare held n t cs = some x → ∃ y, V.ok w cs y ∧ V.wt y ≤ uptoBulk x.1
section
variable {P : Program} {t e : TypeId}
theorem Opens.int (ht : P.underlying t = some (.int .i64)) (hc : P.cellsOf t = 1) : Opens P t vI := ⟨hc, fun H enc w base spare held n cs x h => by
 obtain ⟨y, e0, rfl, wy⟩ := DataW.trod_int ht h
 have b0 := bounds_i64 wy
 exact ⟨y, ⟨e0, by omega, by omega⟩, by simp [uptoBulk, vI]⟩⟩
theorem Opens.str (ht : P.underlying t = some .string) (hc : P.cellsOf t = 1) : Opens P t vS := ⟨hc, fun H enc w base spare held n cs x h => by
 obtain ⟨s, e0, rfl, hs⟩ := DataW.trod_string ht h
 exact ⟨s, ⟨e0, hs⟩, by rw [uptoBulk]; exact Nat.le_of_eq (by simp [vS])⟩⟩
theorem Opens.bool (ht : P.underlying t = some .bool) (hc : P.cellsOf t = 1) : Opens P t vB := ⟨hc, fun H enc w base spare held n cs x h => by
 obtain ⟨b, e0, rfl⟩ := DataW.trod_bool ht h
 exact ⟨b, e0, by simp [uptoBulk, vB]⟩⟩
theorem bulk_append {H : Type} : ∀ (a b : List (DataW H)), uptoBulkAll (a ++ b) = uptoBulkAll a + uptoBulkAll b
 | [], b => by simp [uptoBulkAll]
 | x :: a, b => by rw [List.cons_append, uptoBulkAll, uptoBulkAll, bulk_append a b]; omega
theorem choice1 {α : Type} [Inhabited α] (p : Nat → α → Prop) : ∀ n, (∀ i, i < n → ∃ x, p i x) → ∃ xs : List α, xs.length = n ∧ ∀ i, i < n → p i (nth xs i)
 | 0, _ => ⟨[], rfl, fun i hi => by omega⟩
 | n + 1, h => by
   obtain ⟨xs, h1, h3⟩ := choice1 p n fun i hi => h i (by omega)
   obtain ⟨x, h4⟩ := h n (by omega)
   refine ⟨xs ++ [x], by simp [h1], fun i hi => ?_⟩
   rw [nth_append]
   by_cases e : i < n
   ·rw [if_pos (by omega)]; exact h3 i e
   ·have : i = n := by omega
    subst this
    rw [if_neg (by omega), h1, Nat.sub_self]
    exact h4
theorem Opens.slice {α : Type} [Inhabited α] {V : Vw α} (h : Opens P e V) (hz : 0 < V.sz) (ht : P.underlying t = some (.slice e)) (hc : P.cellsOf t = 1) : Opens P t (vL V) := ⟨hc, fun H enc w base spare held n cs x hx => by
 obtain ⟨hsz, hop⟩ := h
 rcases open_slice ht hx with ⟨rfl, rfl⟩ | ⟨a, len, cap, m, n', D, Pl, rfl, -, hl, hm, hmm, rfl, hel⟩
 ·exact ⟨[], ⟨_, rfl, InS.nil V w⟩, by simp [vL, uptoBulk]⟩
 ·have hlm : len ≤ m := by rw [hmm]; split <;> omega
  obtain ⟨xs, hxl, hxs⟩ := choice1 (fun i (q : α × List Value) => V.ok w q.2 q.1 ∧ q.2.length = V.sz ∧ (∀ j, j < V.sz → w.cell? ((a.add (i * V.sz)).add j) = q.2[j]?) ∧ V.wt q.1 ≤ uptoBulk (D i)) len (fun i hi => by
   obtain ⟨cs', hcs, hx'⟩ := hel i (by omega)
   rw [hsz] at hcs
   obtain ⟨-, hlen, hcell⟩ := World.cells?_some hcs
   obtain ⟨y, hy, hwt⟩ := hop H enc w base spare held n' cs' _ hx'
   exact ⟨(y, cs'), hy, hlen, hcell, hwt⟩)
  have hsp : 0 < len → a.spot = none := fun h0 => by
   obtain ⟨-, k2, k3, -⟩ := hxs 0 h0
   have h9 := k3 0 hz
   rw [List.getElem?_eq_getElem (by omega)] at h9
   have h8 := (cell_lt h9).2
   obtain ⟨b, o, s⟩ := a
   simp [Addr.add] at h8
   exact h8
  have key : ∀ i, i < len → ∀ j, j < V.sz → w.cell? ⟨a.block, a.off + i * V.sz + j, none⟩ = (nth xs i).2[j]? := fun i hi j hj => by
   have h9 := (hxs i hi).2.2.1 j hj
   rw [addr_none (hsp (by omega))] at h9
   rw [addr_none (x := ⟨a.block, a.off + i * V.sz, none⟩) rfl] at h9
   exact h9
  have hsum : ∀ k, k ≤ len → (((xs.take k).map (·.1)).map V.wt).sum ≤ uptoBulkAll ((List.range k).map D) := fun k => by
   induction k with
   | zero => intro _; simp
   | succ k ih =>
     intro hk
     have h9 := ih (by omega)
     have h8 := (hxs k (by omega)).2.2.2
     rw [take_snoc _ _ (by omega), List.range_succ, List.map_append, List.map_append, List.sum_append, List.map_append, bulk_append]
     simp [uptoBulkAll]
     simp at h9
     omega
  have hsum := hsum len (Nat.le_refl _)
  rw [show xs.take len = xs by rw [← hxl]; exact List.take_length] at hsum
  refine ⟨xs.map (·.1), ⟨_, rfl, fun i j => nth (nth xs i).2 j, ⟨some a, cap, by rw [List.length_map, hxl], by rw [List.length_map]; omega, hm, ?_⟩, ?_⟩, ?_⟩
  ·intro i hi
   rw [List.length_map, hxl] at hi
   have hsn := hsp (by omega)
   refine ⟨by obtain ⟨b, o, s⟩ := a; simp at hsn; subst hsn; rfl, ?_, fun j hj => ?_⟩
   ·have h9 := key i hi 0 hz
    rw [List.getElem?_eq_getElem (by rw [(hxs i hi).2.1]; exact hz)] at h9
    exact (cell_lt h9).1
   ·show w.cell? ⟨a.block, a.off + i * V.sz + j, none⟩ = _
    rw [key i hi j hj, List.getElem?_eq_getElem (by rw [(hxs i hi).2.1]; exact hj)]
    exact congrArg some (nth_eq (nth xs i).2 j (by rw [(hxs i hi).2.1]; exact hj)).symm
  ·intro i hi
   rw [List.length_map, hxl] at hi
   obtain ⟨k1, k2, -⟩ := hxs i hi
   have e1 : (List.range V.sz).map (fun j => nth (nth xs i).2 j) = (nth xs i).2 := by
    refine List.ext_getElem (by simp [k2]) fun j hj hj2 => ?_
    rw [List.getElem_map, List.getElem_range]
    exact nth_eq (nth xs i).2 j hj2
   rw [e1, nth_eq (xs.map (·.1)) i (by rw [List.length_map]; omega), List.getElem_map, ← nth_eq xs i (by omega)]
   exact k1
  ·show ((xs.map (·.1)).map V.wt).sum + 1 ≤ uptoBulk (DataW.slice _ _)
   rw [uptoBulk]; omega⟩
theorem Opens.agg {α : Type} {V : Vw α} {H : Type} {enc : TypeId × Value → H} {w : World} {base : Nat} {spare : Nat → Bool} {held : Bool} {c : Array Value} {d : DataW H} {p : List MemPlace} (h : Opens P t V) (ht : DataW.Trod enc P w base spare held t (.agg c) d p) : ∃ y, V.ok w c.toList y ∧ V.wt y ≤ uptoBulk d := by
 obtain ⟨f, hf⟩ := ht
 exact h.2 H enc w base spare held f c.toList (d, p) hf
theorem Opens.sl {α : Type} {V : Vw α} {H : Type} {enc : TypeId × Value → H} {w : World} {base : Nat} {spare : Nat → Bool} {held : Bool} {a : Option Addr} {len cap : Nat} {d : DataW H} {p : List MemPlace} (h : Opens P t V) (ht : DataW.Trod enc P w base spare held t (.slice a len cap) d p) : ∃ y, V.ok w [.slice a len cap] y ∧ V.wt y ≤ uptoBulk d := by
 obtain ⟨f, hf⟩ := ht
 exact h.2 H enc w base spare held f [.slice a len cap] (d, p) hf
theorem Opens.fields {fs : Array Field} {H : Type} {enc : TypeId × Value → H} {w : World} {base : Nat} {spare : Nat → Bool} {held : Bool} {n : Nat} {cs : List Value} {x : DataW H × List MemPlace}
  (ht : P.underlying t = some (.struct fs)) (h : DataW.trod enc P w base spare held n t cs = some x) :
  cs.length = P.cellsOf t ∧ ∃ ds : List (DataW H), x.1 = .agg ds ∧ ds.length = fs.size ∧ ∀ (i : Nat) (f : Field), fs[i]? = some f → ∀ (α : Type) (V : Vw α), Opens P f.type V → ∃ y d, ds[i]? = some d ∧ V.ok w ((cs.drop f.offset).take V.sz) y ∧ V.wt y ≤ uptoBulk d := by
 obtain ⟨xs, n', -, rfl, hlen, hxs, hf⟩ := DataW.trod_struct ht h
 refine ⟨hlen, _, rfl, by rw [List.length_map, hxs], fun i f hi α V hV => ?_⟩
 have h9 := hf i f hi
 have hil : i < fs.size := (Array.getElem?_eq_some_iff.1 hi).1
 rw [List.getElem?_eq_getElem (by omega), hV.1] at h9
 obtain ⟨y, h1, h2⟩ := hV.2 H enc w base spare held n' _ _ h9
 exact ⟨y, _, by rw [List.getElem?_map, List.getElem?_eq_getElem (by omega)]; rfl, h1, h2⟩
end
end Go.Dfl
end
section
namespace Go.Dfl
structure STO {α : Type} (lt : α → α → Prop) : Prop where
 irrefl : ∀ a, ¬ lt a a
 trans : ∀ {a b c}, lt a b → lt b c → lt a c
 tri : ∀ a b, lt a b ∨ a = b ∨ lt b a
section
variable {α : Type} {lt : α → α → Prop}
theorem STO.asymm (h : STO lt) {a b : α} (x : lt a b) : ¬ lt b a := fun y => h.irrefl a (h.trans x y)
theorem STO.unique (h : STO lt) : ∀ {l m : List α}, l.Pairwise lt → m.Pairwise lt → (∀ x, x ∈ l ↔ x ∈ m) → l = m
 | [], [], _, _, _ => rfl
 | [], b :: m, _, _, h3 => absurd ((h3 b).2 (by simp)) (by simp)
 | a :: l, [], _, _, h3 => absurd ((h3 a).1 (by simp)) (by simp)
 | a :: l, b :: m, h1, h2, h3 => by
   rw [List.pairwise_cons] at h1 h2
   have hab : a = b := by
    have ha := (h3 a).1 (by simp)
    have hb := (h3 b).2 (by simp)
    rw [List.mem_cons] at ha hb
    rcases ha with e | ha
    ·exact e
    ·rcases hb with e | hb
     ·exact e.symm
     ·exact absurd (h2.1 _ ha) (h.asymm (h1.1 _ hb))
   subst hab
   rw [h.unique h1.2 h2.2 fun x => ?_]
   constructor
   ·intro hx
    have := (h3 x).1 (by simp [hx])
    rw [List.mem_cons] at this
    rcases this with e | e
    ·subst e; exact absurd (h1.1 _ hx) (h.irrefl _)
    ·exact e
   ·intro hx
    have := (h3 x).2 (by simp [hx])
    rw [List.mem_cons] at this
    rcases this with e | e
    ·subst e; exact absurd (h2.1 _ hx) (h.irrefl _)
    ·exact e
end
end Go.Dfl
namespace Go.Obs
open Go.Dfl (nth nth_mem mem_nth nth_eq nth_ext take_snoc)
structure Vl where
 k : Int
 n : Int
 s : Int
deriving Inhabited, DecidableEq
structure Ob where
 f : Int
 i : Int
 fr : Int
 c : Int
 vs : List Vl
deriving Inhabited
structure Ex where
 e : Int
 o : List Ob
deriving Inhabited
section
variable (o : List Ob)
end
def ptL (o : Ob) (k : Nat) : List (Int × Int × Int) := (List.range k).filterMap fun v => if (nth o.vs v).k = 3 then some (o.f, (v : Int), (nth o.vs v).s) else none
def inL (o : Ob) (k : Nat) : List (Int × Int × Int × Int) := (List.range k).filterMap fun v => if (nth o.vs v).k = 1 then some (o.f, o.i, (v : Int), (nth o.vs v).n) else none
theorem ptL_yes {o : Ob} {k : Nat} (h : (nth o.vs k).k = 3) : ptL o (k + 1) = ptL o k ++ [(o.f, (k : Int), (nth o.vs k).s)] := by
 unfold ptL; rw [List.range_succ, List.filterMap_append]; simp [h]
theorem ptL_no {o : Ob} {k : Nat} (h : ¬ (nth o.vs k).k = 3) : ptL o (k + 1) = ptL o k := by
 unfold ptL; rw [List.range_succ, List.filterMap_append]; simp [h]
theorem inL_yes {o : Ob} {k : Nat} (h : (nth o.vs k).k = 1) : inL o (k + 1) = inL o k ++ [(o.f, o.i, (k : Int), (nth o.vs k).n)] := by
 unfold inL; rw [List.range_succ, List.filterMap_append]; simp [h]
theorem inL_no {o : Ob} {k : Nat} (h : ¬ (nth o.vs k).k = 1) : inL o (k + 1) = inL o k := by
 unfold inL; rw [List.range_succ, List.filterMap_append]; simp [h]
section
variable {β : Type} (F : Ob → Nat → List β)
def upto (os : List Ob) (i k : Nat) : List β := ((os.take i).flatMap fun o => F o o.vs.length) ++ F (nth os i) k
theorem upto_next (os : List Ob) {i : Nat} (hi : i < os.length) (h0 : F (nth os (i + 1)) 0 = []) : upto F os (i + 1) 0 = upto F os i (nth os i).vs.length := by
 unfold upto
 rw [take_snoc _ _ hi, List.flatMap_append, h0]; simp
end
theorem ptL_zero (o : Ob) : ptL o 0 = [] := rfl
theorem inL_zero (o : Ob) : inL o 0 = [] := rfl
theorem ptL_len (o : Ob) (k : Nat) : (ptL o k).length ≤ k := Nat.le_trans (List.length_filterMap_le _ _) (by simp)
theorem inL_len (o : Ob) (k : Nat) : (inL o k).length ≤ k := Nat.le_trans (List.length_filterMap_le _ _) (by simp)
theorem upto_len {β : Type} {F : Ob → Nat → List β} (hF : ∀ o k, (F o k).length ≤ k) (os : List Ob) {i k : Nat} (hi : i < os.length) (hk : k ≤ (nth os i).vs.length) : (upto F os i k).length ≤ (os.map fun o => o.vs.length).sum := by
 have key : ∀ n, n ≤ os.length → ((os.take n).flatMap fun o => F o o.vs.length).length ≤ ((os.take n).map fun o => o.vs.length).sum := by
  intro n
  induction n with
  | zero => simp
  | succ n ih =>
    intro hn
    rw [take_snoc _ _ (by omega), List.flatMap_append, List.length_append, List.map_append, List.sum_append]
    have := ih (by omega)
    have := hF (nth os n) (nth os n).vs.length
    simp at *
    omega
 have h1 := key i (by omega)
 have h2 := hF (nth os i) k
 have h3 : ((os.take i).map fun o => o.vs.length).sum + (nth os i).vs.length ≤ (os.map fun o => o.vs.length).sum := by
  conv => rhs; rw [← List.take_append_drop i os, List.map_append, List.sum_append]
  have : os.drop i = nth os i :: os.drop (i + 1) := by rw [nth_eq _ _ hi]; exact (List.getElem_cons_drop hi).symm
  rw [this]
  simp
 unfold upto
 rw [List.length_append]
 omega
def lt3 (a b : Int × Int × Int) : Prop := a.1 < b.1 ∨ a.1 = b.1 ∧ (a.2.1 < b.2.1 ∨ a.2.1 = b.2.1 ∧ a.2.2 < b.2.2)
def lt4 (a b : Int × Int × Int × Int) : Prop := a.1 < b.1 ∨ a.1 = b.1 ∧ lt3 a.2 b.2
instance : DecidableRel lt3 := fun a b => by unfold lt3; infer_instance
instance : DecidableRel lt4 := fun a b => by unfold lt4; infer_instance
theorem sto3 : Go.Dfl.STO lt3 where
 irrefl a := by unfold lt3; omega
 trans := by intro a b c h1 h2; unfold lt3 at *; omega
 tri a b := by
  obtain ⟨a1, a2, a3⟩ := a
  obtain ⟨b1, b2, b3⟩ := b
  simp only [lt3, Prod.mk.injEq]
  omega
theorem sto4 : Go.Dfl.STO lt4 where
 irrefl a := by unfold lt4 lt3; omega
 trans := by intro a b c h1 h2; unfold lt4 lt3 at *; omega
 tri a b := by
  obtain ⟨a1, a2, a3, a4⟩ := a
  obtain ⟨b1, b2, b3, b4⟩ := b
  simp only [lt4, lt3, Prod.mk.injEq]
  omega
end Go.Obs
end
section
namespace Go.Proofs.YtnklnklkblgnfaaGreatDoor
open Go.RowKit Go.Dfl Go.Obs
open Go.Proofs.YtnklnklkblgnfaaGreatDoor.Rows (uptoBulk uptoBulkAll)
theorem own : ownKnob Tryz.prog.godebug = none := by kernel_rfl
theorem laidOut : laidOutB Tryz.prog = true := by kernel_rfl
def TruePost (w : World) (e : Ending) (w' : World) : Prop := e = .returned (.bool true) ∧ Below w.heap.size w w'
theorem qt_below {w w' : World} (h : Qt w w') : Below w.heap.size w w' := h.below _
theorem bel_trans {W A B : World} (h : Below W.heap.size W A) (k : Below A.heap.size A B) : Below W.heap.size W B := h.trans (k.mono h.size)
def vVal : Vw Vl := ⟨3, fun _ cs x => cs = [.int .i64 x.k, .int .i64 x.n, .int .i64 x.s] ∧ inI x.k ∧ inI x.n ∧ inI x.s, fun _ => 4, fun h _ => h⟩
def vOb : Vw Ob := ⟨5, fun w cs x => ∃ v, cs = [.int .i64 x.f, .int .i64 x.i, .int .i64 x.fr, .int .i64 x.c, v] ∧ (inI x.f ∧ inI x.i ∧ inI x.fr ∧ inI x.c) ∧ InS vVal w v x.vs, fun x => (vL vVal).wt x.vs + 5, fun ⟨v, h1, h2, h3⟩ hb => ⟨v, h1, h2, h3.below hb⟩⟩
theorem cI : Tryz.prog.cellsOf 3 = 1 := by kernel_rfl
theorem opens_int : Opens Tryz.prog 3 vI := Opens.int Tryz.underlying3 cI
theorem opens_int64 : Opens Tryz.prog 2 vI := Opens.int Tryz.underlying2 (by kernel_rfl)
end Go.Proofs.YtnklnklkblgnfaaGreatDoor
end
section
namespace Go.Proofs.YtnklnklkblgnfaaGreatDoor
open Go.RowKit Go.Dfl Go.Gra Go.Obs
theorem orI_cons (x : Int) (l : List Int) : orI (x :: l) = if x ≠ 0 then x else orI l := by
 unfold orI
 by_cases h : x = 0 <;> simp [h]
def cmp3 (a b : Int × Int × Int) : Int := orI [cmpI a.1 b.1, cmpI a.2.1 b.2.1, cmpI a.2.2 b.2.2]
def cmp4 (a b : Int × Int × Int × Int) : Int := orI [cmpI a.1 b.1, cmpI a.2.1 b.2.1, cmpI a.2.2.1 b.2.2.1, cmpI a.2.2.2 b.2.2.2]
theorem cmp3_neg (a b : Int × Int × Int) : cmp3 a b < 0 ↔ lt3 a b := by
 unfold cmp3
 rw [orI_cons, orI_cons, orI_cons]
 unfold cmpI lt3 orI
 simp only [List.find?_nil, Option.getD_none]
 repeat' split
 all_goals omega
theorem cmp4_neg (a b : Int × Int × Int × Int) : cmp4 a b < 0 ↔ lt4 a b := by
 unfold cmp4
 rw [orI_cons, orI_cons, orI_cons, orI_cons]
 unfold cmpI lt4 lt3 orI
 simp only [List.find?_nil, Option.getD_none]
 repeat' split
 all_goals omega
abbrev pv (x : Int × Int × Int) : Value := .agg #[.int .i64 x.1, .int .i64 x.2.1, .int .i64 x.2.2]
abbrev nv (x : Int × Int × Int × Int) : Value := .agg #[.int .i64 x.1, .int .i64 x.2.1, .int .i64 x.2.2.1, .int .i64 x.2.2.2]
set_option maxHeartbeats 1600000 in
theorem cmp3_any (a b : Int × Int × Int) (W : World) : Calls Tryz.prog 15 #[pv a, pv b] W fun e W' => e = .returned (.int .i64 (cmp3 a b)) ∧ Grw W W' := by
 obtain ⟨a1, a2, a3⟩ := a
 obtain ⟨b1, b2, b3⟩ := b
 have hg := ((Grw.refl W).alloc (.cells #[.int .i64 a1, .int .i64 a2, .int .i64 a3] 39)).alloc (.cells #[.int .i64 b1, .int .i64 b2, .int .i64 b3] 39)
 have c1 := cells_new (W := W) (cs := [.int .i64 a1, .int .i64 a2, .int .i64 a3]) (t := 39) rfl
 have c2 := cells_new (W := W.alloc (.cells #[.int .i64 a1, .int .i64 a2, .int .i64 a3] 39)) (cs := [.int .i64 b1, .int .i64 b2, .int .i64 b3]) (t := 39) rfl
 have ga := grownBy_alloc (W.alloc (.cells #[.int .i64 a1, .int .i64 a2, .int .i64 a3] 39)) (.cells #[.int .i64 b1, .int .i64 b2, .int .i64 b3] 39)
 have hs := And.intro (ga.cell (c1 0 _ rfl) (by simp)) (And.intro (ga.cell (c1 1 _ rfl) (by simp)) (And.intro (ga.cell (c1 2 _ rfl) (by simp)) (And.intro (c2 0 _ rfl) (And.intro (c2 1 _ rfl) (c2 2 _ rfl)))))
 rw [World.size_alloc] at hs
 have HS := Lib.hid (And.intro hg hs)
 clear hg c1 c2 ga hs
 go_enter Tryz.func15, Tryz.ntmps15
 go_wp2_with fail
 refine gen_code (fun Z => Grw W Z ∧ Z.cell? ⟨W.heap.size, 0, none⟩ = some (.int .i64 a1) ∧ Z.cell? ⟨W.heap.size, 1, none⟩ = some (.int .i64 a2) ∧ Z.cell? ⟨W.heap.size, 2, none⟩ = some (.int .i64 a3) ∧ Z.cell? ⟨W.heap.size + 1, 0, none⟩ = some (.int .i64 b1) ∧ Z.cell? ⟨W.heap.size + 1, 1, none⟩ = some (.int .i64 b2) ∧ Z.cell? ⟨W.heap.size + 1, 2, none⟩ = some (.int .i64 b3)) HS.out ?_
 rintro Z ⟨hz, z⟩
 obtain ⟨ba, hba⟩ : ∃ k, k = W.heap.size := ⟨_, rfl⟩
 obtain ⟨bb, hbb⟩ : ∃ k, k = W.heap.size + 1 := ⟨_, rfl⟩
 rw [← hbb, ← hba] at z
 rw [← hbb, ← hba]
 clear hba hbb HS
 refine wp_region_mix [0, 1, 2, 3, 5, 6, 7, 8, 10, 11, 12, 13] [4, 9, 14, 15, 16, 17] (fun w' => w'.cell? ⟨ba, 0, none⟩ = some (.int .i64 a1) ∧ w'.cell? ⟨ba, 1, none⟩ = some (.int .i64 a2) ∧ w'.cell? ⟨ba, 2, none⟩ = some (.int .i64 a3) ∧ w'.cell? ⟨bb, 0, none⟩ = some (.int .i64 b1) ∧ w'.cell? ⟨bb, 1, none⟩ = some (.int .i64 b2) ∧ w'.cell? ⟨bb, 2, none⟩ = some (.int .i64 b3)) (by kernel_rfl) (by kernel_rfl) (by kernel_rfl) z ?_
 have hz' := hz.drew
 have hs : Z.drew.cell? ⟨ba, 0, none⟩ = some (.int .i64 a1) ∧ Z.drew.cell? ⟨ba, 1, none⟩ = some (.int .i64 a2) ∧ Z.drew.cell? ⟨ba, 2, none⟩ = some (.int .i64 a3) ∧ Z.drew.cell? ⟨bb, 0, none⟩ = some (.int .i64 b1) ∧ Z.drew.cell? ⟨bb, 1, none⟩ = some (.int .i64 b2) ∧ Z.drew.cell? ⟨bb, 2, none⟩ = some (.int .i64 b3) := z
 generalize Z.drew = V at *
 have HV := Lib.hid (And.intro hz' hs)
 clear hz hz' hs z
 repeat (
  refine wpHeads_cons (v := ?_) rfl (Or.inl ⟨by rfl, ?_⟩) ?_
  rotate_left
  ·(intro W hW; obtain ⟨q1, q2, q3, q4, q5, q6⟩ := hW; go_simp; try with_reducible rfl)
  simp only [Act.put, List.setIfInBounds_toArray])
 refine wpHeads_nil ?_
 refine wpTails_cons rfl ?_
 go_wp2_with (go_at_call 17; refine (cmpI_any _ _ _).mono ?_; rintro e w' ⟨rfl, hw⟩; rw [hw]; clear hw w')
 refine tail_mk HV.out.2 ?_
 refine wpTails_cons rfl ?_
 go_wp2_with (go_at_call 17; refine (cmpI_any _ _ _).mono ?_; rintro e w' ⟨rfl, hw⟩; rw [hw]; clear hw w')
 refine tail_mk HV.out.2 ?_
 refine wpTails_cons rfl ?_
 go_wp2_with (go_at_call 17; refine (cmpI_any _ _ _).mono ?_; rintro e w' ⟨rfl, hw⟩; rw [hw]; clear hw w')
 refine tail_mk HV.out.2 ?_
 refine wpTails_cons rfl ?_
 have hoc : cmp3 (a1, a2, a3) (b1, b2, b3) = orI [cmpI a1 b1, cmpI a2 b2, cmpI a3 b3] := rfl
 obtain ⟨r1, hr1⟩ : ∃ r, r = cmpI a1 b1 := ⟨_, rfl⟩
 obtain ⟨r2, hr2⟩ : ∃ r, r = cmpI a2 b2 := ⟨_, rfl⟩
 obtain ⟨r3, hr3⟩ : ∃ r, r = cmpI a3 b3 := ⟨_, rfl⟩
 rw [← hr1, ← hr2, ← hr3] at hoc ⊢
 have HO := Lib.hid hoc
 clear hr1 hr2 hr3 hoc
 go_wp2_with fail
 have gA := grownBy_alloc V (.cells #[.int .i64 r1, .int .i64 r2, .int .i64 r3] 3)
 have s2 := And.intro (gA.cell HV.out.2.1 (by simp)) (And.intro (gA.cell HV.out.2.2.1 (by simp)) (And.intro (gA.cell HV.out.2.2.2.1 (by simp)) (And.intro (gA.cell HV.out.2.2.2.2.1 (by simp)) (And.intro (gA.cell HV.out.2.2.2.2.2.1 (by simp)) (gA.cell HV.out.2.2.2.2.2.2 (by simp))))))
 have H2 := Lib.hid s2
 have hI : Ints (V.alloc (.cells #[.int .i64 r1, .int .i64 r2, .int .i64 r3] 3)) (.slice (some ⟨V.heap.size, 0, none⟩) 3 3) [r1, r2, r3] := (show OwnI _ V.heap.size 3 (.slice (some ⟨V.heap.size, 0, none⟩) 3 3) [r1, r2, r3] from World.ownsRow_lit (size := 1) V #[.int .i64 r1, .int .i64 r2, .int .i64 r3] 3 (Nat.le_refl _) (by unfold maxLen; omega) rfl).lst
 have HI := Lib.hid hI
 clear gA s2 hI
 refine tail_mk H2.out ?_
 refine wpTails_cons rfl ?_
 go_wp2_with fail
 refine (cmpOr_any _ [r1, r2, r3] _ HI.out).mono ?_
 rintro e W9 ⟨rfl, rfl⟩
 go_wp2_with fail
 refine tail_mk H2.out ?_
 refine wpTails_one rfl ?_
 go_wp2_with fail
 refine thenQ_mk ?_
 go_wp2_with fail
 go_ret
 exact ⟨ret_int HO.out.symm, HV.out.1.alloc _⟩
set_option maxHeartbeats 1600000 in
theorem cmp4_any (a b : Int × Int × Int × Int) (W : World) : Calls Tryz.prog 25 #[nv a, nv b] W fun e W' => e = .returned (.int .i64 (cmp4 a b)) ∧ Grw W W' := by
 obtain ⟨a1, a2, a3, a4⟩ := a
 obtain ⟨b1, b2, b3, b4⟩ := b
 have hg := ((Grw.refl W).alloc (.cells #[.int .i64 a1, .int .i64 a2, .int .i64 a3, .int .i64 a4] 57)).alloc (.cells #[.int .i64 b1, .int .i64 b2, .int .i64 b3, .int .i64 b4] 57)
 have c1 := cells_new (W := W) (cs := [.int .i64 a1, .int .i64 a2, .int .i64 a3, .int .i64 a4]) (t := 57) rfl
 have c2 := cells_new (W := W.alloc (.cells #[.int .i64 a1, .int .i64 a2, .int .i64 a3, .int .i64 a4] 57)) (cs := [.int .i64 b1, .int .i64 b2, .int .i64 b3, .int .i64 b4]) (t := 57) rfl
 have ga := grownBy_alloc (W.alloc (.cells #[.int .i64 a1, .int .i64 a2, .int .i64 a3, .int .i64 a4] 57)) (.cells #[.int .i64 b1, .int .i64 b2, .int .i64 b3, .int .i64 b4] 57)
 have hs := And.intro (ga.cell (c1 0 _ rfl) (by simp)) (And.intro (ga.cell (c1 1 _ rfl) (by simp)) (And.intro (ga.cell (c1 2 _ rfl) (by simp)) (And.intro (ga.cell (c1 3 _ rfl) (by simp)) (And.intro (c2 0 _ rfl) (And.intro (c2 1 _ rfl) (And.intro (c2 2 _ rfl) (c2 3 _ rfl)))))))
 rw [World.size_alloc] at hs
 have HS := Lib.hid (And.intro hg hs)
 clear hg c1 c2 ga hs
 go_enter Tryz.func25, Tryz.ntmps25
 go_wp2_with fail
 refine gen_code (fun Z => Grw W Z ∧ Z.cell? ⟨W.heap.size, 0, none⟩ = some (.int .i64 a1) ∧ Z.cell? ⟨W.heap.size, 1, none⟩ = some (.int .i64 a2) ∧ Z.cell? ⟨W.heap.size, 2, none⟩ = some (.int .i64 a3) ∧ Z.cell? ⟨W.heap.size, 3, none⟩ = some (.int .i64 a4) ∧ Z.cell? ⟨W.heap.size + 1, 0, none⟩ = some (.int .i64 b1) ∧ Z.cell? ⟨W.heap.size + 1, 1, none⟩ = some (.int .i64 b2) ∧ Z.cell? ⟨W.heap.size + 1, 2, none⟩ = some (.int .i64 b3) ∧ Z.cell? ⟨W.heap.size + 1, 3, none⟩ = some (.int .i64 b4)) HS.out ?_
 rintro Z ⟨hz, z⟩
 obtain ⟨ba, hba⟩ : ∃ k, k = W.heap.size := ⟨_, rfl⟩
 obtain ⟨bb, hbb⟩ : ∃ k, k = W.heap.size + 1 := ⟨_, rfl⟩
 rw [← hbb, ← hba] at z
 rw [← hbb, ← hba]
 clear hba hbb HS
 refine wp_region_mix [0, 1, 2, 3, 5, 6, 7, 8, 10, 11, 12, 13, 15, 16, 17, 18] [4, 9, 14, 19, 20, 21, 22] (fun w' => w'.cell? ⟨ba, 0, none⟩ = some (.int .i64 a1) ∧ w'.cell? ⟨ba, 1, none⟩ = some (.int .i64 a2) ∧ w'.cell? ⟨ba, 2, none⟩ = some (.int .i64 a3) ∧ w'.cell? ⟨ba, 3, none⟩ = some (.int .i64 a4) ∧ w'.cell? ⟨bb, 0, none⟩ = some (.int .i64 b1) ∧ w'.cell? ⟨bb, 1, none⟩ = some (.int .i64 b2) ∧ w'.cell? ⟨bb, 2, none⟩ = some (.int .i64 b3) ∧ w'.cell? ⟨bb, 3, none⟩ = some (.int .i64 b4)) (by kernel_rfl) (by kernel_rfl) (by kernel_rfl) z ?_
 have hz' := hz.drew
 have hs : Z.drew.cell? ⟨ba, 0, none⟩ = some (.int .i64 a1) ∧ Z.drew.cell? ⟨ba, 1, none⟩ = some (.int .i64 a2) ∧ Z.drew.cell? ⟨ba, 2, none⟩ = some (.int .i64 a3) ∧ Z.drew.cell? ⟨ba, 3, none⟩ = some (.int .i64 a4) ∧ Z.drew.cell? ⟨bb, 0, none⟩ = some (.int .i64 b1) ∧ Z.drew.cell? ⟨bb, 1, none⟩ = some (.int .i64 b2) ∧ Z.drew.cell? ⟨bb, 2, none⟩ = some (.int .i64 b3) ∧ Z.drew.cell? ⟨bb, 3, none⟩ = some (.int .i64 b4) := z
 generalize Z.drew = V at *
 have HV := Lib.hid (And.intro hz' hs)
 clear hz hz' hs z
 repeat (
  refine wpHeads_cons (v := ?_) rfl (Or.inl ⟨by rfl, ?_⟩) ?_
  rotate_left
  ·(intro W hW; obtain ⟨q1, q2, q3, q4, q5, q6, q7, q8⟩ := hW; go_simp; try with_reducible rfl)
  simp only [Act.put, List.setIfInBounds_toArray])
 refine wpHeads_nil ?_
 refine wpTails_cons rfl ?_
 go_wp2_with (go_at_call 17; refine (cmpI_any _ _ _).mono ?_; rintro e w' ⟨rfl, hw⟩; rw [hw]; clear hw w')
 refine tail_mk HV.out.2 ?_
 refine wpTails_cons rfl ?_
 go_wp2_with (go_at_call 17; refine (cmpI_any _ _ _).mono ?_; rintro e w' ⟨rfl, hw⟩; rw [hw]; clear hw w')
 refine tail_mk HV.out.2 ?_
 refine wpTails_cons rfl ?_
 go_wp2_with (go_at_call 17; refine (cmpI_any _ _ _).mono ?_; rintro e w' ⟨rfl, hw⟩; rw [hw]; clear hw w')
 refine tail_mk HV.out.2 ?_
 refine wpTails_cons rfl ?_
 go_wp2_with (go_at_call 26; refine (cmpL_any _ _ _).mono ?_; rintro e w' ⟨rfl, hw⟩; rw [hw]; clear hw w')
 refine tail_mk HV.out.2 ?_
 refine wpTails_cons rfl ?_
 have hoc : cmp4 (a1, a2, a3, a4) (b1, b2, b3, b4) = orI [cmpI a1 b1, cmpI a2 b2, cmpI a3 b3, cmpI a4 b4] := rfl
 obtain ⟨r1, hr1⟩ : ∃ r, r = cmpI a1 b1 := ⟨_, rfl⟩
 obtain ⟨r2, hr2⟩ : ∃ r, r = cmpI a2 b2 := ⟨_, rfl⟩
 obtain ⟨r3, hr3⟩ : ∃ r, r = cmpI a3 b3 := ⟨_, rfl⟩
 obtain ⟨r4, hr4⟩ : ∃ r, r = cmpI a4 b4 := ⟨_, rfl⟩
 rw [← hr1, ← hr2, ← hr3, ← hr4] at hoc ⊢
 have HO := Lib.hid hoc
 clear hr1 hr2 hr3 hr4 hoc
 go_wp2_with fail
 have gA := grownBy_alloc V (.cells #[.int .i64 r1, .int .i64 r2, .int .i64 r3, .int .i64 r4] 3)
 have s2 := And.intro (gA.cell HV.out.2.1 (by simp)) (And.intro (gA.cell HV.out.2.2.1 (by simp)) (And.intro (gA.cell HV.out.2.2.2.1 (by simp)) (And.intro (gA.cell HV.out.2.2.2.2.1 (by simp)) (And.intro (gA.cell HV.out.2.2.2.2.2.1 (by simp)) (And.intro (gA.cell HV.out.2.2.2.2.2.2.1 (by simp)) (And.intro (gA.cell HV.out.2.2.2.2.2.2.2.1 (by simp)) (gA.cell HV.out.2.2.2.2.2.2.2.2 (by simp))))))))
 have H2 := Lib.hid s2
 have hI : Ints (V.alloc (.cells #[.int .i64 r1, .int .i64 r2, .int .i64 r3, .int .i64 r4] 3)) (.slice (some ⟨V.heap.size, 0, none⟩) 4 4) [r1, r2, r3, r4] := (show OwnI _ V.heap.size 3 (.slice (some ⟨V.heap.size, 0, none⟩) 4 4) [r1, r2, r3, r4] from World.ownsRow_lit (size := 1) V #[.int .i64 r1, .int .i64 r2, .int .i64 r3, .int .i64 r4] 4 (Nat.le_refl _) (by unfold maxLen; omega) rfl).lst
 have HI := Lib.hid hI
 clear gA s2 hI
 refine tail_mk H2.out ?_
 refine wpTails_cons rfl ?_
 go_wp2_with fail
 refine (cmpOr_any _ [r1, r2, r3, r4] _ HI.out).mono ?_
 rintro e W9 ⟨rfl, rfl⟩
 go_wp2_with fail
 refine tail_mk H2.out ?_
 refine wpTails_one rfl ?_
 go_wp2_with fail
 refine thenQ_mk ?_
 go_wp2_with fail
 go_ret
 exact ⟨ret_int HO.out.symm, HV.out.1.alloc _⟩
end Go.Proofs.YtnklnklkblgnfaaGreatDoor
end
section
namespace Go.Dfl
open Go.Maps Go.RowKit
def SetT (P : Program) (k e : TypeId) (w : World) (b n : Nat) (l : List Value) : Prop :=
 ∃ D : DataW Unit, w.ownsMap P k (plainElem P e) b n D ∧ ∀ key kl, keyOf P k key = some kl → (Maps.has D kl = true ↔ key ∈ l)
def RngT (P : Program) (k e : TypeId) (w : World) (b r n : Nat) (l seen : List Value) (cnt : Nat) : Prop :=
 ∃ (D : DataW Unit) (left : Lit → Bool), w.ranges P k (plainElem P e) b r n D left cnt ∧ ∀ key kl, keyOf P k key = some kl → (left kl = true ↔ key ∈ l ∧ key ∉ seen)
section
variable {P : Program} {k e t : TypeId} {w w' : World} {b r n : Nat} {l seen : List Value}
theorem SetT.made (P : Program) (k e : TypeId) (w : World) {B : Nat} (hB : B = w.heap.size) : SetT P k e (w.alloc (.map #[] 0)) B 0 [] := by
 subst hB
 exact ⟨_, World.ownsMap_made w P k _, fun key kl _ => by simp [Maps.has]⟩
theorem SetT.kept {row : Option Nat} (h : SetT P k e w b n l) (hg : w.grownBy w' row) (hne : some b ≠ row) : SetT P k e w' b n l := by
 obtain ⟨D, h1, h2⟩ := h
 exact ⟨D, h1.kept hg hne, h2⟩
theorem SetT.lt (h : SetT P k e w b n l) : b < w.heap.size := by obtain ⟨D, h1, -⟩ := h; exact h1.lt
theorem SetT.put (h : SetT P k e w b n l) (K : Keyed P k) (ht : P.underlying t = some (.map k e)) (he : P.underlying e = some .bool) (hn : n < maxLen) {key : Value} {kl : Lit} (hkey : keyOf P k key = some kl) :
  ∃ w', (Instr.mapUpdate t (.map (some b)) key (.bool true)).run P w = .ok () w' ∧ SetT P k e w' b (n + 1) (l ++ [key]) ∧ w.grownBy w' (some b) := by
 obtain ⟨D, h1, h2⟩ := h
 obtain ⟨w', hrun, how, hg⟩ := h1.update K ht hn hkey (plainElem_bool he true)
 refine ⟨w', hrun, ⟨_, how, fun key' kl' hk' => ?_⟩, hg⟩
 by_cases ek : kl' = kl
 ·subst ek
  obtain rfl := K.inj hk' hkey
  rw [has_put_same h1.isMap (K.key hkey)]; simp
 ·rw [has_put_other ek, h2 key' kl' hk']
  have : key' ≠ key := fun e' => ek (by rw [e', hkey] at hk'; simpa using hk'.symm)
  simp [this]
theorem SetT.len (h : SetT P k e w b n l) (ht : P.underlying t = some (.map k e)) : ∃ m : Nat, m ≤ n ∧ ∀ ty, (Builtin.len_ #[t] ty #[.map (some b)]).run P w = .ok (.int .i64 (m : Int)) w := by
 obtain ⟨D, h1, h2⟩ := h
 exact ⟨_, h1.size_le, fun ty => h1.len ht ty⟩
theorem wp_setPut {ops : Array Oper} {rest : List Oper} {o : Oper} {a : Act} {Q : Exit → Act → World → Prop} (h : SetT P k e w b n l) (hg : o.guard = none) (m x v : Operand) (hop : o.op = Op.mapUpdate t m x v) (K : Keyed P k) (ht : P.underlying t = some (.map k e)) (he : P.underlying e = some .bool)
  (hm : a.eval m = .map (some b)) (hv : a.eval v = .bool true) (hn : n < maxLen) (key : Value) (kl : Lit) (hx : a.eval x = key) (hkey : keyOf P k key = some kl)
  (hK : ∀ w', SetT P k e w' b (n + 1) (l ++ [key]) → w.grownBy w' (some b) → wpList P ops Q rest (a.put o.dst undef) w') : wpList P ops Q (o :: rest) a w := by
 refine wpList_plain hg fun K' hK' => ?_
 obtain ⟨w', hrun, r1, r2⟩ := h.put K ht he hn hkey
 unfold Oper.wp
 simp [execOp, hop, hm, hx, hv, hrun, Result.andThen]
 exact hK' _ _ (hK w' r1 r2)
theorem RngT.lt {cnt : Nat} (h : RngT P k e w b r n l seen cnt) : r < w.heap.size ∧ b < w.heap.size ∧ r ≠ b := by
 obtain ⟨D, left, h1, -⟩ := h
 exact ⟨h1.lt, h1.owns.lt, h1.ne⟩
theorem RngT.kept {cnt : Nat} {row : Option Nat} (h : RngT P k e w b r n l seen cnt) (hg : w.grownBy w' row) (hb : some b ≠ row) (hr : some r ≠ row) : RngT P k e w' b r n l seen cnt := by
 obtain ⟨D, left, h1, h2⟩ := h
 exact ⟨D, left, h1.kept hg hb hr, h2⟩
theorem RngT.left_eq {cnt : Nat} (h : RngT P k e w b r n l seen cnt) : w.rangeLeft b r = cnt := by
 obtain ⟨D, left, h1, h2⟩ := h
 exact h1.left_eq
theorem wp_setRange {ops : Array Oper} {rest : List Oper} {o : Oper} {a : Act} {Q : Exit → Act → World → Prop} (h : SetT P k e w b n l) (hg : o.guard = none) (m : Operand) (hop : o.op = Op.range t m) (K : Keyed P k) (ht : P.underlying t = some (.map k e)) (hm : a.eval m = .map (some b))
  (hK : ∀ w' cnt, RngT P k e w' b w.heap.size n l [] cnt → w.grownBy w' none → w'.heap.size = w.heap.size + 1 → wpList P ops Q rest (a.put o.dst (.pointer (some ⟨w.heap.size, 0, none⟩))) w') : wpList P ops Q (o :: rest) a w := by
 obtain ⟨D, h1, h2⟩ := h
 refine wpList_range_own w hg m t hop k e K ht (plainElem P e) b n D hm h1 fun w' q1 q2 q3 => hK w' _ ⟨D, _, q1, fun key kl hk => ?_⟩ q2 q3
 rw [h2 key kl hk]; simp
theorem wp_setNext {ops : Array Oper} {rest : List Oper} {o : Oper} {a : Act} {Q : Exit → Act → World → Prop} {cnt : Nat} (h : RngT P k e w b r n l seen cnt) (hg : o.guard = none) (it : Operand) (hop : o.op = Op.next it false) (K : Keyed P k) (he : P.underlying e = some .bool)
  (hit : a.eval it = .pointer (some ⟨r, 0, none⟩))
  (hDone : Hid (∀ key kl, keyOf P k key = some kl → key ∈ l → key ∈ seen) → wpList P ops Q rest (a.put o.dst (.tuple #[.bool false])) w)
  (hMore : ∀ (key : Value) (c : Bool) (w' : World), Hid (∃ cnt', key ∈ l ∧ key ∉ seen ∧ RngT P k e w' b r n l (seen ++ [key]) cnt' ∧ cnt' < cnt ∧ w.grownBy w' (some r) ∧ w'.heap.size = w.heap.size) →
   (Instr.entry (.pointer (some ⟨r, 0, none⟩))).run P w' = .ok (.tuple #[key, .bool c]) w' → wpList P ops Q rest (a.put o.dst (.tuple #[.bool true, key, .bool c])) w') :
  wpList P ops Q (o :: rest) a w := by
 obtain ⟨D, left, h1, h2⟩ := h
 refine wpList_next_ranges w hg it hop k K (plainElem P e) (fun x : Value => x) (fun c : Bool => Value.bool c) (fun key kl _ => ⟨key, rfl⟩) (fun v y hv => by obtain ⟨c, rfl, -⟩ := plainElem_bool_inv he hv; exact ⟨c, rfl⟩) b r n D left cnt hit h1 ?_ ?_
 ·intro _ hl
  refine hDone (Lib.hid fun key kl hk hm => ?_)
  false_or_by_contra
  rename_i hno
  have := (h2 key kl hk).2 ⟨hm, hno⟩
  rw [hl kl] at this; cases this
 ·intro x c kl y w1 cnt1 hkx hlx _ _ hrg hlt hgr hsz hen
  obtain ⟨hm, hn⟩ := (h2 x kl hkx).1 hlx
  refine hMore x c w1 (Lib.hid ⟨cnt1, hm, hn, ⟨D, _, hrg, fun key kl' hk' => ?_⟩, hlt, hgr, hsz⟩) hen
  rw [Bool.and_eq_true, h2 key kl' hk', List.mem_append, List.mem_singleton]
  by_cases ek : kl' = kl
  ·subst ek
   obtain rfl := K.inj hk' hkx
   rw [WideAt.sameKey_self (K.key hk')]; simp
  ·have hne : key ≠ x := fun e' => ek (by rw [e', hkx] at hk'; simpa using hk'.symm)
   have hs : kl'.sameKey kl = false := sameKey_ne ek
   rw [hs]; simp [hne]
end
theorem wp_setNext3 {P : Program} {k e : TypeId} {w : World} {b r n cnt : Nat} {ll ss : List (Int × Int × Int)} {ops : Array Oper} {rest : List Oper} {o : Oper} {a : Act} {Q : Exit → Act → World → Prop} (mk : Int × Int × Int → Value) (hmk : ∀ x1 x2 x3, mk (x1, x2, x3) = .agg #[.int .i64 x1, .int .i64 x2, .int .i64 x3])
  (h : RngT P k e w b r n (ll.map mk) (ss.map mk) cnt) (hg : o.guard = none) (it : Operand) (hop : o.op = Op.next it false) (K : Keyed P k) (he : P.underlying e = some .bool) (hit : a.eval it = .pointer (some ⟨r, 0, none⟩))
  (hDone : Hid (∀ x, (∃ kl, keyOf P k (mk x) = some kl) → x ∈ ll → mk x ∈ ss.map mk) → wpList P ops Q rest (a.put o.dst (.tuple #[.bool false])) w)
  (hMore : ∀ (x1 x2 x3 : Int) (c : Bool) (w' : World), Hid (∃ cnt', (x1, x2, x3) ∈ ll ∧ (x1, x2, x3) ∉ ss ∧ RngT P k e w' b r n (ll.map mk) ((ss ++ [(x1, x2, x3)]).map mk) cnt' ∧ cnt' < cnt ∧ w.grownBy w' (some r) ∧ w'.heap.size = w.heap.size) →
   (Instr.entry (.pointer (some ⟨r, 0, none⟩))).run P w' = .ok (.tuple #[.agg #[.int .i64 x1, .int .i64 x2, .int .i64 x3], .bool c]) w' → wpList P ops Q rest (a.put o.dst (.tuple #[.bool true, .agg #[.int .i64 x1, .int .i64 x2, .int .i64 x3], .bool c])) w') :
  wpList P ops Q (o :: rest) a w := by
 refine wp_setNext h hg it hop K he hit (fun hd => hDone (Lib.hid fun x ⟨kl, hk⟩ hm => hd.out _ kl hk (List.mem_map_of_mem hm))) (fun key c w' hh hen => ?_)
 obtain ⟨cnt', h1, h2, h3, h4⟩ := hh.out
 obtain ⟨⟨x1, x2, x3⟩, hx, rfl⟩ := List.mem_map.1 h1
 rw [hmk] at hen ⊢
 exact hMore x1 x2 x3 c w' (Lib.hid ⟨cnt', hx, fun hs => h2 (List.mem_map_of_mem hs), by rw [List.map_append]; exact h3, h4⟩) hen
theorem wp_setNext4 {P : Program} {k e : TypeId} {w : World} {b r n cnt : Nat} {ll ss : List (Int × Int × Int × Int)} {ops : Array Oper} {rest : List Oper} {o : Oper} {a : Act} {Q : Exit → Act → World → Prop} (mk : Int × Int × Int × Int → Value) (hmk : ∀ x1 x2 x3 x4, mk (x1, x2, x3, x4) = .agg #[.int .i64 x1, .int .i64 x2, .int .i64 x3, .int .i64 x4])
  (h : RngT P k e w b r n (ll.map mk) (ss.map mk) cnt) (hg : o.guard = none) (it : Operand) (hop : o.op = Op.next it false) (K : Keyed P k) (he : P.underlying e = some .bool) (hit : a.eval it = .pointer (some ⟨r, 0, none⟩))
  (hDone : Hid (∀ x, (∃ kl, keyOf P k (mk x) = some kl) → x ∈ ll → mk x ∈ ss.map mk) → wpList P ops Q rest (a.put o.dst (.tuple #[.bool false])) w)
  (hMore : ∀ (x1 x2 x3 x4 : Int) (c : Bool) (w' : World), Hid (∃ cnt', (x1, x2, x3, x4) ∈ ll ∧ (x1, x2, x3, x4) ∉ ss ∧ RngT P k e w' b r n (ll.map mk) ((ss ++ [(x1, x2, x3, x4)]).map mk) cnt' ∧ cnt' < cnt ∧ w.grownBy w' (some r) ∧ w'.heap.size = w.heap.size) →
   (Instr.entry (.pointer (some ⟨r, 0, none⟩))).run P w' = .ok (.tuple #[.agg #[.int .i64 x1, .int .i64 x2, .int .i64 x3, .int .i64 x4], .bool c]) w' → wpList P ops Q rest (a.put o.dst (.tuple #[.bool true, .agg #[.int .i64 x1, .int .i64 x2, .int .i64 x3, .int .i64 x4], .bool c])) w') :
  wpList P ops Q (o :: rest) a w := by
 refine wp_setNext h hg it hop K he hit (fun hd => hDone (Lib.hid fun x ⟨kl, hk⟩ hm => hd.out _ kl hk (List.mem_map_of_mem hm))) (fun key c w' hh hen => ?_)
 obtain ⟨cnt', h1, h2, h3, h4⟩ := hh.out
 obtain ⟨⟨x1, x2, x3, x4⟩, hx, rfl⟩ := List.mem_map.1 h1
 rw [hmk] at hen ⊢
 exact hMore x1 x2 x3 x4 c w' (Lib.hid ⟨cnt', hx, fun hs => h2 (List.mem_map_of_mem hs), by rw [List.map_append]; exact h3, h4⟩) hen
theorem wp_make0 {α : Type} {E : El α} {P : Program} {t e : TypeId} {z : Value} {by8 : Nat} (ht : SliceOf P t e z E.sz by8) (w : World) {ops : Array Oper} {rest : List Oper} {o : Oper} {a : Act} {Q : Exit → Act → World → Prop}
  (hg : o.guard = none) (l c : Operand) (hop : o.op = Op.makeSlice t l c) (kl kc : IntKind) (n : Nat) (hl : a.eval l = .int kl 0) (hc : a.eval c = .int kc (n : Int))
  (hb : by8 * n ≤ 281474976710656) (hm : n ≤ maxLen)
  (hK : ∀ w', OwnE E w' w.heap.size e (.slice (some ⟨w.heap.size, 0, none⟩) 0 n) [] → Below w.heap.size w w' → wpList P ops Q rest (a.put o.dst (.slice (some ⟨w.heap.size, 0, none⟩) 0 n)) w') :
  wpList P ops Q (o :: rest) a w := by
 obtain ⟨i, hi, hz0, hz1, hz2⟩ := ht.info
 refine wpList_plain hg fun K hK' => ?_
 have hrun := run_make (P := P) (w := w) t e i z ht.und hi hz0 kl kc 0 (n : Int) (by omega) (by omega) (by rw [hz2]; omega) (by unfold maxLen at hm; omega)
 simp only [Int.toNat_natCast, Int.toNat_zero] at hrun
 unfold Oper.wp
 simp [execOp, hop, hl, hc, hrun, Result.andThen]
 refine hK' _ _ (hK _ ⟨by simp, .inr ⟨w.heap.size, n, _, rfl, Nat.le_refl _, heap_alloc_new w _, by simp, hm, ?_, by simp⟩⟩ ((Below.refl _ _).alloc (Nat.le_refl _) _))
 rw [size_madeCells, hz1]
end Go.Dfl
end
section
namespace Go.Dfl
open Go.RowKit Go.Sort Go.Proofs
variable {α : Type} [Inhabited α] {E : El α}
theorem get!_any {γ : Type} {inst : Inhabited γ} (l : List γ) (i : Nat) (h : i < l.length) : l[i]! = l[i] := getElem!_pos l i h
theorem get!_toArray (l : List α) (i : Nat) (h : i < l.length) : l.toArray[i]! = nth l i := by
 rw [getElem!_pos _ i (by simpa using h), nth_eq _ _ h]; simp
theorem OwnE.holdsK {w : World} {base g cap n : Nat} {e : TypeId} {l : List α} (h : OwnE E w base e (.slice (some ⟨g, 0, none⟩) n cap) l) (hn : l.length = n) : HoldsK E.c E.sz w g 0 l.toArray := by
 subst hn
 intro j hj
 rw [size_flatK] at hj
 have hj' : j < l.length * E.sz := by simpa using hj
 have hi : j / E.sz < l.length := Nat.div_lt_of_lt_mul (by rw [Nat.mul_comm]; exact hj')
 have hr : j % E.sz < E.sz := Nat.mod_lt _ E.pos
 obtain ⟨a, c, he, -, -, h3⟩ := OwnE.sliced h
 simp only [Value.slice.injEq] at he
 obtain ⟨rfl, -, rfl⟩ := he
 obtain ⟨-, -, h4⟩ := h3 _ hi
 have h5 := h4 _ hr
 have e1 : blk (some (⟨g, 0, none⟩ : Addr)) = g := rfl
 have e2 : ofs (some (⟨g, 0, none⟩ : Addr)) = 0 := rfl
 rw [e1, e2, Nat.zero_add, show j / E.sz * E.sz + j % E.sz = j by rw [Nat.mul_comm]; exact Nat.div_add_mod j E.sz] at h5
 constructor
 ·rw [Nat.zero_add, h5, get_flatK _ _ _ _ (by simpa using hj'), get!_toArray _ _ hi]
  have hlen : j % E.sz < (E.c (nth l (j / E.sz))).length := by rw [E.len]; exact hr
  show some ((E.c (nth l (j / E.sz)))[j % E.sz]?.getD undef) = _
  rw [List.getElem?_eq_getElem hlen, get!_any (E.c (nth l (j / E.sz))) (j % E.sz) hlen]; rfl
 ·obtain ⟨h1, ⟨h2, -⟩ | ⟨g2, cap2, cur, hv, hg, hh, -⟩⟩ := h
  ·simp at h2
  ·simp only [Value.slice.injEq, Option.some.injEq, Addr.mk.injEq] at hv
   obtain ⟨⟨rfl, -⟩, -, rfl⟩ := hv
   simp [World.frozen?, hh]
theorem sortWorldK_heap (E : El α) (w : World) (g m : Nat) (d : Array α) (os : Array Obj) : ∃ f : Array Value → Array Value, (sortWorldK E.c E.sz w g 0 m d os).heap = (w.heap.modify g (onCells f)) ++ os ∧ ∀ c, (f c).size = c.size := ⟨_, rfl, fun c => by simp [putCells]⟩
theorem OwnE.sortK {w : World} {base g cap n : Nat} {e : TypeId} {l : List α} (h : OwnE E w base e (.slice (some ⟨g, 0, none⟩) n cap) l) (hn : l.length = n) (d : Array α) (hd : d.size = n) (m : Nat) (os : Array Obj) :
  OwnE E (sortWorldK E.c E.sz w g 0 m d os) base e (.slice (some ⟨g, 0, none⟩) n cap) d.toList ∧ w.grownBy (sortWorldK E.c E.sz w g 0 m d os) (some g) := by
 subst hn
 have hH := OwnE.holdsK h rfl
 obtain ⟨h1, ⟨h2, -⟩ | ⟨g2, cap2, cur, hv, hg, hh, hc, hm, hs, ht⟩⟩ := h
 ·simp at h2
 ·simp only [Value.slice.injEq, Option.some.injEq, Addr.mk.injEq] at hv
  obtain ⟨⟨rfl, -⟩, -, rfl⟩ := hv
  have hlt := (Array.getElem?_eq_some_iff.1 hh).1
  obtain ⟨f, hf, hfs⟩ := sortWorldK_heap E w g m d os
  have hheap : ∀ k, k < w.heap.size → (sortWorldK E.c E.sz w g 0 m d os).heap[k]? = if k = g then some (.cells (f cur) e (0, 0)) else w.heap[k]? := fun k hk => by
   rw [hf, Array.getElem?_append_left (by simpa using hk), Array.getElem?_modify]
   by_cases e2 : g = k
   ·subst e2
    rw [if_pos rfl, if_pos rfl, hh]; rfl
   ·rw [if_neg e2, if_neg (fun e3 => e2 e3.symm)]
  have hdt : d.toList.length = l.length := by rw [Array.length_toList, hd]
  refine ⟨⟨by rw [flat_len], .inr ⟨g, cap, f cur, by rw [hdt], hg, by rw [hheap g hlt, if_pos rfl], by rw [hdt]; exact hc, hm, by rw [hfs, hs], ?_⟩⟩, ⟨rfl, rfl, rfl, ?_, fun k hk hne => ?_⟩⟩
  ·rw [hdt]
   have hsz : l.length * E.sz ≤ cur.size := by rw [hs]; exact Nat.mul_le_mul_right _ hc
   have e9 : (putRowK E.c E.sz (Go.Sort.ahead w m) g 0 d).heap.size = w.heap.size := by unfold putRowK putRow mapBlock; simp
   have hH2 : HoldsK E.c E.sz (sortWorldK E.c E.sz w g 0 m d os) g 0 d := holdsK_grow _ _ _ _ _ _ _ (by rw [e9]; exact hlt) (holdsK_putRowK _ _ _ _ _ _ _ (holdsK_ahead _ _ _ _ _ _ _ hH) (by simpa using hd))
   refine List.ext_getElem? fun t => ?_
   by_cases htl : t < l.length * E.sz
   ·have hi : t / E.sz < l.length := Nat.div_lt_of_lt_mul (by rw [Nat.mul_comm]; exact htl)
    have hr : t % E.sz < E.sz := Nat.mod_lt _ E.pos
    have htm : t / E.sz * E.sz + t % E.sz = t := by rw [Nat.mul_comm]; exact Nat.div_add_mod t E.sz
    have hdl : t / E.sz < d.toList.length := by rw [hdt]; exact hi
    have hlen : t % E.sz < (E.c (nth d.toList (t / E.sz))).length := by rw [E.len]; exact hr
    have hR := flat_get E d.toList (t / E.sz) (t % E.sz) hdl hr
    rw [htm] at hR
    rw [hR, List.getElem?_take, if_pos htl, List.getElem?_eq_getElem hlen]
    have hcell := (hH2.cell (i := t / E.sz) (c := t % E.sz) (by rw [hd]; exact hi) hr).1
    have hdx : d[t / E.sz]! = nth d.toList (t / E.sz) := by
     rw [getElem!_pos d _ (by rw [hd]; exact hi), nth_eq _ _ hdl]; simp
    rw [Nat.zero_add, htm, hdx, get!_any (E.c (nth d.toList (t / E.sz))) (t % E.sz) hlen] at hcell
    have hg2 := hheap g hlt
    rw [if_pos rfl] at hg2
    rw [← hcell]
    simp [World.cell?, hg2]
   ·rw [List.getElem?_take, if_neg htl, List.getElem?_eq_none (by rw [flat_len, hdt]; omega)]
  ·rw [hf]; simp
  ·rw [hheap k hk, if_neg (fun e3 => hne (by rw [e3]))]
end Go.Dfl
end
section
namespace Go.Proofs.YtnklnklkblgnfaaGreatDoor
open Go.Shelf
def sortP_ren : Go.Shelf.Ren := ⟨fun | 6 => 36 | 15 => 58 | 14 => 57 | 28 => 80 | 29 => 81 | 20 => 72 | 21 => 73 | 22 => 74 | 23 => 75 | 24 => 76 | 25 => 77 | 26 => 78 | 27 => 79 | 46 => 116 | 47 => 117 | 48 => 118 | 49 => 119 | 50 => 120 | 57 => 143 | n => n, fun | 22 => 36 | 24 => 39 | 25 => 75 | 3 => 3 | 39 => 137 | 0 => 0 | 53 => 163 | 55 => 165 | 4 => 4 | 46 => 156 | 45 => 155 | 50 => 160 | 5 => 5 | 9 => 9 | 66 => 189 | 70 => 193 | 76 => 203 | 77 => 204 | n => n, fun | n => n⟩
theorem sortP : Go.Proofs.SlLaysF0.n6 Tryz.prog sortP_ren := {
 mixed := by kernel_rfl
 f6 := ⟨Tryz.f36.name, by decide, Tryz.func36.trans (congrArg some (by kernel_rfl))⟩
 f14 := ⟨Tryz.f57.name, by decide, Tryz.func57.trans (congrArg some (by kernel_rfl))⟩
 f15 := Tryz.func58.trans (congrArg some (by kernel_rfl))
 f20 := ⟨Tryz.f72.name, by decide, Tryz.func72.trans (congrArg some (by kernel_rfl))⟩
 f21 := ⟨Tryz.f73.name, by decide, Tryz.func73.trans (congrArg some (by kernel_rfl))⟩
 f22 := ⟨Tryz.f74.name, by decide, Tryz.func74.trans (congrArg some (by kernel_rfl))⟩
 f23 := ⟨Tryz.f75.name, by decide, Tryz.func75.trans (congrArg some (by kernel_rfl))⟩
 f24 := ⟨Tryz.f76.name, by decide, Tryz.func76.trans (congrArg some (by kernel_rfl))⟩
 f25 := ⟨Tryz.f77.name, by decide, Tryz.func77.trans (congrArg some (by kernel_rfl))⟩
 f26 := ⟨Tryz.f78.name, by decide, Tryz.func78.trans (congrArg some (by kernel_rfl))⟩
 f27 := ⟨Tryz.f79.name, by decide, Tryz.func79.trans (congrArg some (by kernel_rfl))⟩
 f28 := Tryz.func80.trans (congrArg some (by kernel_rfl))
 f29 := Tryz.func81.trans (congrArg some (by kernel_rfl))
 f46 := ⟨Tryz.f116.name, by decide, Tryz.func116.trans (congrArg some (by kernel_rfl))⟩
 f47 := Tryz.func117.trans (congrArg some (by kernel_rfl))
 f48 := Tryz.func118.trans (congrArg some (by kernel_rfl))
 f49 := ⟨Tryz.f119.name, by decide, Tryz.func119.trans (congrArg some (by kernel_rfl))⟩
 f50 := ⟨Tryz.f120.name, by decide, Tryz.func120.trans (congrArg some (by kernel_rfl))⟩
 f57 := ⟨Tryz.f143.name, by decide, Tryz.func143.trans (congrArg some (by kernel_rfl))⟩
 t0 := Tryz.underlying0
 a0 := Tryz.isAgg0
 z0 := Tryz.sizeOf0
 v0 := Tryz.zeroValue0
 t3 := Tryz.underlying3
 a3 := Tryz.isAgg3
 z3 := Tryz.sizeOf3
 v3 := Tryz.zeroValue3
 t4 := Tryz.underlying4
 a4 := Tryz.isAgg4
 z4 := Tryz.sizeOf4
 v4 := Tryz.zeroValue4
 t5 := Tryz.underlying5
 a5 := Tryz.isAgg5
 z5 := Tryz.sizeOf5
 v5 := Tryz.zeroValue5
 t9 := Tryz.underlying9
 a9 := Tryz.isAgg9
 z9 := Tryz.sizeOf9
 v9 := Tryz.zeroValue9
 t22 := Tryz.underlying36
 a22 := Tryz.isAgg36
 z22 := Tryz.sizeOf36
 v22 := Tryz.zeroValue36
 t25 := Tryz.underlying75
 a25 := Tryz.isAgg75
 z25 := Tryz.sizeOf75
 v25 := Tryz.zeroValue75
 t39 := Tryz.underlying137
 a39 := Tryz.isAgg137
 z39 := Tryz.sizeOf137
 v39 := Tryz.zeroValue137
 t45 := Tryz.underlying155
 a45 := Tryz.isAgg155
 z45 := Tryz.sizeOf155
 v45 := Tryz.zeroValue155
 t46 := Tryz.underlying156
 a46 := Tryz.isAgg156
 z46 := Tryz.sizeOf156
 v46 := Tryz.zeroValue156
 t50 := Tryz.underlying160
 a50 := Tryz.isAgg160
 z50 := Tryz.sizeOf160
 v50 := Tryz.zeroValue160
 t53 := Tryz.underlying163
 a53 := Tryz.isAgg163
 z53 := Tryz.sizeOf163
 v53 := Tryz.zeroValue163
 t55 := Tryz.underlying165
 a55 := Tryz.isAgg165
 z55 := Tryz.sizeOf165
 v55 := Tryz.zeroValue165
 t66 := Tryz.underlying189
 a66 := Tryz.isAgg189
 z66 := Tryz.sizeOf189
 v66 := Tryz.zeroValue189
 t70 := Tryz.underlying193
 a70 := Tryz.isAgg193
 z70 := Tryz.sizeOf193
 v70 := Tryz.zeroValue193
 t76 := Tryz.underlying203
 a76 := Tryz.isAgg203
 z76 := Tryz.sizeOf203
 v76 := Tryz.zeroValue203
 t77 := Tryz.underlying204
 a77 := Tryz.isAgg204
 z77 := Tryz.sizeOf204
 v77 := Tryz.zeroValue204 }
def sortN_ren : Go.Shelf.Ren := ⟨fun | 6 => 41 | 15 => 58 | 14 => 63 | 28 => 80 | 29 => 81 | 20 => 99 | 21 => 100 | 22 => 101 | 23 => 102 | 24 => 103 | 25 => 104 | 26 => 105 | 27 => 106 | 46 => 128 | 47 => 117 | 48 => 118 | 49 => 129 | 50 => 130 | 57 => 146 | n => n, fun | 22 => 54 | 24 => 57 | 25 => 91 | 3 => 3 | 39 => 137 | 0 => 0 | 53 => 163 | 55 => 165 | 4 => 4 | 46 => 156 | 45 => 155 | 50 => 160 | 5 => 5 | 9 => 9 | 66 => 189 | 70 => 193 | 76 => 203 | 77 => 204 | n => n, fun | n => n⟩
theorem sortN : Go.Proofs.SlLaysF0.n6 Tryz.prog sortN_ren := {
 mixed := by kernel_rfl
 f6 := ⟨Tryz.f41.name, by decide, Tryz.func41.trans (congrArg some (by kernel_rfl))⟩
 f14 := ⟨Tryz.f63.name, by decide, Tryz.func63.trans (congrArg some (by kernel_rfl))⟩
 f15 := Tryz.func58.trans (congrArg some (by kernel_rfl))
 f20 := ⟨Tryz.f99.name, by decide, Tryz.func99.trans (congrArg some (by kernel_rfl))⟩
 f21 := ⟨Tryz.f100.name, by decide, Tryz.func100.trans (congrArg some (by kernel_rfl))⟩
 f22 := ⟨Tryz.f101.name, by decide, Tryz.func101.trans (congrArg some (by kernel_rfl))⟩
 f23 := ⟨Tryz.f102.name, by decide, Tryz.func102.trans (congrArg some (by kernel_rfl))⟩
 f24 := ⟨Tryz.f103.name, by decide, Tryz.func103.trans (congrArg some (by kernel_rfl))⟩
 f25 := ⟨Tryz.f104.name, by decide, Tryz.func104.trans (congrArg some (by kernel_rfl))⟩
 f26 := ⟨Tryz.f105.name, by decide, Tryz.func105.trans (congrArg some (by kernel_rfl))⟩
 f27 := ⟨Tryz.f106.name, by decide, Tryz.func106.trans (congrArg some (by kernel_rfl))⟩
 f28 := Tryz.func80.trans (congrArg some (by kernel_rfl))
 f29 := Tryz.func81.trans (congrArg some (by kernel_rfl))
 f46 := ⟨Tryz.f128.name, by decide, Tryz.func128.trans (congrArg some (by kernel_rfl))⟩
 f47 := Tryz.func117.trans (congrArg some (by kernel_rfl))
 f48 := Tryz.func118.trans (congrArg some (by kernel_rfl))
 f49 := ⟨Tryz.f129.name, by decide, Tryz.func129.trans (congrArg some (by kernel_rfl))⟩
 f50 := ⟨Tryz.f130.name, by decide, Tryz.func130.trans (congrArg some (by kernel_rfl))⟩
 f57 := ⟨Tryz.f146.name, by decide, Tryz.func146.trans (congrArg some (by kernel_rfl))⟩
 t0 := Tryz.underlying0
 a0 := Tryz.isAgg0
 z0 := Tryz.sizeOf0
 v0 := Tryz.zeroValue0
 t3 := Tryz.underlying3
 a3 := Tryz.isAgg3
 z3 := Tryz.sizeOf3
 v3 := Tryz.zeroValue3
 t4 := Tryz.underlying4
 a4 := Tryz.isAgg4
 z4 := Tryz.sizeOf4
 v4 := Tryz.zeroValue4
 t5 := Tryz.underlying5
 a5 := Tryz.isAgg5
 z5 := Tryz.sizeOf5
 v5 := Tryz.zeroValue5
 t9 := Tryz.underlying9
 a9 := Tryz.isAgg9
 z9 := Tryz.sizeOf9
 v9 := Tryz.zeroValue9
 t22 := Tryz.underlying54
 a22 := Tryz.isAgg54
 z22 := Tryz.sizeOf54
 v22 := Tryz.zeroValue54
 t25 := Tryz.underlying91
 a25 := Tryz.isAgg91
 z25 := Tryz.sizeOf91
 v25 := Tryz.zeroValue91
 t39 := Tryz.underlying137
 a39 := Tryz.isAgg137
 z39 := Tryz.sizeOf137
 v39 := Tryz.zeroValue137
 t45 := Tryz.underlying155
 a45 := Tryz.isAgg155
 z45 := Tryz.sizeOf155
 v45 := Tryz.zeroValue155
 t46 := Tryz.underlying156
 a46 := Tryz.isAgg156
 z46 := Tryz.sizeOf156
 v46 := Tryz.zeroValue156
 t50 := Tryz.underlying160
 a50 := Tryz.isAgg160
 z50 := Tryz.sizeOf160
 v50 := Tryz.zeroValue160
 t53 := Tryz.underlying163
 a53 := Tryz.isAgg163
 z53 := Tryz.sizeOf163
 v53 := Tryz.zeroValue163
 t55 := Tryz.underlying165
 a55 := Tryz.isAgg165
 z55 := Tryz.sizeOf165
 v55 := Tryz.zeroValue165
 t66 := Tryz.underlying189
 a66 := Tryz.isAgg189
 z66 := Tryz.sizeOf189
 v66 := Tryz.zeroValue189
 t70 := Tryz.underlying193
 a70 := Tryz.isAgg193
 z70 := Tryz.sizeOf193
 v70 := Tryz.zeroValue193
 t76 := Tryz.underlying203
 a76 := Tryz.isAgg203
 z76 := Tryz.sizeOf203
 v76 := Tryz.zeroValue203
 t77 := Tryz.underlying204
 a77 := Tryz.isAgg204
 z77 := Tryz.sizeOf204
 v77 := Tryz.zeroValue204 }
def sortU_ren : Go.Shelf.Ren := ⟨fun | 6 => 40 | 15 => 58 | 14 => 62 | 28 => 80 | 29 => 81 | 20 => 91 | 21 => 92 | 22 => 93 | 23 => 94 | 24 => 95 | 25 => 96 | 26 => 97 | 27 => 98 | 46 => 125 | 47 => 117 | 48 => 118 | 49 => 126 | 50 => 127 | 57 => 145 | n => n, fun | 22 => 44 | 24 => 47 | 25 => 87 | 3 => 3 | 39 => 137 | 0 => 0 | 53 => 163 | 55 => 165 | 4 => 4 | 46 => 156 | 45 => 155 | 50 => 160 | 5 => 5 | 9 => 9 | 66 => 189 | 70 => 193 | 76 => 203 | 77 => 204 | n => n, fun | n => n⟩
theorem sortU : Go.Proofs.SlLaysF0.n6 Tryz.prog sortU_ren := {
 mixed := by kernel_rfl
 f6 := ⟨Tryz.f40.name, by decide, Tryz.func40.trans (congrArg some (by kernel_rfl))⟩
 f14 := ⟨Tryz.f62.name, by decide, Tryz.func62.trans (congrArg some (by kernel_rfl))⟩
 f15 := Tryz.func58.trans (congrArg some (by kernel_rfl))
 f20 := ⟨Tryz.f91.name, by decide, Tryz.func91.trans (congrArg some (by kernel_rfl))⟩
 f21 := ⟨Tryz.f92.name, by decide, Tryz.func92.trans (congrArg some (by kernel_rfl))⟩
 f22 := ⟨Tryz.f93.name, by decide, Tryz.func93.trans (congrArg some (by kernel_rfl))⟩
 f23 := ⟨Tryz.f94.name, by decide, Tryz.func94.trans (congrArg some (by kernel_rfl))⟩
 f24 := ⟨Tryz.f95.name, by decide, Tryz.func95.trans (congrArg some (by kernel_rfl))⟩
 f25 := ⟨Tryz.f96.name, by decide, Tryz.func96.trans (congrArg some (by kernel_rfl))⟩
 f26 := ⟨Tryz.f97.name, by decide, Tryz.func97.trans (congrArg some (by kernel_rfl))⟩
 f27 := ⟨Tryz.f98.name, by decide, Tryz.func98.trans (congrArg some (by kernel_rfl))⟩
 f28 := Tryz.func80.trans (congrArg some (by kernel_rfl))
 f29 := Tryz.func81.trans (congrArg some (by kernel_rfl))
 f46 := ⟨Tryz.f125.name, by decide, Tryz.func125.trans (congrArg some (by kernel_rfl))⟩
 f47 := Tryz.func117.trans (congrArg some (by kernel_rfl))
 f48 := Tryz.func118.trans (congrArg some (by kernel_rfl))
 f49 := ⟨Tryz.f126.name, by decide, Tryz.func126.trans (congrArg some (by kernel_rfl))⟩
 f50 := ⟨Tryz.f127.name, by decide, Tryz.func127.trans (congrArg some (by kernel_rfl))⟩
 f57 := ⟨Tryz.f145.name, by decide, Tryz.func145.trans (congrArg some (by kernel_rfl))⟩
 t0 := Tryz.underlying0
 a0 := Tryz.isAgg0
 z0 := Tryz.sizeOf0
 v0 := Tryz.zeroValue0
 t3 := Tryz.underlying3
 a3 := Tryz.isAgg3
 z3 := Tryz.sizeOf3
 v3 := Tryz.zeroValue3
 t4 := Tryz.underlying4
 a4 := Tryz.isAgg4
 z4 := Tryz.sizeOf4
 v4 := Tryz.zeroValue4
 t5 := Tryz.underlying5
 a5 := Tryz.isAgg5
 z5 := Tryz.sizeOf5
 v5 := Tryz.zeroValue5
 t9 := Tryz.underlying9
 a9 := Tryz.isAgg9
 z9 := Tryz.sizeOf9
 v9 := Tryz.zeroValue9
 t22 := Tryz.underlying44
 a22 := Tryz.isAgg44
 z22 := Tryz.sizeOf44
 v22 := Tryz.zeroValue44
 t25 := Tryz.underlying87
 a25 := Tryz.isAgg87
 z25 := Tryz.sizeOf87
 v25 := Tryz.zeroValue87
 t39 := Tryz.underlying137
 a39 := Tryz.isAgg137
 z39 := Tryz.sizeOf137
 v39 := Tryz.zeroValue137
 t45 := Tryz.underlying155
 a45 := Tryz.isAgg155
 z45 := Tryz.sizeOf155
 v45 := Tryz.zeroValue155
 t46 := Tryz.underlying156
 a46 := Tryz.isAgg156
 z46 := Tryz.sizeOf156
 v46 := Tryz.zeroValue156
 t50 := Tryz.underlying160
 a50 := Tryz.isAgg160
 z50 := Tryz.sizeOf160
 v50 := Tryz.zeroValue160
 t53 := Tryz.underlying163
 a53 := Tryz.isAgg163
 z53 := Tryz.sizeOf163
 v53 := Tryz.zeroValue163
 t55 := Tryz.underlying165
 a55 := Tryz.isAgg165
 z55 := Tryz.sizeOf165
 v55 := Tryz.zeroValue165
 t66 := Tryz.underlying189
 a66 := Tryz.isAgg189
 z66 := Tryz.sizeOf189
 v66 := Tryz.zeroValue189
 t70 := Tryz.underlying193
 a70 := Tryz.isAgg193
 z70 := Tryz.sizeOf193
 v70 := Tryz.zeroValue193
 t76 := Tryz.underlying203
 a76 := Tryz.isAgg203
 z76 := Tryz.sizeOf203
 v76 := Tryz.zeroValue203
 t77 := Tryz.underlying204
 a77 := Tryz.isAgg204
 z77 := Tryz.sizeOf204
 v77 := Tryz.zeroValue204 }
def sortC_ren : Go.Shelf.Ren := ⟨fun | 6 => 38 | 15 => 58 | 14 => 59 | 28 => 80 | 29 => 81 | 20 => 82 | 21 => 83 | 22 => 84 | 23 => 85 | 24 => 86 | 25 => 87 | 26 => 88 | 27 => 89 | 46 => 121 | 47 => 117 | 48 => 118 | 49 => 122 | 50 => 123 | 57 => 144 | n => n, fun | 22 => 40 | 24 => 43 | 25 => 83 | 3 => 3 | 39 => 137 | 0 => 0 | 53 => 163 | 55 => 165 | 4 => 4 | 46 => 156 | 45 => 155 | 50 => 160 | 5 => 5 | 9 => 9 | 66 => 189 | 70 => 193 | 76 => 203 | 77 => 204 | n => n, fun | n => n⟩
theorem sortC : Go.Proofs.SlLaysF0.n6 Tryz.prog sortC_ren := {
 mixed := by kernel_rfl
 f6 := ⟨Tryz.f38.name, by decide, Tryz.func38.trans (congrArg some (by kernel_rfl))⟩
 f14 := ⟨Tryz.f59.name, by decide, Tryz.func59.trans (congrArg some (by kernel_rfl))⟩
 f15 := Tryz.func58.trans (congrArg some (by kernel_rfl))
 f20 := ⟨Tryz.f82.name, by decide, Tryz.func82.trans (congrArg some (by kernel_rfl))⟩
 f21 := ⟨Tryz.f83.name, by decide, Tryz.func83.trans (congrArg some (by kernel_rfl))⟩
 f22 := ⟨Tryz.f84.name, by decide, Tryz.func84.trans (congrArg some (by kernel_rfl))⟩
 f23 := ⟨Tryz.f85.name, by decide, Tryz.func85.trans (congrArg some (by kernel_rfl))⟩
 f24 := ⟨Tryz.f86.name, by decide, Tryz.func86.trans (congrArg some (by kernel_rfl))⟩
 f25 := ⟨Tryz.f87.name, by decide, Tryz.func87.trans (congrArg some (by kernel_rfl))⟩
 f26 := ⟨Tryz.f88.name, by decide, Tryz.func88.trans (congrArg some (by kernel_rfl))⟩
 f27 := ⟨Tryz.f89.name, by decide, Tryz.func89.trans (congrArg some (by kernel_rfl))⟩
 f28 := Tryz.func80.trans (congrArg some (by kernel_rfl))
 f29 := Tryz.func81.trans (congrArg some (by kernel_rfl))
 f46 := ⟨Tryz.f121.name, by decide, Tryz.func121.trans (congrArg some (by kernel_rfl))⟩
 f47 := Tryz.func117.trans (congrArg some (by kernel_rfl))
 f48 := Tryz.func118.trans (congrArg some (by kernel_rfl))
 f49 := ⟨Tryz.f122.name, by decide, Tryz.func122.trans (congrArg some (by kernel_rfl))⟩
 f50 := ⟨Tryz.f123.name, by decide, Tryz.func123.trans (congrArg some (by kernel_rfl))⟩
 f57 := ⟨Tryz.f144.name, by decide, Tryz.func144.trans (congrArg some (by kernel_rfl))⟩
 t0 := Tryz.underlying0
 a0 := Tryz.isAgg0
 z0 := Tryz.sizeOf0
 v0 := Tryz.zeroValue0
 t3 := Tryz.underlying3
 a3 := Tryz.isAgg3
 z3 := Tryz.sizeOf3
 v3 := Tryz.zeroValue3
 t4 := Tryz.underlying4
 a4 := Tryz.isAgg4
 z4 := Tryz.sizeOf4
 v4 := Tryz.zeroValue4
 t5 := Tryz.underlying5
 a5 := Tryz.isAgg5
 z5 := Tryz.sizeOf5
 v5 := Tryz.zeroValue5
 t9 := Tryz.underlying9
 a9 := Tryz.isAgg9
 z9 := Tryz.sizeOf9
 v9 := Tryz.zeroValue9
 t22 := Tryz.underlying40
 a22 := Tryz.isAgg40
 z22 := Tryz.sizeOf40
 v22 := Tryz.zeroValue40
 t25 := Tryz.underlying83
 a25 := Tryz.isAgg83
 z25 := Tryz.sizeOf83
 v25 := Tryz.zeroValue83
 t39 := Tryz.underlying137
 a39 := Tryz.isAgg137
 z39 := Tryz.sizeOf137
 v39 := Tryz.zeroValue137
 t45 := Tryz.underlying155
 a45 := Tryz.isAgg155
 z45 := Tryz.sizeOf155
 v45 := Tryz.zeroValue155
 t46 := Tryz.underlying156
 a46 := Tryz.isAgg156
 z46 := Tryz.sizeOf156
 v46 := Tryz.zeroValue156
 t50 := Tryz.underlying160
 a50 := Tryz.isAgg160
 z50 := Tryz.sizeOf160
 v50 := Tryz.zeroValue160
 t53 := Tryz.underlying163
 a53 := Tryz.isAgg163
 z53 := Tryz.sizeOf163
 v53 := Tryz.zeroValue163
 t55 := Tryz.underlying165
 a55 := Tryz.isAgg165
 z55 := Tryz.sizeOf165
 v55 := Tryz.zeroValue165
 t66 := Tryz.underlying189
 a66 := Tryz.isAgg189
 z66 := Tryz.sizeOf189
 v66 := Tryz.zeroValue189
 t70 := Tryz.underlying193
 a70 := Tryz.isAgg193
 z70 := Tryz.sizeOf193
 v70 := Tryz.zeroValue193
 t76 := Tryz.underlying203
 a76 := Tryz.isAgg203
 z76 := Tryz.sizeOf203
 v76 := Tryz.zeroValue203
 t77 := Tryz.underlying204
 a77 := Tryz.isAgg204
 z77 := Tryz.sizeOf204
 v77 := Tryz.zeroValue204 }
end Go.Proofs.YtnklnklkblgnfaaGreatDoor
end
section
namespace Go.Proofs.YtnklnklkblgnfaaGreatDoor
open Go.RowKit Go.Dfl Go.Gra Go.Obs Go.Sort Go.Maps
def elP : El (Int × Int × Int) := ⟨3, fun x => [.int .i64 x.1, .int .i64 x.2.1, .int .i64 x.2.2], fun _ => rfl, fun x v hv => by simp at hv; rcases hv with rfl | rfl | rfl <;> rfl, by omega⟩
theorem sPf : SliceOf Tryz.prog 36 39 (.agg #[.int .i64 0, .int .i64 0, .int .i64 0]) 3 24 := ⟨Tryz.underlying36, info_parts (P := Tryz.prog) (e := 39) (by kernel_rfl)⟩
theorem cmp3_lt (x y : Int × Int × Int) : ltOf cmp3 x y = decide (lt3 x y) := by
 unfold ltOf
 by_cases h : lt3 x y
 ·simp [h, (cmp3_neg x y).2 h]
 ·simp [h]
  have := mt (cmp3_neg x y).1 h
  omega
theorem cmp3_swo : SWO (ltOf cmp3) where
 irrefl x := by rw [cmp3_lt]; simpa using sto3.irrefl x
 trans x y z h1 h2 := by rw [cmp3_lt] at *; simp only [decide_eq_true_eq] at *; exact sto3.trans h1 h2
 ntrans x y z h1 h2 := by
  rw [cmp3_lt] at *
  simp only [decide_eq_false_iff_not] at *
  intro h3
  rcases sto3.tri y x with h4 | h4 | h4
  ·exact h2 (sto3.trans h4 h3)
  ·subst h4; exact h2 h3
  ·exact h1 h4
def spSortR (base g cap : Nat) (l : List (Int × Int × Int)) (W : World) (e : Ending) (W' : World) : Prop := ∃ l' : List (Int × Int × Int), e = .returned (.tuple #[]) ∧ l'.Perm l ∧ l'.Pairwise lt3 ∧ OwnE elP W' base 39 (.slice (some ⟨g, 0, none⟩) l.length cap) l' ∧ W.grownBy W' (some g)
set_option maxHeartbeats 1600000 in
theorem spSort_any (base g cap : Nat) (l : List (Int × Int × Int)) (W : World) (h : OwnE elP W base 39 (.slice (some ⟨g, 0, none⟩) l.length cap) l) (hl : l.length ≤ 10000000) (hnd : l.Nodup) :
  Calls Tryz.prog 36 #[.slice (some ⟨g, 0, none⟩) l.length cap, .func (.func 15) #[] #[]] W (spSortR base g cap l W) := by
 have eg : ∀ args w, (callFunc 15 args).run Tryz.prog w = .ok (.enter 15 args) w := enters_of Tryz.func15 (by kernel_rfl) rfl
 have hH := OwnE.holdsK h rfl
 have hblk : g < W.heap.size := (OwnE.lt h g rfl).2
 have hcon := AnyQ.slices_SortFunc sortP 3 Tryz.isAgg39 Tryz.sizeOf39 elP.c (fun _ => rfl) elP.one cmp3 cmp3_swo 15 #[] g 0 cap l.toArray W eg (fun _ _ _ _ x y => cmp3_any x y _) hH hblk (by simp; omega)
 change Calls Tryz.prog 36 _ _ _ at hcon
 have hs0 : l.toArray.size = l.length := by simp
 rw [hs0] at hcon
 refine hcon.mono ?_
 rintro e W' ⟨rfl, d', n, os, hp, hs, rfl⟩
 obtain ⟨p1, -, p3⟩ := hp
 have hd : d'.size = l.length := by rw [p1, hs0]
 obtain ⟨o1, o2⟩ := OwnE.sortK h rfl d' hd n os
 have hperm : d'.toList.Perm l := by
  have e1 : (d'.extract 0 l.length) = d' := by rw [← hd]; exact Array.extract_size
  have e2 : (l.toArray.extract 0 l.length) = l.toArray := by rw [← hs0]; exact Array.extract_size
  rw [e1, e2] at p3
  exact p3
 have hnd' : d'.toList.Nodup := hperm.nodup_iff.2 hnd
 refine ⟨d'.toList, rfl, hperm, List.pairwise_iff_getElem.2 fun i j hi hj hij => ?_, o1, o2⟩
 have hjl : j < d'.size := by simpa using hj
 have h1 := hs i j (Nat.zero_le _) hij (by rw [← hd]; exact hjl)
 rw [cmp3_lt, decide_eq_false_iff_not] at h1
 rw [getElem!_pos d' j hjl, getElem!_pos d' i (by omega)] at h1
 have e1 : d'.toList[i] = d'[i]'(by omega) := by simp
 have e2 : d'.toList[j] = d'[j] := by simp
 rw [e1, e2]
 rcases sto3.tri (d'[i]'(by omega)) d'[j] with h2 | h2 | h2
 ·exact h2
 ·exfalso
  rw [← e1, ← e2] at h2
  have := (List.getElem_inj hnd').1 h2
  omega
 ·exact absurd h2 h1
theorem spSort_nil (fv : Value) (c : Nat) (W : World) :
  Calls Tryz.prog 36 #[.slice none 0 c, fv] W fun e W' => e = .returned (.tuple #[]) ∧ W' = W := AnyF.slices_SortFunc_none sortP none c fv W
theorem pkKeyed : Keyed Tryz.prog 39 := Keyed.of_law (deep_law_laid laidOut (m := 2) (by omega) (of_decide_eq_true (by kernel_rfl)) (by kernel_rfl) (by rw [Tryz.underlying39]))
theorem pkWf (x : Int × Int × Int) (h : inI x.1 ∧ inI x.2.1 ∧ inI x.2.2) : ∃ kl, keyOf Tryz.prog 39 (pv x) = some kl := by
 obtain ⟨x1, x2, x3⟩ := x
 obtain ⟨h1, h2, h3⟩ := h
 have wf : ∀ x : Int, inI x → (Lit.int .i64 x).wf = true := fun x hx => WalkArith.wf_i64 (by unfold inI at hx; omega)
 have wi : ∀ (d : Nat) (x : Int), inI x → Tryz.prog.keyLits (d + 1) 3 [.int .i64 x] = some [.int .i64 x] := fun d x hx => by
  simp [Program.keyLits, Tryz.underlying3, wf x hx]
 have hsz : ∃ d, Tryz.prog.types.size + 1 = d + 2 := ⟨Tryz.prog.types.size - 1, by have : 0 < Tryz.prog.types.size := of_decide_eq_true (by kernel_rfl); omega⟩
 obtain ⟨d, hd⟩ := hsz
 have ktype : Tryz.prog.keyType 39 = true := by kernel_rfl
 have cellsK : Tryz.prog.cellsOf 39 = 3 := by kernel_rfl
 unfold keyOf
 rw [Tryz.underlying39, hd]
 simp only [ktype, Bool.true_and]
 have hf : (Value.agg #[.int .i64 x1, .int .i64 x2, .int .i64 x3]).formed Tryz.prog 39 = true := by simp [Value.formed, Tryz.underlying39, cellsK]
 rw [if_pos hf]
 unfold Program.keyLits
 simp only [Tryz.underlying39]
 simp [cellsK, cI, wi, h1, h2, h3, Value.cells]
theorem pv_inj {x y : Int × Int × Int} (h : pv x = pv y) : x = y := by
 obtain ⟨x1, x2, x3⟩ := x
 obtain ⟨y1, y2, y3⟩ := y
 simp [pv] at h
 simp [h]
def ascPR (l : List (Int × Int × Int)) (W : World) (e : Ending) (W' : World) : Prop := ∃ a c L, e = .returned (.slice a L.length c) ∧ OwnE elP W' W.heap.size 39 (.slice a L.length c) L ∧ L.Pairwise lt3 ∧ (∀ x, x ∈ L ↔ x ∈ l) ∧ Below W.heap.size W W'
def elN : El (Int × Int × Int × Int) := ⟨4, fun x => [.int .i64 x.1, .int .i64 x.2.1, .int .i64 x.2.2.1, .int .i64 x.2.2.2], fun _ => rfl, fun x v hv => by simp at hv; rcases hv with rfl | rfl | rfl | rfl <;> rfl, by omega⟩
theorem sNf : SliceOf Tryz.prog 54 57 (.agg #[.int .i64 0, .int .i64 0, .int .i64 0, .int .i64 0]) 4 32 := ⟨Tryz.underlying54, info_parts (P := Tryz.prog) (e := 57) (by kernel_rfl)⟩
theorem cmp4_lt (x y : Int × Int × Int × Int) : ltOf cmp4 x y = decide (lt4 x y) := by
 unfold ltOf
 by_cases h : lt4 x y
 ·simp [h, (cmp4_neg x y).2 h]
 ·simp [h]
  have := mt (cmp4_neg x y).1 h
  omega
theorem cmp4_swo : SWO (ltOf cmp4) where
 irrefl x := by rw [cmp4_lt]; simpa using sto4.irrefl x
 trans x y z h1 h2 := by rw [cmp4_lt] at *; simp only [decide_eq_true_eq] at *; exact sto4.trans h1 h2
 ntrans x y z h1 h2 := by
  rw [cmp4_lt] at *
  simp only [decide_eq_false_iff_not] at *
  intro h3
  rcases sto4.tri y x with h4 | h4 | h4
  ·exact h2 (sto4.trans h4 h3)
  ·subst h4; exact h2 h3
  ·exact h1 h4
def snSortR (base g cap : Nat) (l : List (Int × Int × Int × Int)) (W : World) (e : Ending) (W' : World) : Prop := ∃ l' : List (Int × Int × Int × Int), e = .returned (.tuple #[]) ∧ l'.Perm l ∧ l'.Pairwise lt4 ∧ OwnE elN W' base 57 (.slice (some ⟨g, 0, none⟩) l.length cap) l' ∧ W.grownBy W' (some g)
set_option maxHeartbeats 1600000 in
theorem snSort_any (base g cap : Nat) (l : List (Int × Int × Int × Int)) (W : World) (h : OwnE elN W base 57 (.slice (some ⟨g, 0, none⟩) l.length cap) l) (hl : l.length ≤ 10000000) (hnd : l.Nodup) :
  Calls Tryz.prog 41 #[.slice (some ⟨g, 0, none⟩) l.length cap, .func (.func 25) #[] #[]] W (snSortR base g cap l W) := by
 have eg : ∀ args w, (callFunc 25 args).run Tryz.prog w = .ok (.enter 25 args) w := enters_of Tryz.func25 (by kernel_rfl) rfl
 have hH := OwnE.holdsK h rfl
 have hblk : g < W.heap.size := (OwnE.lt h g rfl).2
 have hcon := AnyQ.slices_SortFunc sortN 4 Tryz.isAgg57 Tryz.sizeOf57 elN.c (fun _ => rfl) elN.one cmp4 cmp4_swo 25 #[] g 0 cap l.toArray W eg (fun _ _ _ _ x y => cmp4_any x y _) hH hblk (by simp; omega)
 change Calls Tryz.prog 41 _ _ _ at hcon
 have hs0 : l.toArray.size = l.length := by simp
 rw [hs0] at hcon
 refine hcon.mono ?_
 rintro e W' ⟨rfl, d', n, os, hp, hs, rfl⟩
 obtain ⟨p1, -, p3⟩ := hp
 have hd : d'.size = l.length := by rw [p1, hs0]
 obtain ⟨o1, o2⟩ := OwnE.sortK h rfl d' hd n os
 have hperm : d'.toList.Perm l := by
  have e1 : (d'.extract 0 l.length) = d' := by rw [← hd]; exact Array.extract_size
  have e2 : (l.toArray.extract 0 l.length) = l.toArray := by rw [← hs0]; exact Array.extract_size
  rw [e1, e2] at p3
  exact p3
 have hnd' : d'.toList.Nodup := hperm.nodup_iff.2 hnd
 refine ⟨d'.toList, rfl, hperm, List.pairwise_iff_getElem.2 fun i j hi hj hij => ?_, o1, o2⟩
 have hjl : j < d'.size := by simpa using hj
 have h1 := hs i j (Nat.zero_le _) hij (by rw [← hd]; exact hjl)
 rw [cmp4_lt, decide_eq_false_iff_not] at h1
 rw [getElem!_pos d' j hjl, getElem!_pos d' i (by omega)] at h1
 have e1 : d'.toList[i] = d'[i]'(by omega) := by simp
 have e2 : d'.toList[j] = d'[j] := by simp
 rw [e1, e2]
 rcases sto4.tri (d'[i]'(by omega)) d'[j] with h2 | h2 | h2
 ·exact h2
 ·exfalso
  rw [← e1, ← e2] at h2
  have := (List.getElem_inj hnd').1 h2
  omega
 ·exact absurd h2 h1
theorem snSort_nil (fv : Value) (c : Nat) (W : World) :
  Calls Tryz.prog 41 #[.slice none 0 c, fv] W fun e W' => e = .returned (.tuple #[]) ∧ W' = W := AnyF.slices_SortFunc_none sortN none c fv W
theorem nkKeyed : Keyed Tryz.prog 57 := Keyed.of_law (deep_law_laid laidOut (m := 2) (by omega) (of_decide_eq_true (by kernel_rfl)) (by kernel_rfl) (by rw [Tryz.underlying57]))
theorem nkWf (x : Int × Int × Int × Int) (h : inI x.1 ∧ inI x.2.1 ∧ inI x.2.2.1 ∧ inI x.2.2.2) : ∃ kl, keyOf Tryz.prog 57 (nv x) = some kl := by
 obtain ⟨x1, x2, x3, x4⟩ := x
 obtain ⟨h1, h2, h3, h4⟩ := h
 have wf : ∀ x : Int, inI x → (Lit.int .i64 x).wf = true := fun x hx => WalkArith.wf_i64 (by unfold inI at hx; omega)
 have wi : ∀ (d : Nat) (x : Int), inI x → Tryz.prog.keyLits (d + 1) 3 [.int .i64 x] = some [.int .i64 x] := fun d x hx => by
  simp [Program.keyLits, Tryz.underlying3, wf x hx]
 have wl : ∀ (d : Nat) (x : Int), inI x → Tryz.prog.keyLits (d + 1) 2 [.int .i64 x] = some [.int .i64 x] := fun d x hx => by
  simp [Program.keyLits, Tryz.underlying2, wf x hx]
 have cellsL : Tryz.prog.cellsOf 2 = 1 := by kernel_rfl
 have hsz : ∃ d, Tryz.prog.types.size + 1 = d + 2 := ⟨Tryz.prog.types.size - 1, by have : 0 < Tryz.prog.types.size := of_decide_eq_true (by kernel_rfl); omega⟩
 obtain ⟨d, hd⟩ := hsz
 have ktype : Tryz.prog.keyType 57 = true := by kernel_rfl
 have cellsK : Tryz.prog.cellsOf 57 = 4 := by kernel_rfl
 unfold keyOf
 rw [Tryz.underlying57, hd]
 simp only [ktype, Bool.true_and]
 have hf : (Value.agg #[.int .i64 x1, .int .i64 x2, .int .i64 x3, .int .i64 x4]).formed Tryz.prog 57 = true := by simp [Value.formed, Tryz.underlying57, cellsK]
 rw [if_pos hf]
 unfold Program.keyLits
 simp only [Tryz.underlying57]
 simp [cellsK, cI, wi, cellsL, wl, h1, h2, h3, h4, Value.cells]
theorem nv_inj {x y : Int × Int × Int × Int} (h : nv x = nv y) : x = y := by
 obtain ⟨x1, x2, x3, x4⟩ := x
 obtain ⟨y1, y2, y3, y4⟩ := y
 simp [nv] at h
 simp [h]
def ascNR (l : List (Int × Int × Int × Int)) (W : World) (e : Ending) (W' : World) : Prop := ∃ a c L, e = .returned (.slice a L.length c) ∧ OwnE elN W' W.heap.size 57 (.slice a L.length c) L ∧ L.Pairwise lt4 ∧ (∀ x, x ∈ L ↔ x ∈ l) ∧ Below W.heap.size W W'
end Go.Proofs.YtnklnklkblgnfaaGreatDoor
end
section
namespace Go.Obs
open Go.Dfl
end Go.Obs
namespace Go.Proofs.YtnklnklkblgnfaaGreatDoor
open Go.RowKit Go.Dfl Go.Gra Go.Obs
set_option maxHeartbeats 1600000 in
theorem cmp3c_any (a b : Int × Int × Int) (W : World) : Calls Tryz.prog 20 #[pv a, pv b] W fun e W' => e = .returned (.int .i64 (cmp3 a b)) ∧ Grw W W' := by
 obtain ⟨a1, a2, a3⟩ := a
 obtain ⟨b1, b2, b3⟩ := b
 have hg := ((Grw.refl W).alloc (.cells #[.int .i64 a1, .int .i64 a2, .int .i64 a3] 43)).alloc (.cells #[.int .i64 b1, .int .i64 b2, .int .i64 b3] 43)
 have c1 := cells_new (W := W) (cs := [.int .i64 a1, .int .i64 a2, .int .i64 a3]) (t := 43) rfl
 have c2 := cells_new (W := W.alloc (.cells #[.int .i64 a1, .int .i64 a2, .int .i64 a3] 43)) (cs := [.int .i64 b1, .int .i64 b2, .int .i64 b3]) (t := 43) rfl
 have ga := grownBy_alloc (W.alloc (.cells #[.int .i64 a1, .int .i64 a2, .int .i64 a3] 43)) (.cells #[.int .i64 b1, .int .i64 b2, .int .i64 b3] 43)
 have hs := And.intro (ga.cell (c1 0 _ rfl) (by simp)) (And.intro (ga.cell (c1 1 _ rfl) (by simp)) (And.intro (ga.cell (c1 2 _ rfl) (by simp)) (And.intro (c2 0 _ rfl) (And.intro (c2 1 _ rfl) (c2 2 _ rfl)))))
 rw [World.size_alloc] at hs
 have HS := Lib.hid (And.intro hg hs)
 clear hg c1 c2 ga hs
 go_enter Tryz.func20, Tryz.ntmps20
 go_wp2_with fail
 refine gen_code (fun Z => Grw W Z ∧ Z.cell? ⟨W.heap.size, 0, none⟩ = some (.int .i64 a1) ∧ Z.cell? ⟨W.heap.size, 1, none⟩ = some (.int .i64 a2) ∧ Z.cell? ⟨W.heap.size, 2, none⟩ = some (.int .i64 a3) ∧ Z.cell? ⟨W.heap.size + 1, 0, none⟩ = some (.int .i64 b1) ∧ Z.cell? ⟨W.heap.size + 1, 1, none⟩ = some (.int .i64 b2) ∧ Z.cell? ⟨W.heap.size + 1, 2, none⟩ = some (.int .i64 b3)) HS.out ?_
 rintro Z ⟨hz, z⟩
 obtain ⟨ba, hba⟩ : ∃ k, k = W.heap.size := ⟨_, rfl⟩
 obtain ⟨bb, hbb⟩ : ∃ k, k = W.heap.size + 1 := ⟨_, rfl⟩
 rw [← hbb, ← hba] at z
 rw [← hbb, ← hba]
 clear hba hbb HS
 refine wp_region_mix [0, 1, 2, 3, 5, 6, 7, 8, 10, 11, 12, 13] [4, 9, 14, 15, 16, 17] (fun w' => w'.cell? ⟨ba, 0, none⟩ = some (.int .i64 a1) ∧ w'.cell? ⟨ba, 1, none⟩ = some (.int .i64 a2) ∧ w'.cell? ⟨ba, 2, none⟩ = some (.int .i64 a3) ∧ w'.cell? ⟨bb, 0, none⟩ = some (.int .i64 b1) ∧ w'.cell? ⟨bb, 1, none⟩ = some (.int .i64 b2) ∧ w'.cell? ⟨bb, 2, none⟩ = some (.int .i64 b3)) (by kernel_rfl) (by kernel_rfl) (by kernel_rfl) z ?_
 have hz' := hz.drew
 have hs : Z.drew.cell? ⟨ba, 0, none⟩ = some (.int .i64 a1) ∧ Z.drew.cell? ⟨ba, 1, none⟩ = some (.int .i64 a2) ∧ Z.drew.cell? ⟨ba, 2, none⟩ = some (.int .i64 a3) ∧ Z.drew.cell? ⟨bb, 0, none⟩ = some (.int .i64 b1) ∧ Z.drew.cell? ⟨bb, 1, none⟩ = some (.int .i64 b2) ∧ Z.drew.cell? ⟨bb, 2, none⟩ = some (.int .i64 b3) := z
 generalize Z.drew = V at *
 have HV := Lib.hid (And.intro hz' hs)
 clear hz hz' hs z
 repeat (
  refine wpHeads_cons (v := ?_) rfl (Or.inl ⟨by rfl, ?_⟩) ?_
  rotate_left
  ·(intro W hW; obtain ⟨q1, q2, q3, q4, q5, q6⟩ := hW; go_simp; try with_reducible rfl)
  simp only [Act.put, List.setIfInBounds_toArray])
 refine wpHeads_nil ?_
 refine wpTails_cons rfl ?_
 go_wp2_with (go_at_call 17; refine (cmpI_any _ _ _).mono ?_; rintro e w' ⟨rfl, hw⟩; rw [hw]; clear hw w')
 refine tail_mk HV.out.2 ?_
 refine wpTails_cons rfl ?_
 go_wp2_with (go_at_call 17; refine (cmpI_any _ _ _).mono ?_; rintro e w' ⟨rfl, hw⟩; rw [hw]; clear hw w')
 refine tail_mk HV.out.2 ?_
 refine wpTails_cons rfl ?_
 go_wp2_with (go_at_call 17; refine (cmpI_any _ _ _).mono ?_; rintro e w' ⟨rfl, hw⟩; rw [hw]; clear hw w')
 refine tail_mk HV.out.2 ?_
 refine wpTails_cons rfl ?_
 have hoc : cmp3 (a1, a2, a3) (b1, b2, b3) = orI [cmpI a1 b1, cmpI a2 b2, cmpI a3 b3] := rfl
 obtain ⟨r1, hr1⟩ : ∃ r, r = cmpI a1 b1 := ⟨_, rfl⟩
 obtain ⟨r2, hr2⟩ : ∃ r, r = cmpI a2 b2 := ⟨_, rfl⟩
 obtain ⟨r3, hr3⟩ : ∃ r, r = cmpI a3 b3 := ⟨_, rfl⟩
 rw [← hr1, ← hr2, ← hr3] at hoc ⊢
 have HO := Lib.hid hoc
 clear hr1 hr2 hr3 hoc
 go_wp2_with fail
 have gA := grownBy_alloc V (.cells #[.int .i64 r1, .int .i64 r2, .int .i64 r3] 3)
 have s2 := And.intro (gA.cell HV.out.2.1 (by simp)) (And.intro (gA.cell HV.out.2.2.1 (by simp)) (And.intro (gA.cell HV.out.2.2.2.1 (by simp)) (And.intro (gA.cell HV.out.2.2.2.2.1 (by simp)) (And.intro (gA.cell HV.out.2.2.2.2.2.1 (by simp)) (gA.cell HV.out.2.2.2.2.2.2 (by simp))))))
 have H2 := Lib.hid s2
 have hI : Ints (V.alloc (.cells #[.int .i64 r1, .int .i64 r2, .int .i64 r3] 3)) (.slice (some ⟨V.heap.size, 0, none⟩) 3 3) [r1, r2, r3] := (show OwnI _ V.heap.size 3 (.slice (some ⟨V.heap.size, 0, none⟩) 3 3) [r1, r2, r3] from World.ownsRow_lit (size := 1) V #[.int .i64 r1, .int .i64 r2, .int .i64 r3] 3 (Nat.le_refl _) (by unfold maxLen; omega) rfl).lst
 have HI := Lib.hid hI
 clear gA s2 hI
 refine tail_mk H2.out ?_
 refine wpTails_cons rfl ?_
 go_wp2_with fail
 refine (cmpOr_any _ [r1, r2, r3] _ HI.out).mono ?_
 rintro e W9 ⟨rfl, rfl⟩
 go_wp2_with fail
 refine tail_mk H2.out ?_
 refine wpTails_one rfl ?_
 go_wp2_with fail
 refine thenQ_mk ?_
 go_wp2_with fail
 go_ret
 exact ⟨ret_int HO.out.symm, HV.out.1.alloc _⟩
set_option maxHeartbeats 1600000 in
theorem cmp3u_any (a b : Int × Int × Int) (W : World) : Calls Tryz.prog 23 #[pv a, pv b] W fun e W' => e = .returned (.int .i64 (cmp3 a b)) ∧ Grw W W' := by
 obtain ⟨a1, a2, a3⟩ := a
 obtain ⟨b1, b2, b3⟩ := b
 have hg := ((Grw.refl W).alloc (.cells #[.int .i64 a1, .int .i64 a2, .int .i64 a3] 47)).alloc (.cells #[.int .i64 b1, .int .i64 b2, .int .i64 b3] 47)
 have c1 := cells_new (W := W) (cs := [.int .i64 a1, .int .i64 a2, .int .i64 a3]) (t := 47) rfl
 have c2 := cells_new (W := W.alloc (.cells #[.int .i64 a1, .int .i64 a2, .int .i64 a3] 47)) (cs := [.int .i64 b1, .int .i64 b2, .int .i64 b3]) (t := 47) rfl
 have ga := grownBy_alloc (W.alloc (.cells #[.int .i64 a1, .int .i64 a2, .int .i64 a3] 47)) (.cells #[.int .i64 b1, .int .i64 b2, .int .i64 b3] 47)
 have hs := And.intro (ga.cell (c1 0 _ rfl) (by simp)) (And.intro (ga.cell (c1 1 _ rfl) (by simp)) (And.intro (ga.cell (c1 2 _ rfl) (by simp)) (And.intro (c2 0 _ rfl) (And.intro (c2 1 _ rfl) (c2 2 _ rfl)))))
 rw [World.size_alloc] at hs
 have HS := Lib.hid (And.intro hg hs)
 clear hg c1 c2 ga hs
 go_enter Tryz.func23, Tryz.ntmps23
 go_wp2_with fail
 refine gen_code (fun Z => Grw W Z ∧ Z.cell? ⟨W.heap.size, 0, none⟩ = some (.int .i64 a1) ∧ Z.cell? ⟨W.heap.size, 1, none⟩ = some (.int .i64 a2) ∧ Z.cell? ⟨W.heap.size, 2, none⟩ = some (.int .i64 a3) ∧ Z.cell? ⟨W.heap.size + 1, 0, none⟩ = some (.int .i64 b1) ∧ Z.cell? ⟨W.heap.size + 1, 1, none⟩ = some (.int .i64 b2) ∧ Z.cell? ⟨W.heap.size + 1, 2, none⟩ = some (.int .i64 b3)) HS.out ?_
 rintro Z ⟨hz, z⟩
 obtain ⟨ba, hba⟩ : ∃ k, k = W.heap.size := ⟨_, rfl⟩
 obtain ⟨bb, hbb⟩ : ∃ k, k = W.heap.size + 1 := ⟨_, rfl⟩
 rw [← hbb, ← hba] at z
 rw [← hbb, ← hba]
 clear hba hbb HS
 refine wp_region_mix [0, 1, 2, 3, 5, 6, 7, 8, 10, 11, 12, 13] [4, 9, 14, 15, 16, 17] (fun w' => w'.cell? ⟨ba, 0, none⟩ = some (.int .i64 a1) ∧ w'.cell? ⟨ba, 1, none⟩ = some (.int .i64 a2) ∧ w'.cell? ⟨ba, 2, none⟩ = some (.int .i64 a3) ∧ w'.cell? ⟨bb, 0, none⟩ = some (.int .i64 b1) ∧ w'.cell? ⟨bb, 1, none⟩ = some (.int .i64 b2) ∧ w'.cell? ⟨bb, 2, none⟩ = some (.int .i64 b3)) (by kernel_rfl) (by kernel_rfl) (by kernel_rfl) z ?_
 have hz' := hz.drew
 have hs : Z.drew.cell? ⟨ba, 0, none⟩ = some (.int .i64 a1) ∧ Z.drew.cell? ⟨ba, 1, none⟩ = some (.int .i64 a2) ∧ Z.drew.cell? ⟨ba, 2, none⟩ = some (.int .i64 a3) ∧ Z.drew.cell? ⟨bb, 0, none⟩ = some (.int .i64 b1) ∧ Z.drew.cell? ⟨bb, 1, none⟩ = some (.int .i64 b2) ∧ Z.drew.cell? ⟨bb, 2, none⟩ = some (.int .i64 b3) := z
 generalize Z.drew = V at *
 have HV := Lib.hid (And.intro hz' hs)
 clear hz hz' hs z
 repeat (
  refine wpHeads_cons (v := ?_) rfl (Or.inl ⟨by rfl, ?_⟩) ?_
  rotate_left
  ·(intro W hW; obtain ⟨q1, q2, q3, q4, q5, q6⟩ := hW; go_simp; try with_reducible rfl)
  simp only [Act.put, List.setIfInBounds_toArray])
 refine wpHeads_nil ?_
 refine wpTails_cons rfl ?_
 go_wp2_with (go_at_call 17; refine (cmpI_any _ _ _).mono ?_; rintro e w' ⟨rfl, hw⟩; rw [hw]; clear hw w')
 refine tail_mk HV.out.2 ?_
 refine wpTails_cons rfl ?_
 go_wp2_with (go_at_call 17; refine (cmpI_any _ _ _).mono ?_; rintro e w' ⟨rfl, hw⟩; rw [hw]; clear hw w')
 refine tail_mk HV.out.2 ?_
 refine wpTails_cons rfl ?_
 go_wp2_with (go_at_call 17; refine (cmpI_any _ _ _).mono ?_; rintro e w' ⟨rfl, hw⟩; rw [hw]; clear hw w')
 refine tail_mk HV.out.2 ?_
 refine wpTails_cons rfl ?_
 have hoc : cmp3 (a1, a2, a3) (b1, b2, b3) = orI [cmpI a1 b1, cmpI a2 b2, cmpI a3 b3] := rfl
 obtain ⟨r1, hr1⟩ : ∃ r, r = cmpI a1 b1 := ⟨_, rfl⟩
 obtain ⟨r2, hr2⟩ : ∃ r, r = cmpI a2 b2 := ⟨_, rfl⟩
 obtain ⟨r3, hr3⟩ : ∃ r, r = cmpI a3 b3 := ⟨_, rfl⟩
 rw [← hr1, ← hr2, ← hr3] at hoc ⊢
 have HO := Lib.hid hoc
 clear hr1 hr2 hr3 hoc
 go_wp2_with fail
 have gA := grownBy_alloc V (.cells #[.int .i64 r1, .int .i64 r2, .int .i64 r3] 3)
 have s2 := And.intro (gA.cell HV.out.2.1 (by simp)) (And.intro (gA.cell HV.out.2.2.1 (by simp)) (And.intro (gA.cell HV.out.2.2.2.1 (by simp)) (And.intro (gA.cell HV.out.2.2.2.2.1 (by simp)) (And.intro (gA.cell HV.out.2.2.2.2.2.1 (by simp)) (gA.cell HV.out.2.2.2.2.2.2 (by simp))))))
 have H2 := Lib.hid s2
 have hI : Ints (V.alloc (.cells #[.int .i64 r1, .int .i64 r2, .int .i64 r3] 3)) (.slice (some ⟨V.heap.size, 0, none⟩) 3 3) [r1, r2, r3] := (show OwnI _ V.heap.size 3 (.slice (some ⟨V.heap.size, 0, none⟩) 3 3) [r1, r2, r3] from World.ownsRow_lit (size := 1) V #[.int .i64 r1, .int .i64 r2, .int .i64 r3] 3 (Nat.le_refl _) (by unfold maxLen; omega) rfl).lst
 have HI := Lib.hid hI
 clear gA s2 hI
 refine tail_mk H2.out ?_
 refine wpTails_cons rfl ?_
 go_wp2_with fail
 refine (cmpOr_any _ [r1, r2, r3] _ HI.out).mono ?_
 rintro e W9 ⟨rfl, rfl⟩
 go_wp2_with fail
 refine tail_mk H2.out ?_
 refine wpTails_one rfl ?_
 go_wp2_with fail
 refine thenQ_mk ?_
 go_wp2_with fail
 go_ret
 exact ⟨ret_int HO.out.symm, HV.out.1.alloc _⟩
end Go.Proofs.YtnklnklkblgnfaaGreatDoor
end
section
namespace Go.Proofs.YtnklnklkblgnfaaGreatDoor
open Go.RowKit Go.Dfl Go.Gra Go.Obs Go.Sort Go.Maps
theorem sCe : SliceOf Tryz.prog 40 43 (.agg #[.int .i64 0, .int .i64 0, .int .i64 0]) 3 24 := ⟨Tryz.underlying40, info_parts (P := Tryz.prog) (e := 43) (by kernel_rfl)⟩
def scSortR (base g cap : Nat) (l : List (Int × Int × Int)) (W : World) (e : Ending) (W' : World) : Prop := ∃ l' : List (Int × Int × Int), e = .returned (.tuple #[]) ∧ l'.Perm l ∧ l'.Pairwise lt3 ∧ OwnE elP W' base 43 (.slice (some ⟨g, 0, none⟩) l.length cap) l' ∧ W.grownBy W' (some g)
set_option maxHeartbeats 1600000 in
theorem scSort_any (base g cap : Nat) (l : List (Int × Int × Int)) (W : World) (h : OwnE elP W base 43 (.slice (some ⟨g, 0, none⟩) l.length cap) l) (hl : l.length ≤ 10000000) (hnd : l.Nodup) :
  Calls Tryz.prog 38 #[.slice (some ⟨g, 0, none⟩) l.length cap, .func (.func 20) #[] #[]] W (scSortR base g cap l W) := by
 have eg : ∀ args w, (callFunc 20 args).run Tryz.prog w = .ok (.enter 20 args) w := enters_of Tryz.func20 (by kernel_rfl) rfl
 have hH := OwnE.holdsK h rfl
 have hblk : g < W.heap.size := (OwnE.lt h g rfl).2
 have hcon := AnyQ.slices_SortFunc sortC 3 Tryz.isAgg43 Tryz.sizeOf43 elP.c (fun _ => rfl) elP.one cmp3 cmp3_swo 20 #[] g 0 cap l.toArray W eg (fun _ _ _ _ x y => cmp3c_any x y _) hH hblk (by simp; omega)
 change Calls Tryz.prog 38 _ _ _ at hcon
 have hs0 : l.toArray.size = l.length := by simp
 rw [hs0] at hcon
 refine hcon.mono ?_
 rintro e W' ⟨rfl, d', n, os, hp, hs, rfl⟩
 obtain ⟨p1, -, p3⟩ := hp
 have hd : d'.size = l.length := by rw [p1, hs0]
 obtain ⟨o1, o2⟩ := OwnE.sortK h rfl d' hd n os
 have hperm : d'.toList.Perm l := by
  have e1 : (d'.extract 0 l.length) = d' := by rw [← hd]; exact Array.extract_size
  have e2 : (l.toArray.extract 0 l.length) = l.toArray := by rw [← hs0]; exact Array.extract_size
  rw [e1, e2] at p3
  exact p3
 have hnd' : d'.toList.Nodup := hperm.nodup_iff.2 hnd
 refine ⟨d'.toList, rfl, hperm, List.pairwise_iff_getElem.2 fun i j hi hj hij => ?_, o1, o2⟩
 have hjl : j < d'.size := by simpa using hj
 have h1 := hs i j (Nat.zero_le _) hij (by rw [← hd]; exact hjl)
 rw [cmp3_lt, decide_eq_false_iff_not] at h1
 rw [getElem!_pos d' j hjl, getElem!_pos d' i (by omega)] at h1
 have e1 : d'.toList[i] = d'[i]'(by omega) := by simp
 have e2 : d'.toList[j] = d'[j] := by simp
 rw [e1, e2]
 rcases sto3.tri (d'[i]'(by omega)) d'[j] with h2 | h2 | h2
 ·exact h2
 ·exfalso
  rw [← e1, ← e2] at h2
  have := (List.getElem_inj hnd').1 h2
  omega
 ·exact absurd h2 h1
theorem scSort_nil (fv : Value) (c : Nat) (W : World) :
  Calls Tryz.prog 38 #[.slice none 0 c, fv] W fun e W' => e = .returned (.tuple #[]) ∧ W' = W := AnyF.slices_SortFunc_none sortC none c fv W
theorem ckKeyed : Keyed Tryz.prog 43 := Keyed.of_law (deep_law_laid laidOut (m := 2) (by omega) (of_decide_eq_true (by kernel_rfl)) (by kernel_rfl) (by rw [Tryz.underlying43]))
theorem ckWf (x : Int × Int × Int) (h : inI x.1 ∧ inI x.2.1 ∧ inI x.2.2) : ∃ kl, keyOf Tryz.prog 43 (pv x) = some kl := by
 obtain ⟨x1, x2, x3⟩ := x
 obtain ⟨h1, h2, h3⟩ := h
 have wf : ∀ x : Int, inI x → (Lit.int .i64 x).wf = true := fun x hx => WalkArith.wf_i64 (by unfold inI at hx; omega)
 have wi : ∀ (d : Nat) (x : Int), inI x → Tryz.prog.keyLits (d + 1) 3 [.int .i64 x] = some [.int .i64 x] := fun d x hx => by
  simp [Program.keyLits, Tryz.underlying3, wf x hx]
 have hsz : ∃ d, Tryz.prog.types.size + 1 = d + 2 := ⟨Tryz.prog.types.size - 1, by have : 0 < Tryz.prog.types.size := of_decide_eq_true (by kernel_rfl); omega⟩
 obtain ⟨d, hd⟩ := hsz
 have ktype : Tryz.prog.keyType 43 = true := by kernel_rfl
 have cellsK : Tryz.prog.cellsOf 43 = 3 := by kernel_rfl
 unfold keyOf
 rw [Tryz.underlying43, hd]
 simp only [ktype, Bool.true_and]
 have hf : (Value.agg #[.int .i64 x1, .int .i64 x2, .int .i64 x3]).formed Tryz.prog 43 = true := by simp [Value.formed, Tryz.underlying43, cellsK]
 rw [if_pos hf]
 unfold Program.keyLits
 simp only [Tryz.underlying43]
 simp [cellsK, cI, wi, h1, h2, h3, Value.cells]
def ascCR (l : List (Int × Int × Int)) (W : World) (e : Ending) (W' : World) : Prop := ∃ a c L, e = .returned (.slice a L.length c) ∧ OwnE elP W' W.heap.size 43 (.slice a L.length c) L ∧ L.Pairwise lt3 ∧ (∀ x, x ∈ L ↔ x ∈ l) ∧ Below W.heap.size W W'
theorem sUs : SliceOf Tryz.prog 44 47 (.agg #[.int .i64 0, .int .i64 0, .int .i64 0]) 3 24 := ⟨Tryz.underlying44, info_parts (P := Tryz.prog) (e := 47) (by kernel_rfl)⟩
def suSortR (base g cap : Nat) (l : List (Int × Int × Int)) (W : World) (e : Ending) (W' : World) : Prop := ∃ l' : List (Int × Int × Int), e = .returned (.tuple #[]) ∧ l'.Perm l ∧ l'.Pairwise lt3 ∧ OwnE elP W' base 47 (.slice (some ⟨g, 0, none⟩) l.length cap) l' ∧ W.grownBy W' (some g)
set_option maxHeartbeats 1600000 in
theorem suSort_any (base g cap : Nat) (l : List (Int × Int × Int)) (W : World) (h : OwnE elP W base 47 (.slice (some ⟨g, 0, none⟩) l.length cap) l) (hl : l.length ≤ 1000000000) (hnd : l.Nodup) :
  Calls Tryz.prog 40 #[.slice (some ⟨g, 0, none⟩) l.length cap, .func (.func 23) #[] #[]] W (suSortR base g cap l W) := by
 have eg : ∀ args w, (callFunc 23 args).run Tryz.prog w = .ok (.enter 23 args) w := enters_of Tryz.func23 (by kernel_rfl) rfl
 have hH := OwnE.holdsK h rfl
 have hblk : g < W.heap.size := (OwnE.lt h g rfl).2
 have hcon := AnyQ.slices_SortFunc sortU 3 Tryz.isAgg47 Tryz.sizeOf47 elP.c (fun _ => rfl) elP.one cmp3 cmp3_swo 23 #[] g 0 cap l.toArray W eg (fun _ _ _ _ x y => cmp3u_any x y _) hH hblk (by simp; omega)
 change Calls Tryz.prog 40 _ _ _ at hcon
 have hs0 : l.toArray.size = l.length := by simp
 rw [hs0] at hcon
 refine hcon.mono ?_
 rintro e W' ⟨rfl, d', n, os, hp, hs, rfl⟩
 obtain ⟨p1, -, p3⟩ := hp
 have hd : d'.size = l.length := by rw [p1, hs0]
 obtain ⟨o1, o2⟩ := OwnE.sortK h rfl d' hd n os
 have hperm : d'.toList.Perm l := by
  have e1 : (d'.extract 0 l.length) = d' := by rw [← hd]; exact Array.extract_size
  have e2 : (l.toArray.extract 0 l.length) = l.toArray := by rw [← hs0]; exact Array.extract_size
  rw [e1, e2] at p3
  exact p3
 have hnd' : d'.toList.Nodup := hperm.nodup_iff.2 hnd
 refine ⟨d'.toList, rfl, hperm, List.pairwise_iff_getElem.2 fun i j hi hj hij => ?_, o1, o2⟩
 have hjl : j < d'.size := by simpa using hj
 have h1 := hs i j (Nat.zero_le _) hij (by rw [← hd]; exact hjl)
 rw [cmp3_lt, decide_eq_false_iff_not] at h1
 rw [getElem!_pos d' j hjl, getElem!_pos d' i (by omega)] at h1
 have e1 : d'.toList[i] = d'[i]'(by omega) := by simp
 have e2 : d'.toList[j] = d'[j] := by simp
 rw [e1, e2]
 rcases sto3.tri (d'[i]'(by omega)) d'[j] with h2 | h2 | h2
 ·exact h2
 ·exfalso
  rw [← e1, ← e2] at h2
  have := (List.getElem_inj hnd').1 h2
  omega
 ·exact absurd h2 h1
theorem suSort_nil (fv : Value) (c : Nat) (W : World) :
  Calls Tryz.prog 40 #[.slice none 0 c, fv] W fun e W' => e = .returned (.tuple #[]) ∧ W' = W := AnyF.slices_SortFunc_none sortU none c fv W
theorem ukKeyed : Keyed Tryz.prog 47 := Keyed.of_law (deep_law_laid laidOut (m := 2) (by omega) (of_decide_eq_true (by kernel_rfl)) (by kernel_rfl) (by rw [Tryz.underlying47]))
theorem ukWf (x : Int × Int × Int) (h : inI x.1 ∧ inI x.2.1 ∧ inI x.2.2) : ∃ kl, keyOf Tryz.prog 47 (pv x) = some kl := by
 obtain ⟨x1, x2, x3⟩ := x
 obtain ⟨h1, h2, h3⟩ := h
 have wf : ∀ x : Int, inI x → (Lit.int .i64 x).wf = true := fun x hx => WalkArith.wf_i64 (by unfold inI at hx; omega)
 have wi : ∀ (d : Nat) (x : Int), inI x → Tryz.prog.keyLits (d + 1) 3 [.int .i64 x] = some [.int .i64 x] := fun d x hx => by
  simp [Program.keyLits, Tryz.underlying3, wf x hx]
 have hsz : ∃ d, Tryz.prog.types.size + 1 = d + 2 := ⟨Tryz.prog.types.size - 1, by have : 0 < Tryz.prog.types.size := of_decide_eq_true (by kernel_rfl); omega⟩
 obtain ⟨d, hd⟩ := hsz
 have ktype : Tryz.prog.keyType 47 = true := by kernel_rfl
 have cellsK : Tryz.prog.cellsOf 47 = 3 := by kernel_rfl
 unfold keyOf
 rw [Tryz.underlying47, hd]
 simp only [ktype, Bool.true_and]
 have hf : (Value.agg #[.int .i64 x1, .int .i64 x2, .int .i64 x3]).formed Tryz.prog 47 = true := by simp [Value.formed, Tryz.underlying47, cellsK]
 rw [if_pos hf]
 unfold Program.keyLits
 simp only [Tryz.underlying47]
 simp [cellsK, cI, wi, h1, h2, h3, Value.cells]
def ascUR (l : List (Int × Int × Int)) (W : World) (e : Ending) (W' : World) : Prop := ∃ a c L, e = .returned (.slice a L.length c) ∧ OwnE elP W' W.heap.size 47 (.slice a L.length c) L ∧ L.Pairwise lt3 ∧ (∀ x, x ∈ L ↔ x ∈ l) ∧ Below W.heap.size W W'
end Go.Proofs.YtnklnklkblgnfaaGreatDoor
end
section
namespace Go.Proofs.YtnklnklkblgnfaaGreatDoor
open Go.RowKit Go.Dfl Go.Gra Go.Obs Go.Sort Go.Maps
theorem nodup_le' {α : Type} [DecidableEq α] {l m : List α} (hl : l.Nodup) (h : ∀ x ∈ l, x ∈ m) : l.length ≤ m.length := by
 induction l generalizing m with
 | nil => simp
 | cons a l ih =>
   rw [List.nodup_cons] at hl
   have := ih hl.2 (m := m.erase a) fun x hx => (List.mem_erase_of_ne (fun e => hl.1 (by rw [← e]; exact hx))).2 (h x (by simp [hx]))
   rw [List.length_erase_of_mem (h a (by simp))] at this
   have := List.length_pos_of_mem (h a (by simp))
   simp; omega
theorem nodup_snoc {α : Type} {l : List α} {x : α} (h : l.Nodup) (hx : x ∉ l) : (l ++ [x]).Nodup := by
 rw [List.nodup_append]
 exact ⟨h, by simp, fun a ha b hb => by rw [List.mem_singleton.1 hb]; exact fun e => hx (e ▸ ha)⟩
theorem _root_.Go.Dfl.OwnE.shape2 {α : Type} {E : El α} {w : World} {base : Nat} {e : TypeId} {a : Option Addr} {c : Nat} {l : List α} (h : OwnE E w base e (.slice a l.length c) l) : (a = none ∧ l = [] ∧ c = 0) ∨ ∃ g, a = some ⟨g, 0, none⟩ := by
 obtain ⟨h1, ⟨h2, h3⟩ | ⟨g, cap, cur, hv, r⟩⟩ := h
 ·simp only [Value.slice.injEq] at h2
  exact .inl ⟨h2.1, List.eq_nil_of_length_eq_zero h3, h2.2.2⟩
 ·simp only [Value.slice.injEq] at hv
  exact .inr ⟨g, hv.1⟩
theorem _root_.Go.World.size_alloc' (w : World) (o : Obj) : (w.alloc o).heap.size = w.heap.size + 1 := World.size_alloc _ _
set_option maxHeartbeats 3200000 in
set_option maxRecDepth 100000 in
theorem ascP_any (b n : Nat) (l : List (Int × Int × Int)) (W : World) (h : SetT Tryz.prog 39 4 W b n (l.map pv)) (hn : n ≤ 2000000) (hln : l.length ≤ 2000000) (hw : ∀ x ∈ l, inI x.1 ∧ inI x.2.1 ∧ inI x.2.2) :
  Calls Tryz.prog 14 #[.map (some b), .func (.func 15) #[] #[]] W (ascPR l W) := by
 have H0 := Lib.hid (And.intro h (And.intro h.lt hln))
 have HW := Lib.hid hw
 obtain ⟨m, hm, hlen⟩ := h.len (t := 71) Tryz.underlying71
 clear h hw hln
 go_enter Tryz.func14, Tryz.ntmps14
 go_wp2_with (at_make; refine wp_make0 (E := elP) sPf _ rfl _ _ rfl .i64 .i64 m rfl rfl (by omega) (by unfold maxLen; omega) ?_)
 intro W1 hown hb1
 have hbz := hb1.size
 have H1 := Lib.hid (And.intro hown (And.intro hb1 (H0.out.1.kept (grownBy_below hb1) (by simp))))
 clear hown hb1 hlen
 go_wp2_with (at_range; refine wp_setRange H1.out.2.2 rfl _ rfl pkKeyed Tryz.underlying71 rfl ?_; intro W2 cnt hr hg2 hs2; have H2 := Lib.hid (And.intro hr (And.intro hg2 hs2)); clear hr hg2 hs2)
 go_frame
 obtain ⟨r, hr⟩ : ∃ r, r = W1.heap.size := ⟨_, rfl⟩
 obtain ⟨B, hB⟩ : ∃ B, B = W.heap.size := ⟨_, rfl⟩
 have H3 : Hid (RngT Tryz.prog 39 4 W2 b r n (l.map pv) ([].map pv) cnt ∧ OwnE elP W2 B 39 (.slice (some ⟨B, 0, none⟩) 0 m) [] ∧ Below B W W2 ∧ B ≤ W2.heap.size) := Lib.hid (by
  rw [hr, hB]
  have h9 := H1.out.2.1.grown H2.out.2.1 H1.out.2.1.size (by simp)
  exact ⟨H2.out.1, H1.out.1.grown H2.out.2.1 (.inr (by simp [Value.ownBlock])), h9, h9.size⟩)
 have HR := Lib.hid (And.intro hr (And.intro hB (show b < B ∧ B < r by
  rw [hr, hB]
  exact ⟨H0.out.2.1, (OwnE.lt H1.out.1 _ rfl).2⟩)))
 rw [← hr, ← hB]
 clear hr hB H1 H2
 go_loopw [5] (fun v wr => ∃ (S : List (Int × Int × Int)) (a : Option Addr) (c cnt : Nat), v = .slice a S.length c ∧ Hid (RngT Tryz.prog 39 4 wr b r n (l.map pv) (S.map pv) cnt ∧ OwnE elP wr B 39 (.slice a S.length c) S ∧ Below B W wr ∧ S.Nodup ∧ (∀ x ∈ S, x ∈ l) ∧ (∀ q, (Value.slice a S.length c).ownBlock = some q → q ≠ r))) (fun _ wr => wr.rangeLeft b r)
 case atStart => exact ⟨[], some ⟨B, 0, none⟩, m, cnt, rfl, H3.out.1, H3.out.2.1, H3.out.2.2.1, List.nodup_nil, by simp, fun q hq => by have := HR.out.2.2.2; simp [Value.ownBlock] at hq; omega⟩
 case round =>
  obtain ⟨S, a, c, cnt, rfl, hh⟩ := hrel
  have HL := Lib.hid hh.out
  have hrg := hh.out.1
  clear hh
  go_upto_region 5 with (at_next; refine wp_setNext3 pv (fun _ _ _ => rfl) HL.out.1 rfl _ rfl pkKeyed Tryz.underlying4 rfl (fun HD => ?_) (fun x1 x2 x3 cb W3 HN hen => ?_); all_goals clear hrg)
  ·have hmem : ∀ x, x ∈ S ↔ x ∈ l := fun x => ⟨HL.out.2.2.2.2.1 x, fun hx => by
    obtain ⟨y, hy, he⟩ := List.mem_map.1 (HD.out x (pkWf x (HW.out x hx)) hx)
    rw [← pv_inj he]; exact hy⟩
   have hSl : S.length ≤ 2000000 := Nat.le_trans (nodup_le' HL.out.2.2.2.1 HL.out.2.2.2.2.1) H0.out.2.2
   have HM := Lib.hid hmem
   have hB := HR.out.2.1
   have HF : Hid (Below W.heap.size W wr) := Lib.hid (hB ▸ HL.out.2.2.1)
   have hown := HL.out.2.1
   rw [hB] at hown
   clear hmem
   rcases hown.shape2 with ⟨rfl, hz, rfl⟩ | ⟨g, rfl⟩
   ·have HZ := Lib.hid hz
    have hl0 : S.length = 0 := by rw [hz]; rfl
    rw [hl0]
    refine (spSort_nil _ _ wr).mono ?_
    rintro e W5 ⟨rfl, rfl⟩
    clear hown hB hz hl0
    go_wp2_with fail
    go_ret
    exact ⟨none, 0, S, by rw [HZ.out]; rfl, by rw [HZ.out]; exact Go.Dfl.OwnE.nil _ _ _ _, by rw [HZ.out]; exact List.Pairwise.nil, HM.out, HF.out⟩
   ·have hs := spSort_any W.heap.size g c S wr hown (by omega) HL.out.2.2.2.1
    have hg := (OwnE.lt hown g rfl).1
    have HG := Lib.hid hg
    clear hown hB hg
    refine hs.mono ?_
    rintro e W5 ⟨L, rfl, hp, hpw, ho, hgr⟩
    have hlen := hp.length_eq
    have H5 := Lib.hid (And.intro hp (And.intro hpw (And.intro ho (And.intro (HF.out.grown hgr HF.out.size (fun q e9 => by have := HG.out; have := Option.some.inj e9; omega)) hlen))))
    clear hs hp hpw ho hgr hlen
    go_wp2_with fail
    go_ret
    exact ⟨some ⟨g, 0, none⟩, c, L, by rw [H5.out.2.2.2.2]; rfl, by rw [H5.out.2.2.2.2]; exact H5.out.2.2.1, H5.out.2.1, fun x => by rw [H5.out.1.mem_iff]; exact HM.out x, H5.out.2.2.2.1⟩
  ·obtain ⟨cnt3, k1, k2, k3, k4, k5, k6⟩ := HN.out
   have hSl : (S ++ [(x1, x2, x3)]).length ≤ 2000000 := Nat.le_trans (nodup_le' (nodup_snoc HL.out.2.2.2.1 k2) (fun y hy => by
    rcases List.mem_append.1 hy with hy | hy
    ·exact HL.out.2.2.2.2.1 y hy
    ·rw [List.mem_singleton.1 hy]; exact k1)) H0.out.2.2
   rw [List.length_append, List.length_singleton] at hSl
   have hown : OwnE elP W3 B 39 (.slice a S.length c) S := HL.out.2.1.grown k5 (by
    cases hq : (Value.slice a S.length c).ownBlock with
    | none => exact .inl rfl
    | some q => exact .inr fun e9 => HL.out.2.2.2.2.2 q hq (Option.some.inj e9))
   have hBz : B ≤ wr.heap.size := by rw [HR.out.2.1]; exact HL.out.2.2.1.size
   have hBz3 : B ≤ W3.heap.size := by rw [k6]; exact hBz
   have hbel : Below B W W3 := HL.out.2.2.1.grown k5 hBz (fun q e9 => by have := HR.out.2.2.2; have := Option.some.inj e9; omega)
   have hbA := hbel.alloc hBz3 (.cells #[.int .i64 x1, .int .i64 x2, .int .i64 x3] 39)
   have hrl := k3.lt
   have hbx := cells_new (W := W3) (cs := [.int .i64 x1, .int .i64 x2, .int .i64 x3]) (t := 39) rfl
   have hA : RngT Tryz.prog 39 4 (W3.alloc (.cells #[.int .i64 x1, .int .i64 x2, .int .i64 x3] 39)) b r n (l.map pv) ((S ++ [(x1, x2, x3)]).map pv) cnt3 ∧ OwnE elP (W3.alloc (.cells #[.int .i64 x1, .int .i64 x2, .int .i64 x3] 39)) B 39 (.slice a S.length c) S ∧ Below B W (W3.alloc (.cells #[.int .i64 x1, .int .i64 x2, .int .i64 x3] 39)) ∧ ((W3.alloc (.cells #[.int .i64 x1, .int .i64 x2, .int .i64 x3] 39)).cell? ⟨W3.heap.size, 0, none⟩ = some (.int .i64 x1) ∧ (W3.alloc (.cells #[.int .i64 x1, .int .i64 x2, .int .i64 x3] 39)).cell? ⟨W3.heap.size, 1, none⟩ = some (.int .i64 x2) ∧ (W3.alloc (.cells #[.int .i64 x1, .int .i64 x2, .int .i64 x3] 39)).cell? ⟨W3.heap.size, 2, none⟩ = some (.int .i64 x3)) ∧ r < (W3.alloc (.cells #[.int .i64 x1, .int .i64 x2, .int .i64 x3] 39)).heap.size :=
    ⟨k3.kept (grownBy_alloc _ _) (by simp) (by simp), hown.grown (grownBy_alloc _ _) (by cases (Value.slice a S.length c).ownBlock <;> simp), hbA, ⟨hbx 0 _ rfl, hbx 1 _ rfl, hbx 2 _ rfl⟩, by rw [World.size_alloc]; have := k3.lt.1; omega⟩
   have HN2 := Lib.hid (And.intro k1 (And.intro k2 k4))
   clear k1 k2 k4 k5 k6 hown hbel hbA hbx HN k3 hrl hen
   refine gen_code (fun Z => RngT Tryz.prog 39 4 Z b r n (l.map pv) ((S ++ [(x1, x2, x3)]).map pv) cnt3 ∧ OwnE elP Z B 39 (.slice a S.length c) S ∧ Below B W Z ∧ (Z.cell? ⟨W3.heap.size, 0, none⟩ = some (.int .i64 x1) ∧ Z.cell? ⟨W3.heap.size, 1, none⟩ = some (.int .i64 x2) ∧ Z.cell? ⟨W3.heap.size, 2, none⟩ = some (.int .i64 x3)) ∧ r < Z.heap.size) hA ?_
   intro Z hz
   obtain ⟨bx, hbx⟩ : ∃ q, q = W3.heap.size := ⟨_, rfl⟩
   rw [← hbx] at hz ⊢
   obtain ⟨z1, z2, z3⟩ := hz.2.2.2.1
   have HZ := Lib.hid hz
   have hsz : B ≤ Z.heap.size := by rw [HR.out.2.1]; exact hz.2.2.1.size
   have hlen1 : (S.length + 1) * 24 ≤ 140737488355328 := by omega
   have hlen2 : S.length + 1 ≤ 1000000000000 := by omega
   have HO9 := Lib.hid (OwnE.grown hz.2.1 (grownBy_alloc Z (.cells #[.int .i64 x1, .int .i64 x2, .int .i64 x3] 39)) (by cases (Value.slice a S.length c).ownBlock <;> simp))
   clear hA hz hbx hBz hBz3
   go_wp2_with (at_builtin; refine wp_appendE (E := elP) sPf rfl rfl _ _ rfl (v := .slice a S.length c) (l := S) (base := B) rfl Z.heap.size rfl HO9.out (x1, x2, x3) (cells_new (W := Z) (cs := [.int .i64 x1, .int .i64 x2, .int .i64 x3]) (t := 39) rfl) hlen1 hlen2 (le_alloc _ hsz) ?_; intro v' w3 hown hgr hat; obtain ⟨s9, c9, rfl⟩ := hown.shape (n := S.length + 1) (by rw [List.length_append]; rfl); have HO := Lib.hid (And.intro hown (And.intro hgr hat)); clear hown hgr hat)
   have hne : ∀ q, (Value.slice a S.length c).ownBlock = some q → q ≠ r := HL.out.2.2.2.2.2
   have hrk : RngT Tryz.prog 39 4 w3 b r n (l.map pv) ((S ++ [(x1, x2, x3)]).map pv) cnt3 := (HZ.out.1.kept (grownBy_alloc _ _) (by simp) (by simp)).kept HO.out.2.1 (fun e9 => by
    have := (HL.out.2.1.lt b e9.symm).1; have := HR.out.2.2.1; omega) (fun e9 => hne r e9.symm rfl)
   have hb3 : Below B W w3 := (HZ.out.2.2.1.alloc hsz _).grown HO.out.2.1 (by rw [World.size_alloc]; omega) (fun q e9 => (HL.out.2.1.lt q e9).1)
   have HK := Lib.hid (And.intro hrk hb3)
   have hnq : ∀ q, (Value.slice s9 (S.length + 1) c9).ownBlock = some q → q ≠ r := fun q e9 => by
    rcases HO.out.2.2 with h9 | h9
    ·exact hne q (by rw [← h9]; exact e9)
    ·rw [h9, World.size_alloc'] at e9
     have := HZ.out.2.2.2.2; have := Option.some.inj e9; omega
   have HQ := Lib.hid hnq
   clear hne hrk hb3 hnq
   go_roundw
   case rel => exact ⟨S ++ [(x1, x2, x3)], s9, c9, cnt3, by rw [List.length_append]; rfl, HK.out.1, by rw [List.length_append]; exact HO.out.1, HK.out.2, nodup_snoc HL.out.2.2.2.1 HN2.out.2.1, fun y hy => by
    rcases List.mem_append.1 hy with hy | hy
    ·exact HL.out.2.2.2.2.1 y hy
    ·rw [List.mem_singleton.1 hy]; exact HN2.out.1, by rw [List.length_append]; exact HQ.out⟩
   case measure => rw [HK.out.1.left_eq, HL.out.1.left_eq]; exact HN2.out.2.2
set_option maxHeartbeats 3200000 in
set_option maxRecDepth 100000 in
theorem ascN_any (b n : Nat) (l : List (Int × Int × Int × Int)) (W : World) (h : SetT Tryz.prog 57 4 W b n (l.map nv)) (hn : n ≤ 2000000) (hln : l.length ≤ 2000000) (hw : ∀ x ∈ l, inI x.1 ∧ inI x.2.1 ∧ inI x.2.2.1 ∧ inI x.2.2.2) :
  Calls Tryz.prog 24 #[.map (some b), .func (.func 25) #[] #[]] W (ascNR l W) := by
 have H0 := Lib.hid (And.intro h (And.intro h.lt hln))
 have HW := Lib.hid hw
 obtain ⟨m, hm, hlen⟩ := h.len (t := 88) Tryz.underlying88
 clear h hw hln
 go_enter Tryz.func24, Tryz.ntmps24
 go_wp2_with (at_make; refine wp_make0 (E := elN) sNf _ rfl _ _ rfl .i64 .i64 m rfl rfl (by omega) (by unfold maxLen; omega) ?_)
 intro W1 hown hb1
 have hbz := hb1.size
 have H1 := Lib.hid (And.intro hown (And.intro hb1 (H0.out.1.kept (grownBy_below hb1) (by simp))))
 clear hown hb1 hlen
 go_wp2_with (at_range; refine wp_setRange H1.out.2.2 rfl _ rfl nkKeyed Tryz.underlying88 rfl ?_; intro W2 cnt hr hg2 hs2; have H2 := Lib.hid (And.intro hr (And.intro hg2 hs2)); clear hr hg2 hs2)
 go_frame
 obtain ⟨r, hr⟩ : ∃ r, r = W1.heap.size := ⟨_, rfl⟩
 obtain ⟨B, hB⟩ : ∃ B, B = W.heap.size := ⟨_, rfl⟩
 have H3 : Hid (RngT Tryz.prog 57 4 W2 b r n (l.map nv) ([].map nv) cnt ∧ OwnE elN W2 B 57 (.slice (some ⟨B, 0, none⟩) 0 m) [] ∧ Below B W W2 ∧ B ≤ W2.heap.size) := Lib.hid (by
  rw [hr, hB]
  have h9 := H1.out.2.1.grown H2.out.2.1 H1.out.2.1.size (by simp)
  exact ⟨H2.out.1, H1.out.1.grown H2.out.2.1 (.inr (by simp [Value.ownBlock])), h9, h9.size⟩)
 have HR := Lib.hid (And.intro hr (And.intro hB (show b < B ∧ B < r by
  rw [hr, hB]
  exact ⟨H0.out.2.1, (OwnE.lt H1.out.1 _ rfl).2⟩)))
 rw [← hr, ← hB]
 clear hr hB H1 H2
 go_loopw [5] (fun v wr => ∃ (S : List (Int × Int × Int × Int)) (a : Option Addr) (c cnt : Nat), v = .slice a S.length c ∧ Hid (RngT Tryz.prog 57 4 wr b r n (l.map nv) (S.map nv) cnt ∧ OwnE elN wr B 57 (.slice a S.length c) S ∧ Below B W wr ∧ S.Nodup ∧ (∀ x ∈ S, x ∈ l) ∧ (∀ q, (Value.slice a S.length c).ownBlock = some q → q ≠ r))) (fun _ wr => wr.rangeLeft b r)
 case atStart => exact ⟨[], some ⟨B, 0, none⟩, m, cnt, rfl, H3.out.1, H3.out.2.1, H3.out.2.2.1, List.nodup_nil, by simp, fun q hq => by have := HR.out.2.2.2; simp [Value.ownBlock] at hq; omega⟩
 case round =>
  obtain ⟨S, a, c, cnt, rfl, hh⟩ := hrel
  have HL := Lib.hid hh.out
  have hrg := hh.out.1
  clear hh
  go_upto_region 5 with (at_next; refine wp_setNext4 nv (fun _ _ _ _ => rfl) HL.out.1 rfl _ rfl nkKeyed Tryz.underlying4 rfl (fun HD => ?_) (fun x1 x2 x3 x4 cb W3 HN hen => ?_); all_goals clear hrg)
  ·have hmem : ∀ x, x ∈ S ↔ x ∈ l := fun x => ⟨HL.out.2.2.2.2.1 x, fun hx => by
    obtain ⟨y, hy, he⟩ := List.mem_map.1 (HD.out x (nkWf x (HW.out x hx)) hx)
    rw [← nv_inj he]; exact hy⟩
   have hSl : S.length ≤ 2000000 := Nat.le_trans (nodup_le' HL.out.2.2.2.1 HL.out.2.2.2.2.1) H0.out.2.2
   have HM := Lib.hid hmem
   have hB := HR.out.2.1
   have HF : Hid (Below W.heap.size W wr) := Lib.hid (hB ▸ HL.out.2.2.1)
   have hown := HL.out.2.1
   rw [hB] at hown
   clear hmem
   rcases hown.shape2 with ⟨rfl, hz, rfl⟩ | ⟨g, rfl⟩
   ·have HZ := Lib.hid hz
    have hl0 : S.length = 0 := by rw [hz]; rfl
    rw [hl0]
    refine (snSort_nil _ _ wr).mono ?_
    rintro e W5 ⟨rfl, rfl⟩
    clear hown hB hz hl0
    go_wp2_with fail
    go_ret
    exact ⟨none, 0, S, by rw [HZ.out]; rfl, by rw [HZ.out]; exact Go.Dfl.OwnE.nil _ _ _ _, by rw [HZ.out]; exact List.Pairwise.nil, HM.out, HF.out⟩
   ·have hs := snSort_any W.heap.size g c S wr hown (by omega) HL.out.2.2.2.1
    have hg := (OwnE.lt hown g rfl).1
    have HG := Lib.hid hg
    clear hown hB hg
    refine hs.mono ?_
    rintro e W5 ⟨L, rfl, hp, hpw, ho, hgr⟩
    have hlen := hp.length_eq
    have H5 := Lib.hid (And.intro hp (And.intro hpw (And.intro ho (And.intro (HF.out.grown hgr HF.out.size (fun q e9 => by have := HG.out; have := Option.some.inj e9; omega)) hlen))))
    clear hs hp hpw ho hgr hlen
    go_wp2_with fail
    go_ret
    exact ⟨some ⟨g, 0, none⟩, c, L, by rw [H5.out.2.2.2.2]; rfl, by rw [H5.out.2.2.2.2]; exact H5.out.2.2.1, H5.out.2.1, fun x => by rw [H5.out.1.mem_iff]; exact HM.out x, H5.out.2.2.2.1⟩
  ·obtain ⟨cnt3, k1, k2, k3, k4, k5, k6⟩ := HN.out
   have hSl : (S ++ [(x1, x2, x3, x4)]).length ≤ 2000000 := Nat.le_trans (nodup_le' (nodup_snoc HL.out.2.2.2.1 k2) (fun y hy => by
    rcases List.mem_append.1 hy with hy | hy
    ·exact HL.out.2.2.2.2.1 y hy
    ·rw [List.mem_singleton.1 hy]; exact k1)) H0.out.2.2
   rw [List.length_append, List.length_singleton] at hSl
   have hown : OwnE elN W3 B 57 (.slice a S.length c) S := HL.out.2.1.grown k5 (by
    cases hq : (Value.slice a S.length c).ownBlock with
    | none => exact .inl rfl
    | some q => exact .inr fun e9 => HL.out.2.2.2.2.2 q hq (Option.some.inj e9))
   have hBz : B ≤ wr.heap.size := by rw [HR.out.2.1]; exact HL.out.2.2.1.size
   have hBz3 : B ≤ W3.heap.size := by rw [k6]; exact hBz
   have hbel : Below B W W3 := HL.out.2.2.1.grown k5 hBz (fun q e9 => by have := HR.out.2.2.2; have := Option.some.inj e9; omega)
   have hbA := hbel.alloc hBz3 (.cells #[.int .i64 x1, .int .i64 x2, .int .i64 x3, .int .i64 x4] 57)
   have hrl := k3.lt
   have hbx := cells_new (W := W3) (cs := [.int .i64 x1, .int .i64 x2, .int .i64 x3, .int .i64 x4]) (t := 57) rfl
   have hA : RngT Tryz.prog 57 4 (W3.alloc (.cells #[.int .i64 x1, .int .i64 x2, .int .i64 x3, .int .i64 x4] 57)) b r n (l.map nv) ((S ++ [(x1, x2, x3, x4)]).map nv) cnt3 ∧ OwnE elN (W3.alloc (.cells #[.int .i64 x1, .int .i64 x2, .int .i64 x3, .int .i64 x4] 57)) B 57 (.slice a S.length c) S ∧ Below B W (W3.alloc (.cells #[.int .i64 x1, .int .i64 x2, .int .i64 x3, .int .i64 x4] 57)) ∧ ((W3.alloc (.cells #[.int .i64 x1, .int .i64 x2, .int .i64 x3, .int .i64 x4] 57)).cell? ⟨W3.heap.size, 0, none⟩ = some (.int .i64 x1) ∧ (W3.alloc (.cells #[.int .i64 x1, .int .i64 x2, .int .i64 x3, .int .i64 x4] 57)).cell? ⟨W3.heap.size, 1, none⟩ = some (.int .i64 x2) ∧ (W3.alloc (.cells #[.int .i64 x1, .int .i64 x2, .int .i64 x3, .int .i64 x4] 57)).cell? ⟨W3.heap.size, 2, none⟩ = some (.int .i64 x3) ∧ (W3.alloc (.cells #[.int .i64 x1, .int .i64 x2, .int .i64 x3, .int .i64 x4] 57)).cell? ⟨W3.heap.size, 3, none⟩ = some (.int .i64 x4)) ∧ r < (W3.alloc (.cells #[.int .i64 x1, .int .i64 x2, .int .i64 x3, .int .i64 x4] 57)).heap.size :=
    ⟨k3.kept (grownBy_alloc _ _) (by simp) (by simp), hown.grown (grownBy_alloc _ _) (by cases (Value.slice a S.length c).ownBlock <;> simp), hbA, ⟨hbx 0 _ rfl, hbx 1 _ rfl, hbx 2 _ rfl, hbx 3 _ rfl⟩, by rw [World.size_alloc]; have := k3.lt.1; omega⟩
   have HN2 := Lib.hid (And.intro k1 (And.intro k2 k4))
   clear k1 k2 k4 k5 k6 hown hbel hbA hbx HN k3 hrl hen
   refine gen_code (fun Z => RngT Tryz.prog 57 4 Z b r n (l.map nv) ((S ++ [(x1, x2, x3, x4)]).map nv) cnt3 ∧ OwnE elN Z B 57 (.slice a S.length c) S ∧ Below B W Z ∧ (Z.cell? ⟨W3.heap.size, 0, none⟩ = some (.int .i64 x1) ∧ Z.cell? ⟨W3.heap.size, 1, none⟩ = some (.int .i64 x2) ∧ Z.cell? ⟨W3.heap.size, 2, none⟩ = some (.int .i64 x3) ∧ Z.cell? ⟨W3.heap.size, 3, none⟩ = some (.int .i64 x4)) ∧ r < Z.heap.size) hA ?_
   intro Z hz
   obtain ⟨bx, hbx⟩ : ∃ q, q = W3.heap.size := ⟨_, rfl⟩
   rw [← hbx] at hz ⊢
   obtain ⟨z1, z2, z3, z4⟩ := hz.2.2.2.1
   have HZ := Lib.hid hz
   have hsz : B ≤ Z.heap.size := by rw [HR.out.2.1]; exact hz.2.2.1.size
   have hlen1 : (S.length + 1) * 32 ≤ 140737488355328 := by omega
   have hlen2 : S.length + 1 ≤ 1000000000000 := by omega
   have HO9 := Lib.hid (OwnE.grown hz.2.1 (grownBy_alloc Z (.cells #[.int .i64 x1, .int .i64 x2, .int .i64 x3, .int .i64 x4] 57)) (by cases (Value.slice a S.length c).ownBlock <;> simp))
   clear hA hz hbx hBz hBz3
   go_wp2_with (at_builtin; refine wp_appendE (E := elN) sNf rfl rfl _ _ rfl (v := .slice a S.length c) (l := S) (base := B) rfl Z.heap.size rfl HO9.out (x1, x2, x3, x4) (cells_new (W := Z) (cs := [.int .i64 x1, .int .i64 x2, .int .i64 x3, .int .i64 x4]) (t := 57) rfl) hlen1 hlen2 (le_alloc _ hsz) ?_; intro v' w3 hown hgr hat; obtain ⟨s9, c9, rfl⟩ := hown.shape (n := S.length + 1) (by rw [List.length_append]; rfl); have HO := Lib.hid (And.intro hown (And.intro hgr hat)); clear hown hgr hat)
   have hne : ∀ q, (Value.slice a S.length c).ownBlock = some q → q ≠ r := HL.out.2.2.2.2.2
   have hrk : RngT Tryz.prog 57 4 w3 b r n (l.map nv) ((S ++ [(x1, x2, x3, x4)]).map nv) cnt3 := (HZ.out.1.kept (grownBy_alloc _ _) (by simp) (by simp)).kept HO.out.2.1 (fun e9 => by
    have := (HL.out.2.1.lt b e9.symm).1; have := HR.out.2.2.1; omega) (fun e9 => hne r e9.symm rfl)
   have hb3 : Below B W w3 := (HZ.out.2.2.1.alloc hsz _).grown HO.out.2.1 (by rw [World.size_alloc]; omega) (fun q e9 => (HL.out.2.1.lt q e9).1)
   have HK := Lib.hid (And.intro hrk hb3)
   have hnq : ∀ q, (Value.slice s9 (S.length + 1) c9).ownBlock = some q → q ≠ r := fun q e9 => by
    rcases HO.out.2.2 with h9 | h9
    ·exact hne q (by rw [← h9]; exact e9)
    ·rw [h9, World.size_alloc'] at e9
     have := HZ.out.2.2.2.2; have := Option.some.inj e9; omega
   have HQ := Lib.hid hnq
   clear hne hrk hb3 hnq
   go_roundw
   case rel => exact ⟨S ++ [(x1, x2, x3, x4)], s9, c9, cnt3, by rw [List.length_append]; rfl, HK.out.1, by rw [List.length_append]; exact HO.out.1, HK.out.2, nodup_snoc HL.out.2.2.2.1 HN2.out.2.1, fun y hy => by
    rcases List.mem_append.1 hy with hy | hy
    ·exact HL.out.2.2.2.2.1 y hy
    ·rw [List.mem_singleton.1 hy]; exact HN2.out.1, by rw [List.length_append]; exact HQ.out⟩
   case measure => rw [HK.out.1.left_eq, HL.out.1.left_eq]; exact HN2.out.2.2
end Go.Proofs.YtnklnklkblgnfaaGreatDoor
end
section
namespace Go.Dfl
open Go.RowKit Go.Sort Go.Maps
end Go.Dfl
namespace Go.Proofs.YtnklnklkblgnfaaGreatDoor
open Go.RowKit Go.Dfl Go.Gra Go.Obs Go.Sort Go.Maps
set_option maxHeartbeats 3200000 in
set_option maxRecDepth 100000 in
theorem ascC_any (b n : Nat) (l : List (Int × Int × Int)) (W : World) (h : SetT Tryz.prog 43 4 W b n (l.map pv)) (hn : n ≤ 2000000) (hln : l.length ≤ 2000000) (hw : ∀ x ∈ l, inI x.1 ∧ inI x.2.1 ∧ inI x.2.2) :
  Calls Tryz.prog 19 #[.map (some b), .func (.func 20) #[] #[]] W (ascCR l W) := by
 have H0 := Lib.hid (And.intro h (And.intro h.lt hln))
 have HW := Lib.hid hw
 obtain ⟨m, hm, hlen⟩ := h.len (t := 76) Tryz.underlying76
 clear h hw hln
 go_enter Tryz.func19, Tryz.ntmps19
 go_wp2_with (at_make; refine wp_make0 (E := elP) sCe _ rfl _ _ rfl .i64 .i64 m rfl rfl (by omega) (by unfold maxLen; omega) ?_)
 intro W1 hown hb1
 have hbz := hb1.size
 have H1 := Lib.hid (And.intro hown (And.intro hb1 (H0.out.1.kept (grownBy_below hb1) (by simp))))
 clear hown hb1 hlen
 go_wp2_with (at_range; refine wp_setRange H1.out.2.2 rfl _ rfl ckKeyed Tryz.underlying76 rfl ?_; intro W2 cnt hr hg2 hs2; have H2 := Lib.hid (And.intro hr (And.intro hg2 hs2)); clear hr hg2 hs2)
 go_frame
 obtain ⟨r, hr⟩ : ∃ r, r = W1.heap.size := ⟨_, rfl⟩
 obtain ⟨B, hB⟩ : ∃ B, B = W.heap.size := ⟨_, rfl⟩
 have H3 : Hid (RngT Tryz.prog 43 4 W2 b r n (l.map pv) ([].map pv) cnt ∧ OwnE elP W2 B 43 (.slice (some ⟨B, 0, none⟩) 0 m) [] ∧ Below B W W2 ∧ B ≤ W2.heap.size) := Lib.hid (by
  rw [hr, hB]
  have h9 := H1.out.2.1.grown H2.out.2.1 H1.out.2.1.size (by simp)
  exact ⟨H2.out.1, H1.out.1.grown H2.out.2.1 (.inr (by simp [Value.ownBlock])), h9, h9.size⟩)
 have HR := Lib.hid (And.intro hr (And.intro hB (show b < B ∧ B < r by
  rw [hr, hB]
  exact ⟨H0.out.2.1, (OwnE.lt H1.out.1 _ rfl).2⟩)))
 rw [← hr, ← hB]
 clear hr hB H1 H2
 go_loopw [5] (fun v wr => ∃ (S : List (Int × Int × Int)) (a : Option Addr) (c cnt : Nat), v = .slice a S.length c ∧ Hid (RngT Tryz.prog 43 4 wr b r n (l.map pv) (S.map pv) cnt ∧ OwnE elP wr B 43 (.slice a S.length c) S ∧ Below B W wr ∧ S.Nodup ∧ (∀ x ∈ S, x ∈ l) ∧ (∀ q, (Value.slice a S.length c).ownBlock = some q → q ≠ r))) (fun _ wr => wr.rangeLeft b r)
 case atStart => exact ⟨[], some ⟨B, 0, none⟩, m, cnt, rfl, H3.out.1, H3.out.2.1, H3.out.2.2.1, List.nodup_nil, by simp, fun q hq => by have := HR.out.2.2.2; simp [Value.ownBlock] at hq; omega⟩
 case round =>
  obtain ⟨S, a, c, cnt, rfl, hh⟩ := hrel
  have HL := Lib.hid hh.out
  have hrg := hh.out.1
  clear hh
  go_upto_region 5 with (at_next; refine wp_setNext3 pv (fun _ _ _ => rfl) HL.out.1 rfl _ rfl ckKeyed Tryz.underlying4 rfl (fun HD => ?_) (fun x1 x2 x3 cb W3 HN hen => ?_); all_goals clear hrg)
  ·have hmem : ∀ x, x ∈ S ↔ x ∈ l := fun x => ⟨HL.out.2.2.2.2.1 x, fun hx => by
    obtain ⟨y, hy, he⟩ := List.mem_map.1 (HD.out x (ckWf x (HW.out x hx)) hx)
    rw [← pv_inj he]; exact hy⟩
   have hSl : S.length ≤ 2000000 := Nat.le_trans (nodup_le' HL.out.2.2.2.1 HL.out.2.2.2.2.1) H0.out.2.2
   have HM := Lib.hid hmem
   have hB := HR.out.2.1
   have HF : Hid (Below W.heap.size W wr) := Lib.hid (hB ▸ HL.out.2.2.1)
   have hown := HL.out.2.1
   rw [hB] at hown
   clear hmem
   rcases hown.shape2 with ⟨rfl, hz, rfl⟩ | ⟨g, rfl⟩
   ·have HZ := Lib.hid hz
    have hl0 : S.length = 0 := by rw [hz]; rfl
    rw [hl0]
    refine (scSort_nil _ _ wr).mono ?_
    rintro e W5 ⟨rfl, rfl⟩
    clear hown hB hz hl0
    go_wp2_with fail
    go_ret
    exact ⟨none, 0, S, by rw [HZ.out]; rfl, by rw [HZ.out]; exact Go.Dfl.OwnE.nil _ _ _ _, by rw [HZ.out]; exact List.Pairwise.nil, HM.out, HF.out⟩
   ·have hs := scSort_any W.heap.size g c S wr hown (by omega) HL.out.2.2.2.1
    have hg := (OwnE.lt hown g rfl).1
    have HG := Lib.hid hg
    clear hown hB hg
    refine hs.mono ?_
    rintro e W5 ⟨L, rfl, hp, hpw, ho, hgr⟩
    have hlen := hp.length_eq
    have H5 := Lib.hid (And.intro hp (And.intro hpw (And.intro ho (And.intro (HF.out.grown hgr HF.out.size (fun q e9 => by have := HG.out; have := Option.some.inj e9; omega)) hlen))))
    clear hs hp hpw ho hgr hlen
    go_wp2_with fail
    go_ret
    exact ⟨some ⟨g, 0, none⟩, c, L, by rw [H5.out.2.2.2.2]; rfl, by rw [H5.out.2.2.2.2]; exact H5.out.2.2.1, H5.out.2.1, fun x => by rw [H5.out.1.mem_iff]; exact HM.out x, H5.out.2.2.2.1⟩
  ·obtain ⟨cnt3, k1, k2, k3, k4, k5, k6⟩ := HN.out
   have hSl : (S ++ [(x1, x2, x3)]).length ≤ 2000000 := Nat.le_trans (nodup_le' (nodup_snoc HL.out.2.2.2.1 k2) (fun y hy => by
    rcases List.mem_append.1 hy with hy | hy
    ·exact HL.out.2.2.2.2.1 y hy
    ·rw [List.mem_singleton.1 hy]; exact k1)) H0.out.2.2
   rw [List.length_append, List.length_singleton] at hSl
   have hown : OwnE elP W3 B 43 (.slice a S.length c) S := HL.out.2.1.grown k5 (by
    cases hq : (Value.slice a S.length c).ownBlock with
    | none => exact .inl rfl
    | some q => exact .inr fun e9 => HL.out.2.2.2.2.2 q hq (Option.some.inj e9))
   have hBz : B ≤ wr.heap.size := by rw [HR.out.2.1]; exact HL.out.2.2.1.size
   have hBz3 : B ≤ W3.heap.size := by rw [k6]; exact hBz
   have hbel : Below B W W3 := HL.out.2.2.1.grown k5 hBz (fun q e9 => by have := HR.out.2.2.2; have := Option.some.inj e9; omega)
   have hbA := hbel.alloc hBz3 (.cells #[.int .i64 x1, .int .i64 x2, .int .i64 x3] 43)
   have hrl := k3.lt
   have hbx := cells_new (W := W3) (cs := [.int .i64 x1, .int .i64 x2, .int .i64 x3]) (t := 43) rfl
   have hA : RngT Tryz.prog 43 4 (W3.alloc (.cells #[.int .i64 x1, .int .i64 x2, .int .i64 x3] 43)) b r n (l.map pv) ((S ++ [(x1, x2, x3)]).map pv) cnt3 ∧ OwnE elP (W3.alloc (.cells #[.int .i64 x1, .int .i64 x2, .int .i64 x3] 43)) B 43 (.slice a S.length c) S ∧ Below B W (W3.alloc (.cells #[.int .i64 x1, .int .i64 x2, .int .i64 x3] 43)) ∧ ((W3.alloc (.cells #[.int .i64 x1, .int .i64 x2, .int .i64 x3] 43)).cell? ⟨W3.heap.size, 0, none⟩ = some (.int .i64 x1) ∧ (W3.alloc (.cells #[.int .i64 x1, .int .i64 x2, .int .i64 x3] 43)).cell? ⟨W3.heap.size, 1, none⟩ = some (.int .i64 x2) ∧ (W3.alloc (.cells #[.int .i64 x1, .int .i64 x2, .int .i64 x3] 43)).cell? ⟨W3.heap.size, 2, none⟩ = some (.int .i64 x3)) ∧ r < (W3.alloc (.cells #[.int .i64 x1, .int .i64 x2, .int .i64 x3] 43)).heap.size :=
    ⟨k3.kept (grownBy_alloc _ _) (by simp) (by simp), hown.grown (grownBy_alloc _ _) (by cases (Value.slice a S.length c).ownBlock <;> simp), hbA, ⟨hbx 0 _ rfl, hbx 1 _ rfl, hbx 2 _ rfl⟩, by rw [World.size_alloc]; have := k3.lt.1; omega⟩
   have HN2 := Lib.hid (And.intro k1 (And.intro k2 k4))
   clear k1 k2 k4 k5 k6 hown hbel hbA hbx HN k3 hrl hen
   refine gen_code (fun Z => RngT Tryz.prog 43 4 Z b r n (l.map pv) ((S ++ [(x1, x2, x3)]).map pv) cnt3 ∧ OwnE elP Z B 43 (.slice a S.length c) S ∧ Below B W Z ∧ (Z.cell? ⟨W3.heap.size, 0, none⟩ = some (.int .i64 x1) ∧ Z.cell? ⟨W3.heap.size, 1, none⟩ = some (.int .i64 x2) ∧ Z.cell? ⟨W3.heap.size, 2, none⟩ = some (.int .i64 x3)) ∧ r < Z.heap.size) hA ?_
   intro Z hz
   obtain ⟨bx, hbx⟩ : ∃ q, q = W3.heap.size := ⟨_, rfl⟩
   rw [← hbx] at hz ⊢
   obtain ⟨z1, z2, z3⟩ := hz.2.2.2.1
   have HZ := Lib.hid hz
   have hsz : B ≤ Z.heap.size := by rw [HR.out.2.1]; exact hz.2.2.1.size
   have hlen1 : (S.length + 1) * 24 ≤ 140737488355328 := by omega
   have hlen2 : S.length + 1 ≤ 1000000000000 := by omega
   have HO9 := Lib.hid (OwnE.grown hz.2.1 (grownBy_alloc Z (.cells #[.int .i64 x1, .int .i64 x2, .int .i64 x3] 43)) (by cases (Value.slice a S.length c).ownBlock <;> simp))
   clear hA hz hbx hBz hBz3
   go_wp2_with (at_builtin; refine wp_appendE (E := elP) sCe rfl rfl _ _ rfl (v := .slice a S.length c) (l := S) (base := B) rfl Z.heap.size rfl HO9.out (x1, x2, x3) (cells_new (W := Z) (cs := [.int .i64 x1, .int .i64 x2, .int .i64 x3]) (t := 43) rfl) hlen1 hlen2 (le_alloc _ hsz) ?_; intro v' w3 hown hgr hat; obtain ⟨s9, c9, rfl⟩ := hown.shape (n := S.length + 1) (by rw [List.length_append]; rfl); have HO := Lib.hid (And.intro hown (And.intro hgr hat)); clear hown hgr hat)
   have hne : ∀ q, (Value.slice a S.length c).ownBlock = some q → q ≠ r := HL.out.2.2.2.2.2
   have hrk : RngT Tryz.prog 43 4 w3 b r n (l.map pv) ((S ++ [(x1, x2, x3)]).map pv) cnt3 := (HZ.out.1.kept (grownBy_alloc _ _) (by simp) (by simp)).kept HO.out.2.1 (fun e9 => by
    have := (HL.out.2.1.lt b e9.symm).1; have := HR.out.2.2.1; omega) (fun e9 => hne r e9.symm rfl)
   have hb3 : Below B W w3 := (HZ.out.2.2.1.alloc hsz _).grown HO.out.2.1 (by rw [World.size_alloc]; omega) (fun q e9 => (HL.out.2.1.lt q e9).1)
   have HK := Lib.hid (And.intro hrk hb3)
   have hnq : ∀ q, (Value.slice s9 (S.length + 1) c9).ownBlock = some q → q ≠ r := fun q e9 => by
    rcases HO.out.2.2 with h9 | h9
    ·exact hne q (by rw [← h9]; exact e9)
    ·rw [h9, World.size_alloc'] at e9
     have := HZ.out.2.2.2.2; have := Option.some.inj e9; omega
   have HQ := Lib.hid hnq
   clear hne hrk hb3 hnq
   go_roundw
   case rel => exact ⟨S ++ [(x1, x2, x3)], s9, c9, cnt3, by rw [List.length_append]; rfl, HK.out.1, by rw [List.length_append]; exact HO.out.1, HK.out.2, nodup_snoc HL.out.2.2.2.1 HN2.out.2.1, fun y hy => by
    rcases List.mem_append.1 hy with hy | hy
    ·exact HL.out.2.2.2.2.1 y hy
    ·rw [List.mem_singleton.1 hy]; exact HN2.out.1, by rw [List.length_append]; exact HQ.out⟩
   case measure => rw [HK.out.1.left_eq, HL.out.1.left_eq]; exact HN2.out.2.2
set_option maxHeartbeats 3200000 in
set_option maxRecDepth 100000 in
theorem ascU_any (b n : Nat) (l : List (Int × Int × Int)) (W : World) (h : SetT Tryz.prog 47 4 W b n (l.map pv)) (hn : n ≤ 400000000) (hln : l.length ≤ 400000000) (hw : ∀ x ∈ l, inI x.1 ∧ inI x.2.1 ∧ inI x.2.2) :
  Calls Tryz.prog 22 #[.map (some b), .func (.func 23) #[] #[]] W (ascUR l W) := by
 have H0 := Lib.hid (And.intro h (And.intro h.lt hln))
 have HW := Lib.hid hw
 obtain ⟨m, hm, hlen⟩ := h.len (t := 84) Tryz.underlying84
 clear h hw hln
 go_enter Tryz.func22, Tryz.ntmps22
 go_wp2_with (at_make; refine wp_make0 (E := elP) sUs _ rfl _ _ rfl .i64 .i64 m rfl rfl (by omega) (by unfold maxLen; omega) ?_)
 intro W1 hown hb1
 have hbz := hb1.size
 have H1 := Lib.hid (And.intro hown (And.intro hb1 (H0.out.1.kept (grownBy_below hb1) (by simp))))
 clear hown hb1 hlen
 go_wp2_with (at_range; refine wp_setRange H1.out.2.2 rfl _ rfl ukKeyed Tryz.underlying84 rfl ?_; intro W2 cnt hr hg2 hs2; have H2 := Lib.hid (And.intro hr (And.intro hg2 hs2)); clear hr hg2 hs2)
 go_frame
 obtain ⟨r, hr⟩ : ∃ r, r = W1.heap.size := ⟨_, rfl⟩
 obtain ⟨B, hB⟩ : ∃ B, B = W.heap.size := ⟨_, rfl⟩
 have H3 : Hid (RngT Tryz.prog 47 4 W2 b r n (l.map pv) ([].map pv) cnt ∧ OwnE elP W2 B 47 (.slice (some ⟨B, 0, none⟩) 0 m) [] ∧ Below B W W2 ∧ B ≤ W2.heap.size) := Lib.hid (by
  rw [hr, hB]
  have h9 := H1.out.2.1.grown H2.out.2.1 H1.out.2.1.size (by simp)
  exact ⟨H2.out.1, H1.out.1.grown H2.out.2.1 (.inr (by simp [Value.ownBlock])), h9, h9.size⟩)
 have HR := Lib.hid (And.intro hr (And.intro hB (show b < B ∧ B < r by
  rw [hr, hB]
  exact ⟨H0.out.2.1, (OwnE.lt H1.out.1 _ rfl).2⟩)))
 rw [← hr, ← hB]
 clear hr hB H1 H2
 go_loopw [5] (fun v wr => ∃ (S : List (Int × Int × Int)) (a : Option Addr) (c cnt : Nat), v = .slice a S.length c ∧ Hid (RngT Tryz.prog 47 4 wr b r n (l.map pv) (S.map pv) cnt ∧ OwnE elP wr B 47 (.slice a S.length c) S ∧ Below B W wr ∧ S.Nodup ∧ (∀ x ∈ S, x ∈ l) ∧ (∀ q, (Value.slice a S.length c).ownBlock = some q → q ≠ r))) (fun _ wr => wr.rangeLeft b r)
 case atStart => exact ⟨[], some ⟨B, 0, none⟩, m, cnt, rfl, H3.out.1, H3.out.2.1, H3.out.2.2.1, List.nodup_nil, by simp, fun q hq => by have := HR.out.2.2.2; simp [Value.ownBlock] at hq; omega⟩
 case round =>
  obtain ⟨S, a, c, cnt, rfl, hh⟩ := hrel
  have HL := Lib.hid hh.out
  have hrg := hh.out.1
  clear hh
  go_upto_region 5 with (at_next; refine wp_setNext3 pv (fun _ _ _ => rfl) HL.out.1 rfl _ rfl ukKeyed Tryz.underlying4 rfl (fun HD => ?_) (fun x1 x2 x3 cb W3 HN hen => ?_); all_goals clear hrg)
  ·have hmem : ∀ x, x ∈ S ↔ x ∈ l := fun x => ⟨HL.out.2.2.2.2.1 x, fun hx => by
    obtain ⟨y, hy, he⟩ := List.mem_map.1 (HD.out x (ukWf x (HW.out x hx)) hx)
    rw [← pv_inj he]; exact hy⟩
   have hSl : S.length ≤ 400000000 := Nat.le_trans (nodup_le' HL.out.2.2.2.1 HL.out.2.2.2.2.1) H0.out.2.2
   have HM := Lib.hid hmem
   have hB := HR.out.2.1
   have HF : Hid (Below W.heap.size W wr) := Lib.hid (hB ▸ HL.out.2.2.1)
   have hown := HL.out.2.1
   rw [hB] at hown
   clear hmem
   rcases hown.shape2 with ⟨rfl, hz, rfl⟩ | ⟨g, rfl⟩
   ·have HZ := Lib.hid hz
    have hl0 : S.length = 0 := by rw [hz]; rfl
    rw [hl0]
    refine (suSort_nil _ _ wr).mono ?_
    rintro e W5 ⟨rfl, rfl⟩
    clear hown hB hz hl0
    go_wp2_with fail
    go_ret
    exact ⟨none, 0, S, by rw [HZ.out]; rfl, by rw [HZ.out]; exact Go.Dfl.OwnE.nil _ _ _ _, by rw [HZ.out]; exact List.Pairwise.nil, HM.out, HF.out⟩
   ·have hs := suSort_any W.heap.size g c S wr hown (by omega) HL.out.2.2.2.1
    have hg := (OwnE.lt hown g rfl).1
    have HG := Lib.hid hg
    clear hown hB hg
    refine hs.mono ?_
    rintro e W5 ⟨L, rfl, hp, hpw, ho, hgr⟩
    have hlen := hp.length_eq
    have H5 := Lib.hid (And.intro hp (And.intro hpw (And.intro ho (And.intro (HF.out.grown hgr HF.out.size (fun q e9 => by have := HG.out; have := Option.some.inj e9; omega)) hlen))))
    clear hs hp hpw ho hgr hlen
    go_wp2_with fail
    go_ret
    exact ⟨some ⟨g, 0, none⟩, c, L, by rw [H5.out.2.2.2.2]; rfl, by rw [H5.out.2.2.2.2]; exact H5.out.2.2.1, H5.out.2.1, fun x => by rw [H5.out.1.mem_iff]; exact HM.out x, H5.out.2.2.2.1⟩
  ·obtain ⟨cnt3, k1, k2, k3, k4, k5, k6⟩ := HN.out
   have hSl : (S ++ [(x1, x2, x3)]).length ≤ 400000000 := Nat.le_trans (nodup_le' (nodup_snoc HL.out.2.2.2.1 k2) (fun y hy => by
    rcases List.mem_append.1 hy with hy | hy
    ·exact HL.out.2.2.2.2.1 y hy
    ·rw [List.mem_singleton.1 hy]; exact k1)) H0.out.2.2
   rw [List.length_append, List.length_singleton] at hSl
   have hown : OwnE elP W3 B 47 (.slice a S.length c) S := HL.out.2.1.grown k5 (by
    cases hq : (Value.slice a S.length c).ownBlock with
    | none => exact .inl rfl
    | some q => exact .inr fun e9 => HL.out.2.2.2.2.2 q hq (Option.some.inj e9))
   have hBz : B ≤ wr.heap.size := by rw [HR.out.2.1]; exact HL.out.2.2.1.size
   have hBz3 : B ≤ W3.heap.size := by rw [k6]; exact hBz
   have hbel : Below B W W3 := HL.out.2.2.1.grown k5 hBz (fun q e9 => by have := HR.out.2.2.2; have := Option.some.inj e9; omega)
   have hbA := hbel.alloc hBz3 (.cells #[.int .i64 x1, .int .i64 x2, .int .i64 x3] 47)
   have hrl := k3.lt
   have hbx := cells_new (W := W3) (cs := [.int .i64 x1, .int .i64 x2, .int .i64 x3]) (t := 47) rfl
   have hA : RngT Tryz.prog 47 4 (W3.alloc (.cells #[.int .i64 x1, .int .i64 x2, .int .i64 x3] 47)) b r n (l.map pv) ((S ++ [(x1, x2, x3)]).map pv) cnt3 ∧ OwnE elP (W3.alloc (.cells #[.int .i64 x1, .int .i64 x2, .int .i64 x3] 47)) B 47 (.slice a S.length c) S ∧ Below B W (W3.alloc (.cells #[.int .i64 x1, .int .i64 x2, .int .i64 x3] 47)) ∧ ((W3.alloc (.cells #[.int .i64 x1, .int .i64 x2, .int .i64 x3] 47)).cell? ⟨W3.heap.size, 0, none⟩ = some (.int .i64 x1) ∧ (W3.alloc (.cells #[.int .i64 x1, .int .i64 x2, .int .i64 x3] 47)).cell? ⟨W3.heap.size, 1, none⟩ = some (.int .i64 x2) ∧ (W3.alloc (.cells #[.int .i64 x1, .int .i64 x2, .int .i64 x3] 47)).cell? ⟨W3.heap.size, 2, none⟩ = some (.int .i64 x3)) ∧ r < (W3.alloc (.cells #[.int .i64 x1, .int .i64 x2, .int .i64 x3] 47)).heap.size :=
    ⟨k3.kept (grownBy_alloc _ _) (by simp) (by simp), hown.grown (grownBy_alloc _ _) (by cases (Value.slice a S.length c).ownBlock <;> simp), hbA, ⟨hbx 0 _ rfl, hbx 1 _ rfl, hbx 2 _ rfl⟩, by rw [World.size_alloc]; have := k3.lt.1; omega⟩
   have HN2 := Lib.hid (And.intro k1 (And.intro k2 k4))
   clear k1 k2 k4 k5 k6 hown hbel hbA hbx HN k3 hrl hen
   refine gen_code (fun Z => RngT Tryz.prog 47 4 Z b r n (l.map pv) ((S ++ [(x1, x2, x3)]).map pv) cnt3 ∧ OwnE elP Z B 47 (.slice a S.length c) S ∧ Below B W Z ∧ (Z.cell? ⟨W3.heap.size, 0, none⟩ = some (.int .i64 x1) ∧ Z.cell? ⟨W3.heap.size, 1, none⟩ = some (.int .i64 x2) ∧ Z.cell? ⟨W3.heap.size, 2, none⟩ = some (.int .i64 x3)) ∧ r < Z.heap.size) hA ?_
   intro Z hz
   obtain ⟨bx, hbx⟩ : ∃ q, q = W3.heap.size := ⟨_, rfl⟩
   rw [← hbx] at hz ⊢
   obtain ⟨z1, z2, z3⟩ := hz.2.2.2.1
   have HZ := Lib.hid hz
   have hsz : B ≤ Z.heap.size := by rw [HR.out.2.1]; exact hz.2.2.1.size
   have hlen1 : (S.length + 1) * 24 ≤ 140737488355328 := by omega
   have hlen2 : S.length + 1 ≤ 1000000000000 := by omega
   have HO9 := Lib.hid (OwnE.grown hz.2.1 (grownBy_alloc Z (.cells #[.int .i64 x1, .int .i64 x2, .int .i64 x3] 47)) (by cases (Value.slice a S.length c).ownBlock <;> simp))
   clear hA hz hbx hBz hBz3
   go_wp2_with (at_builtin; refine wp_appendE (E := elP) sUs rfl rfl _ _ rfl (v := .slice a S.length c) (l := S) (base := B) rfl Z.heap.size rfl HO9.out (x1, x2, x3) (cells_new (W := Z) (cs := [.int .i64 x1, .int .i64 x2, .int .i64 x3]) (t := 47) rfl) hlen1 hlen2 (le_alloc _ hsz) ?_; intro v' w3 hown hgr hat; obtain ⟨s9, c9, rfl⟩ := hown.shape (n := S.length + 1) (by rw [List.length_append]; rfl); have HO := Lib.hid (And.intro hown (And.intro hgr hat)); clear hown hgr hat)
   have hne : ∀ q, (Value.slice a S.length c).ownBlock = some q → q ≠ r := HL.out.2.2.2.2.2
   have hrk : RngT Tryz.prog 47 4 w3 b r n (l.map pv) ((S ++ [(x1, x2, x3)]).map pv) cnt3 := (HZ.out.1.kept (grownBy_alloc _ _) (by simp) (by simp)).kept HO.out.2.1 (fun e9 => by
    have := (HL.out.2.1.lt b e9.symm).1; have := HR.out.2.2.1; omega) (fun e9 => hne r e9.symm rfl)
   have hb3 : Below B W w3 := (HZ.out.2.2.1.alloc hsz _).grown HO.out.2.1 (by rw [World.size_alloc]; omega) (fun q e9 => (HL.out.2.1.lt q e9).1)
   have HK := Lib.hid (And.intro hrk hb3)
   have hnq : ∀ q, (Value.slice s9 (S.length + 1) c9).ownBlock = some q → q ≠ r := fun q e9 => by
    rcases HO.out.2.2 with h9 | h9
    ·exact hne q (by rw [← h9]; exact e9)
    ·rw [h9, World.size_alloc'] at e9
     have := HZ.out.2.2.2.2; have := Option.some.inj e9; omega
   have HQ := Lib.hid hnq
   clear hne hrk hb3 hnq
   go_roundw
   case rel => exact ⟨S ++ [(x1, x2, x3)], s9, c9, cnt3, by rw [List.length_append]; rfl, HK.out.1, by rw [List.length_append]; exact HO.out.1, HK.out.2, nodup_snoc HL.out.2.2.2.1 HN2.out.2.1, fun y hy => by
    rcases List.mem_append.1 hy with hy | hy
    ·exact HL.out.2.2.2.2.1 y hy
    ·rw [List.mem_singleton.1 hy]; exact HN2.out.1, by rw [List.length_append]; exact HQ.out⟩
   case measure => rw [HK.out.1.left_eq, HL.out.1.left_eq]; exact HN2.out.2.2
end Go.Proofs.YtnklnklkblgnfaaGreatDoor
end
section
namespace Go.Obs
open Go.Dfl (nth nth_mem mem_nth nth_eq nth_ext take_snoc)
structure Vd where
 n : ByteArray
 t : ByteArray
deriving Inhabited
structure Sg where
 n : ByteArray
 st : Bool
 ps : List ByteArray
 r : ByteArray
deriving Inhabited
structure Cl where
 n : ByteArray
 s : ByteArray
 fs : List Vd
 ms : List Sg
deriving Inhabited
structure Is where
 op : Int
 d : Int
 a : Int
 b : Int
 n : Int
 c : ByteArray
 m : ByteArray
 ar : List Int
 g : Int
 ct : Int
deriving Inhabited
structure Fu where
 c : ByteArray
 m : ByteArray
 st : Bool
 ps : Int
 vs : List Vd
 r : ByteArray
 cd : List Is
deriving Inhabited
structure Un where
 cs : List Cl
 fs : List Fu
 mn : Int
deriving Inhabited
def siL (i : Nat) (f : Fu) (k : Nat) : List (Int × Int × ByteArray) := (List.range k).filterMap fun j => if (nth f.cd j).op = 6 then some ((i : Int), (j : Int), (nth f.cd j).c) else none
theorem siL_zero (i : Nat) (f : Fu) : siL i f 0 = [] := rfl
theorem siL_yes {i : Nat} {f : Fu} {k : Nat} (h : (nth f.cd k).op = 6) : siL i f (k + 1) = siL i f k ++ [((i : Int), (k : Int), (nth f.cd k).c)] := by
 unfold siL; rw [List.range_succ, List.filterMap_append]; simp [h]
theorem siL_no {i : Nat} {f : Fu} {k : Nat} (h : ¬ (nth f.cd k).op = 6) : siL i f (k + 1) = siL i f k := by
 unfold siL; rw [List.range_succ, List.filterMap_append]; simp [h]
theorem siL_len (i : Nat) (f : Fu) (k : Nat) : (siL i f k).length ≤ k := Nat.le_trans (List.length_filterMap_le _ _) (by simp)
def siU (fs : List Fu) (i k : Nat) : List (Int × Int × ByteArray) := ((List.range i).flatMap fun a => siL a (nth fs a) (nth fs a).cd.length) ++ siL i (nth fs i) k
theorem siU_next (fs : List Fu) (i : Nat) : siU fs (i + 1) 0 = siU fs i (nth fs i).cd.length := by
 unfold siU
 rw [List.range_succ, List.flatMap_append, siL_zero]; simp
theorem siU_yes {fs : List Fu} {i k : Nat} (h : (nth (nth fs i).cd k).op = 6) : siU fs i (k + 1) = siU fs i k ++ [((i : Int), (k : Int), (nth (nth fs i).cd k).c)] := by
 unfold siU; rw [siL_yes h, List.append_assoc]
theorem siU_no {fs : List Fu} {i k : Nat} (h : ¬ (nth (nth fs i).cd k).op = 6) : siU fs i (k + 1) = siU fs i k := by
 unfold siU; rw [siL_no h]
def cdN (fs : List Fu) : Nat := (fs.map fun f => f.cd.length).sum
theorem siU_len {fs : List Fu} {i k : Nat} (hi : i < fs.length) (hk : k ≤ (nth fs i).cd.length) : (siU fs i k).length ≤ cdN fs := by
 have key : ∀ n, n ≤ fs.length → ((List.range n).flatMap fun a => siL a (nth fs a) (nth fs a).cd.length).length ≤ ((fs.take n).map fun f => f.cd.length).sum := by
  intro n
  induction n with
  | zero => simp
  | succ n ih =>
    intro hn
    rw [take_snoc _ _ (by omega), List.range_succ, List.flatMap_append, List.length_append, List.map_append, List.sum_append]
    have := ih (by omega)
    have := siL_len n (nth fs n) (nth fs n).cd.length
    simp at *
    omega
 have h1 := key i (by omega)
 have h2 := siL_len i (nth fs i) k
 have h3 : ((fs.take i).map fun f => f.cd.length).sum + (nth fs i).cd.length ≤ (fs.map fun f => f.cd.length).sum := by
  conv => rhs; rw [← List.take_append_drop i fs, List.map_append, List.sum_append]
  have : fs.drop i = nth fs i :: fs.drop (i + 1) := by rw [nth_eq _ _ hi]; exact (List.getElem_cons_drop hi).symm
  rw [this]
  simp
 unfold siU cdN
 rw [List.length_append]
 omega
def sites (u : Un) : List (Int × Int × ByteArray) := siU u.fs u.fs.length 0
end Go.Obs
end
section
namespace Go.Proofs.YtnklnklkblgnfaaGreatDoor
open Go.RowKit Go.Dfl Go.Obs
open Go.Proofs.YtnklnklkblgnfaaGreatDoor.Rows (uptoBulk uptoBulkAll)
theorem opens_string : Opens Tryz.prog 9 vS := Opens.str Tryz.underlying9 (by kernel_rfl)
theorem opens_bool : Opens Tryz.prog 4 vB := Opens.bool Tryz.underlying4 (by kernel_rfl)
def vVd : Vw Vd := ⟨2, fun _ cs x => cs = [.string x.n, .string x.t] ∧ x.n.size ≤ maxLen ∧ x.t.size ≤ maxLen, fun x => (x.n.size + 1) + (x.t.size + 1) + 1, fun ⟨h0, h1, h2⟩ _ => ⟨h0, h1, h2⟩⟩
set_option maxRecDepth 100000 in
theorem opens_vd : Opens Tryz.prog 122 vVd := ⟨by kernel_rfl, fun H enc w base spare held n cs x h => by
 obtain ⟨hl, ds, hd, hdl, hf⟩ := Opens.fields Tryz.underlying122 h
 rw [show Tryz.prog.cellsOf 122 = 2 by kernel_rfl] at hl
 match cs, hl, ds, hdl with
 | [c0, c1], _, [d0, d1], _ =>
   obtain ⟨y0, e0, k0, ⟨o0, b0⟩, w0⟩ := hf 0 _ rfl _ _ opens_string
   obtain ⟨y1, e1, k1, ⟨o1, b1⟩, w1⟩ := hf 1 _ rfl _ _ opens_string
   simp [vS] at o0 k0 o1 k1 w0 w1
   subst o0 k0 o1 k1
   exact ⟨⟨y0, y1⟩, ⟨rfl, b0, b1⟩, by rw [hd, uptoBulk]; simp only [uptoBulkAll]; show (y0.size + 1) + (y1.size + 1) + 1 ≤ _; omega⟩⟩
theorem sVd : SliceOf Tryz.prog 92 122 (.agg #[.string .empty, .string .empty]) 2 32 := ⟨Tryz.underlying92, info_parts (P := Tryz.prog) (e := 122) (by kernel_rfl)⟩
theorem InS.vd {W : World} {v : Value} {l : List Vd} (h : InS vVd W v l) : ∃ a c, v = .slice a l.length c ∧ l.length ≤ 9223372036854775807 ∧
  (∀ x : Int, 0 ≤ x → x < l.length → ∀ W, (Instr.indexAt 92 (.slice a l.length c) (.int .i64 x)).run Tryz.prog W = .ok (.pointer (some ⟨blk a, ofs a + x.toNat * 2, none⟩)) W) ∧
  ∀ i, i < l.length → blk a < W.heap.size ∧ ((nth l i).n.size ≤ maxLen ∧ (nth l i).t.size ≤ maxLen) ∧ ∀ Z, Below W.heap.size W Z → Z.cell? ⟨blk a, ofs a + i * 2, none⟩ = some (.string (nth l i).n) ∧ Z.cell? ⟨blk a, ofs a + i * 2 + 1, none⟩ = some (.string (nth l i).t) := by
 obtain ⟨oa, oc, he, hl, hi, hc⟩ := InS.out h sVd
 refine ⟨oa, oc, he, hl, hi, fun i hil => ?_⟩
 obtain ⟨h1, cs, hok, h3⟩ := hc i hil
 obtain ⟨rfl, hb⟩ := hok
 exact ⟨h1, hb, fun Z hZ => ⟨h3 Z hZ 0 (by decide), h3 Z hZ 1 (by decide)⟩⟩
theorem opens_sl_vS : Opens Tryz.prog 113 (vL vS) := opens_string.slice (by decide) Tryz.underlying113 (by kernel_rfl)
def vSg : Vw Sg := ⟨4, fun w cs x => ∃ v2, cs = [.string x.n, .bool x.st, v2, .string x.r] ∧ x.n.size ≤ maxLen ∧ x.r.size ≤ maxLen ∧ InS vS w v2 x.ps, fun x => (x.n.size + 1) + 1 + (vL vS).wt x.ps + (x.r.size + 1) + 1, fun ⟨v2, h0, h1, h2, h3⟩ hb => ⟨v2, h0, h1, h2, h3.below hb⟩⟩
set_option maxRecDepth 100000 in
theorem opens_sg : Opens Tryz.prog 115 vSg := ⟨by kernel_rfl, fun H enc w base spare held n cs x h => by
 obtain ⟨hl, ds, hd, hdl, hf⟩ := Opens.fields Tryz.underlying115 h
 rw [show Tryz.prog.cellsOf 115 = 4 by kernel_rfl] at hl
 match cs, hl, ds, hdl with
 | [c0, c1, c2, c3], _, [d0, d1, d2, d3], _ =>
   obtain ⟨y0, e0, k0, ⟨o0, b0⟩, w0⟩ := hf 0 _ rfl _ _ opens_string
   obtain ⟨y1, e1, k1, o1, w1⟩ := hf 1 _ rfl _ _ opens_bool
   obtain ⟨y2, e2, k2, ⟨v2, o2, b2⟩, w2⟩ := hf 2 _ rfl _ _ opens_sl_vS
   obtain ⟨y3, e3, k3, ⟨o3, b3⟩, w3⟩ := hf 3 _ rfl _ _ opens_string
   simp [vS, vB, vL] at o0 k0 o1 k1 o2 k2 o3 k3 w0 w1 w3
   subst o0 k0 o1 k1 o2 k2 o3 k3
   exact ⟨⟨y0, y1, y2, y3⟩, ⟨_, rfl, b0, b3, b2⟩, by rw [hd, uptoBulk]; simp only [uptoBulkAll]; show (y0.size + 1) + 1 + (vL vS).wt y2 + (y3.size + 1) + 1 ≤ _; omega⟩⟩
theorem sSg : SliceOf Tryz.prog 144 115 (.agg #[.string .empty, .bool false, .slice none 0 0, .string .empty]) 4 64 := ⟨Tryz.underlying144, info_parts (P := Tryz.prog) (e := 115) (by kernel_rfl)⟩
theorem InS.sg {W : World} {v : Value} {l : List Sg} (h : InS vSg W v l) : ∃ a c, v = .slice a l.length c ∧ l.length ≤ 9223372036854775807 ∧
  (∀ x : Int, 0 ≤ x → x < l.length → ∀ W, (Instr.indexAt 144 (.slice a l.length c) (.int .i64 x)).run Tryz.prog W = .ok (.pointer (some ⟨blk a, ofs a + x.toNat * 4, none⟩)) W) ∧
  ∀ i, i < l.length → blk a < W.heap.size ∧ ∃ v2, ((nth l i).n.size ≤ maxLen ∧ (nth l i).r.size ≤ maxLen ∧ InS vS W v2 (nth l i).ps) ∧ ∀ Z, Below W.heap.size W Z → Z.cell? ⟨blk a, ofs a + i * 4, none⟩ = some (.string (nth l i).n) ∧ Z.cell? ⟨blk a, ofs a + i * 4 + 1, none⟩ = some (.bool (nth l i).st) ∧ Z.cell? ⟨blk a, ofs a + i * 4 + 2, none⟩ = some (v2) ∧ Z.cell? ⟨blk a, ofs a + i * 4 + 3, none⟩ = some (.string (nth l i).r) := by
 obtain ⟨oa, oc, he, hl, hi, hc⟩ := InS.out h sSg
 refine ⟨oa, oc, he, hl, hi, fun i hil => ?_⟩
 obtain ⟨h1, cs, hok, h3⟩ := hc i hil
 obtain ⟨v2, rfl, hb⟩ := hok
 exact ⟨h1, v2, hb, fun Z hZ => ⟨h3 Z hZ 0 (by decide), h3 Z hZ 1 (by decide), h3 Z hZ 2 (by decide), h3 Z hZ 3 (by decide)⟩⟩
theorem opens_sl_vVd : Opens Tryz.prog 92 (vL vVd) := opens_vd.slice (by decide) Tryz.underlying92 (by kernel_rfl)
theorem opens_sl_vSg : Opens Tryz.prog 144 (vL vSg) := opens_sg.slice (by decide) Tryz.underlying144 (by kernel_rfl)
def vCl : Vw Cl := ⟨4, fun w cs x => ∃ v2, ∃ v3, cs = [.string x.n, .string x.s, v2, v3] ∧ x.n.size ≤ maxLen ∧ x.s.size ≤ maxLen ∧ InS vVd w v2 x.fs ∧ InS vSg w v3 x.ms, fun x => (x.n.size + 1) + (x.s.size + 1) + (vL vVd).wt x.fs + (vL vSg).wt x.ms + 1, fun ⟨v2, v3, h0, h1, h2, h3, h4⟩ hb => ⟨v2, v3, h0, h1, h2, h3.below hb, h4.below hb⟩⟩
set_option maxRecDepth 100000 in
theorem opens_cl : Opens Tryz.prog 146 vCl := ⟨by kernel_rfl, fun H enc w base spare held n cs x h => by
 obtain ⟨hl, ds, hd, hdl, hf⟩ := Opens.fields Tryz.underlying146 h
 rw [show Tryz.prog.cellsOf 146 = 4 by kernel_rfl] at hl
 match cs, hl, ds, hdl with
 | [c0, c1, c2, c3], _, [d0, d1, d2, d3], _ =>
   obtain ⟨y0, e0, k0, ⟨o0, b0⟩, w0⟩ := hf 0 _ rfl _ _ opens_string
   obtain ⟨y1, e1, k1, ⟨o1, b1⟩, w1⟩ := hf 1 _ rfl _ _ opens_string
   obtain ⟨y2, e2, k2, ⟨v2, o2, b2⟩, w2⟩ := hf 2 _ rfl _ _ opens_sl_vVd
   obtain ⟨y3, e3, k3, ⟨v3, o3, b3⟩, w3⟩ := hf 3 _ rfl _ _ opens_sl_vSg
   simp [vS, vL] at o0 k0 o1 k1 o2 k2 o3 k3 w0 w1
   subst o0 k0 o1 k1 o2 k2 o3 k3
   exact ⟨⟨y0, y1, y2, y3⟩, ⟨_, _, rfl, b0, b1, b2, b3⟩, by rw [hd, uptoBulk]; simp only [uptoBulkAll]; show (y0.size + 1) + (y1.size + 1) + (vL vVd).wt y2 + (vL vSg).wt y3 + 1 ≤ _; omega⟩⟩
theorem sCl : SliceOf Tryz.prog 22 146 (.agg #[.string .empty, .string .empty, .slice none 0 0, .slice none 0 0]) 4 80 := ⟨Tryz.underlying22, info_parts (P := Tryz.prog) (e := 146) (by kernel_rfl)⟩
theorem InS.cl {W : World} {v : Value} {l : List Cl} (h : InS vCl W v l) : ∃ a c, v = .slice a l.length c ∧ l.length ≤ 9223372036854775807 ∧
  (∀ x : Int, 0 ≤ x → x < l.length → ∀ W, (Instr.indexAt 22 (.slice a l.length c) (.int .i64 x)).run Tryz.prog W = .ok (.pointer (some ⟨blk a, ofs a + x.toNat * 4, none⟩)) W) ∧
  ∀ i, i < l.length → blk a < W.heap.size ∧ ∃ v2, ∃ v3, ((nth l i).n.size ≤ maxLen ∧ (nth l i).s.size ≤ maxLen ∧ InS vVd W v2 (nth l i).fs ∧ InS vSg W v3 (nth l i).ms) ∧ ∀ Z, Below W.heap.size W Z → Z.cell? ⟨blk a, ofs a + i * 4, none⟩ = some (.string (nth l i).n) ∧ Z.cell? ⟨blk a, ofs a + i * 4 + 1, none⟩ = some (.string (nth l i).s) ∧ Z.cell? ⟨blk a, ofs a + i * 4 + 2, none⟩ = some (v2) ∧ Z.cell? ⟨blk a, ofs a + i * 4 + 3, none⟩ = some (v3) := by
 obtain ⟨oa, oc, he, hl, hi, hc⟩ := InS.out h sCl
 refine ⟨oa, oc, he, hl, hi, fun i hil => ?_⟩
 obtain ⟨h1, cs, hok, h3⟩ := hc i hil
 obtain ⟨v2, v3, rfl, hb⟩ := hok
 exact ⟨h1, v2, v3, hb, fun Z hZ => ⟨h3 Z hZ 0 (by decide), h3 Z hZ 1 (by decide), h3 Z hZ 2 (by decide), h3 Z hZ 3 (by decide)⟩⟩
theorem opens_sl_vI : Opens Tryz.prog 77 (vL vI) := opens_int.slice (by decide) Tryz.underlying77 (by kernel_rfl)
def vIs : Vw Is := ⟨10, fun w cs x => ∃ v7, cs = [.int .i64 x.op, .int .i64 x.d, .int .i64 x.a, .int .i64 x.b, .int .i64 x.n, .string x.c, .string x.m, v7, .int .i64 x.g, .int .i64 x.ct] ∧ inI x.op ∧ inI x.d ∧ inI x.a ∧ inI x.b ∧ inI x.n ∧ x.c.size ≤ maxLen ∧ x.m.size ≤ maxLen ∧ inI x.g ∧ inI x.ct ∧ InS vI w v7 x.ar, fun x => 1 + 1 + 1 + 1 + 1 + (x.c.size + 1) + (x.m.size + 1) + (vL vI).wt x.ar + 1 + 1 + 1, fun ⟨v7, h0, h1, h2, h3, h4, h5, h6, h7, h8, h9, h10⟩ hb => ⟨v7, h0, h1, h2, h3, h4, h5, h6, h7, h8, h9, h10.below hb⟩⟩
set_option maxRecDepth 100000 in
theorem opens_is : Opens Tryz.prog 79 vIs := ⟨by kernel_rfl, fun H enc w base spare held n cs x h => by
 obtain ⟨hl, ds, hd, hdl, hf⟩ := Opens.fields Tryz.underlying79 h
 rw [show Tryz.prog.cellsOf 79 = 10 by kernel_rfl] at hl
 match cs, hl, ds, hdl with
 | [c0, c1, c2, c3, c4, c5, c6, c7, c8, c9], _, [d0, d1, d2, d3, d4, d5, d6, d7, d8, d9], _ =>
   obtain ⟨y0, e0, k0, ⟨o0, b0⟩, w0⟩ := hf 0 _ rfl _ _ opens_int
   obtain ⟨y1, e1, k1, ⟨o1, b1⟩, w1⟩ := hf 1 _ rfl _ _ opens_int
   obtain ⟨y2, e2, k2, ⟨o2, b2⟩, w2⟩ := hf 2 _ rfl _ _ opens_int
   obtain ⟨y3, e3, k3, ⟨o3, b3⟩, w3⟩ := hf 3 _ rfl _ _ opens_int
   obtain ⟨y4, e4, k4, ⟨o4, b4⟩, w4⟩ := hf 4 _ rfl _ _ opens_int64
   obtain ⟨y5, e5, k5, ⟨o5, b5⟩, w5⟩ := hf 5 _ rfl _ _ opens_string
   obtain ⟨y6, e6, k6, ⟨o6, b6⟩, w6⟩ := hf 6 _ rfl _ _ opens_string
   obtain ⟨y7, e7, k7, ⟨v7, o7, b7⟩, w7⟩ := hf 7 _ rfl _ _ opens_sl_vI
   obtain ⟨y8, e8, k8, ⟨o8, b8⟩, w8⟩ := hf 8 _ rfl _ _ opens_int
   obtain ⟨y9, e9, k9, ⟨o9, b9⟩, w9⟩ := hf 9 _ rfl _ _ opens_int
   simp [vI, vS, vL] at o0 k0 o1 k1 o2 k2 o3 k3 o4 k4 o5 k5 o6 k6 o7 k7 o8 k8 o9 k9 w0 w1 w2 w3 w4 w5 w6 w8 w9
   subst o0 k0 o1 k1 o2 k2 o3 k3 o4 k4 o5 k5 o6 k6 o7 k7 o8 k8 o9 k9
   exact ⟨⟨y0, y1, y2, y3, y4, y5, y6, y7, y8, y9⟩, ⟨_, rfl, b0, b1, b2, b3, b4, b5, b6, b8, b9, b7⟩, by rw [hd, uptoBulk]; simp only [uptoBulkAll]; show 1 + 1 + 1 + 1 + 1 + (y5.size + 1) + (y6.size + 1) + (vL vI).wt y7 + 1 + 1 + 1 ≤ _; omega⟩⟩
theorem sIs : SliceOf Tryz.prog 93 79 (.agg #[.int .i64 0, .int .i64 0, .int .i64 0, .int .i64 0, .int .i64 0, .string .empty, .string .empty, .slice none 0 0, .int .i64 0, .int .i64 0]) 10 112 := ⟨Tryz.underlying93, info_parts (P := Tryz.prog) (e := 79) (by kernel_rfl)⟩
theorem InS.is {W : World} {v : Value} {l : List Is} (h : InS vIs W v l) : ∃ a c, v = .slice a l.length c ∧ l.length ≤ 9223372036854775807 ∧
  (∀ x : Int, 0 ≤ x → x < l.length → ∀ W, (Instr.indexAt 93 (.slice a l.length c) (.int .i64 x)).run Tryz.prog W = .ok (.pointer (some ⟨blk a, ofs a + x.toNat * 10, none⟩)) W) ∧
  ∀ i, i < l.length → blk a < W.heap.size ∧ ∃ v7, (inI (nth l i).op ∧ inI (nth l i).d ∧ inI (nth l i).a ∧ inI (nth l i).b ∧ inI (nth l i).n ∧ (nth l i).c.size ≤ maxLen ∧ (nth l i).m.size ≤ maxLen ∧ inI (nth l i).g ∧ inI (nth l i).ct ∧ InS vI W v7 (nth l i).ar) ∧ ∀ Z, Below W.heap.size W Z → Z.cell? ⟨blk a, ofs a + i * 10, none⟩ = some (.int .i64 (nth l i).op) ∧ Z.cell? ⟨blk a, ofs a + i * 10 + 1, none⟩ = some (.int .i64 (nth l i).d) ∧ Z.cell? ⟨blk a, ofs a + i * 10 + 2, none⟩ = some (.int .i64 (nth l i).a) ∧ Z.cell? ⟨blk a, ofs a + i * 10 + 3, none⟩ = some (.int .i64 (nth l i).b) ∧ Z.cell? ⟨blk a, ofs a + i * 10 + 4, none⟩ = some (.int .i64 (nth l i).n) ∧ Z.cell? ⟨blk a, ofs a + i * 10 + 5, none⟩ = some (.string (nth l i).c) ∧ Z.cell? ⟨blk a, ofs a + i * 10 + 6, none⟩ = some (.string (nth l i).m) ∧ Z.cell? ⟨blk a, ofs a + i * 10 + 7, none⟩ = some (v7) ∧ Z.cell? ⟨blk a, ofs a + i * 10 + 8, none⟩ = some (.int .i64 (nth l i).g) ∧ Z.cell? ⟨blk a, ofs a + i * 10 + 9, none⟩ = some (.int .i64 (nth l i).ct) := by
 obtain ⟨oa, oc, he, hl, hi, hc⟩ := InS.out h sIs
 refine ⟨oa, oc, he, hl, hi, fun i hil => ?_⟩
 obtain ⟨h1, cs, hok, h3⟩ := hc i hil
 obtain ⟨v7, rfl, hb⟩ := hok
 exact ⟨h1, v7, hb, fun Z hZ => ⟨h3 Z hZ 0 (by decide), h3 Z hZ 1 (by decide), h3 Z hZ 2 (by decide), h3 Z hZ 3 (by decide), h3 Z hZ 4 (by decide), h3 Z hZ 5 (by decide), h3 Z hZ 6 (by decide), h3 Z hZ 7 (by decide), h3 Z hZ 8 (by decide), h3 Z hZ 9 (by decide)⟩⟩
theorem opens_sl_vIs : Opens Tryz.prog 93 (vL vIs) := opens_is.slice (by decide) Tryz.underlying93 (by kernel_rfl)
def vFu : Vw Fu := ⟨7, fun w cs x => ∃ v4, ∃ v6, cs = [.string x.c, .string x.m, .bool x.st, .int .i64 x.ps, v4, .string x.r, v6] ∧ x.c.size ≤ maxLen ∧ x.m.size ≤ maxLen ∧ inI x.ps ∧ x.r.size ≤ maxLen ∧ InS vVd w v4 x.vs ∧ InS vIs w v6 x.cd, fun x => (x.c.size + 1) + (x.m.size + 1) + 1 + 1 + (vL vVd).wt x.vs + (x.r.size + 1) + (vL vIs).wt x.cd + 1, fun ⟨v4, v6, h0, h1, h2, h3, h4, h5, h6⟩ hb => ⟨v4, v6, h0, h1, h2, h3, h4, h5.below hb, h6.below hb⟩⟩
set_option maxRecDepth 100000 in
theorem opens_fu : Opens Tryz.prog 95 vFu := ⟨by kernel_rfl, fun H enc w base spare held n cs x h => by
 obtain ⟨hl, ds, hd, hdl, hf⟩ := Opens.fields Tryz.underlying95 h
 rw [show Tryz.prog.cellsOf 95 = 7 by kernel_rfl] at hl
 match cs, hl, ds, hdl with
 | [c0, c1, c2, c3, c4, c5, c6], _, [d0, d1, d2, d3, d4, d5, d6], _ =>
   obtain ⟨y0, e0, k0, ⟨o0, b0⟩, w0⟩ := hf 0 _ rfl _ _ opens_string
   obtain ⟨y1, e1, k1, ⟨o1, b1⟩, w1⟩ := hf 1 _ rfl _ _ opens_string
   obtain ⟨y2, e2, k2, o2, w2⟩ := hf 2 _ rfl _ _ opens_bool
   obtain ⟨y3, e3, k3, ⟨o3, b3⟩, w3⟩ := hf 3 _ rfl _ _ opens_int
   obtain ⟨y4, e4, k4, ⟨v4, o4, b4⟩, w4⟩ := hf 4 _ rfl _ _ opens_sl_vVd
   obtain ⟨y5, e5, k5, ⟨o5, b5⟩, w5⟩ := hf 5 _ rfl _ _ opens_string
   obtain ⟨y6, e6, k6, ⟨v6, o6, b6⟩, w6⟩ := hf 6 _ rfl _ _ opens_sl_vIs
   simp [vI, vS, vB, vL] at o0 k0 o1 k1 o2 k2 o3 k3 o4 k4 o5 k5 o6 k6 w0 w1 w2 w3 w5
   subst o0 k0 o1 k1 o2 k2 o3 k3 o4 k4 o5 k5 o6 k6
   exact ⟨⟨y0, y1, y2, y3, y4, y5, y6⟩, ⟨_, _, rfl, b0, b1, b3, b5, b4, b6⟩, by rw [hd, uptoBulk]; simp only [uptoBulkAll]; show (y0.size + 1) + (y1.size + 1) + 1 + 1 + (vL vVd).wt y4 + (y5.size + 1) + (vL vIs).wt y6 + 1 ≤ _; omega⟩⟩
theorem sFu : SliceOf Tryz.prog 25 95 (.agg #[.string .empty, .string .empty, .bool false, .int .i64 0, .slice none 0 0, .string .empty, .slice none 0 0]) 7 112 := ⟨Tryz.underlying25, info_parts (P := Tryz.prog) (e := 95) (by kernel_rfl)⟩
theorem InS.fu {W : World} {v : Value} {l : List Fu} (h : InS vFu W v l) : ∃ a c, v = .slice a l.length c ∧ l.length ≤ 9223372036854775807 ∧
  (∀ x : Int, 0 ≤ x → x < l.length → ∀ W, (Instr.indexAt 25 (.slice a l.length c) (.int .i64 x)).run Tryz.prog W = .ok (.pointer (some ⟨blk a, ofs a + x.toNat * 7, none⟩)) W) ∧
  ∀ i, i < l.length → blk a < W.heap.size ∧ ∃ v4, ∃ v6, ((nth l i).c.size ≤ maxLen ∧ (nth l i).m.size ≤ maxLen ∧ inI (nth l i).ps ∧ (nth l i).r.size ≤ maxLen ∧ InS vVd W v4 (nth l i).vs ∧ InS vIs W v6 (nth l i).cd) ∧ ∀ Z, Below W.heap.size W Z → Z.cell? ⟨blk a, ofs a + i * 7, none⟩ = some (.string (nth l i).c) ∧ Z.cell? ⟨blk a, ofs a + i * 7 + 1, none⟩ = some (.string (nth l i).m) ∧ Z.cell? ⟨blk a, ofs a + i * 7 + 2, none⟩ = some (.bool (nth l i).st) ∧ Z.cell? ⟨blk a, ofs a + i * 7 + 3, none⟩ = some (.int .i64 (nth l i).ps) ∧ Z.cell? ⟨blk a, ofs a + i * 7 + 4, none⟩ = some (v4) ∧ Z.cell? ⟨blk a, ofs a + i * 7 + 5, none⟩ = some (.string (nth l i).r) ∧ Z.cell? ⟨blk a, ofs a + i * 7 + 6, none⟩ = some (v6) := by
 obtain ⟨oa, oc, he, hl, hi, hc⟩ := InS.out h sFu
 refine ⟨oa, oc, he, hl, hi, fun i hil => ?_⟩
 obtain ⟨h1, cs, hok, h3⟩ := hc i hil
 obtain ⟨v4, v6, rfl, hb⟩ := hok
 exact ⟨h1, v4, v6, hb, fun Z hZ => ⟨h3 Z hZ 0 (by decide), h3 Z hZ 1 (by decide), h3 Z hZ 2 (by decide), h3 Z hZ 3 (by decide), h3 Z hZ 4 (by decide), h3 Z hZ 5 (by decide), h3 Z hZ 6 (by decide)⟩⟩
theorem opens_sl_vCl : Opens Tryz.prog 22 (vL vCl) := opens_cl.slice (by decide) Tryz.underlying22 (by kernel_rfl)
theorem opens_sl_vFu : Opens Tryz.prog 25 (vL vFu) := opens_fu.slice (by decide) Tryz.underlying25 (by kernel_rfl)
def vHier : Vw (List Cl) := ⟨1, fun w cs x => ∃ v, cs = [v] ∧ InS vCl w v x, fun x => (vL vCl).wt x + 1, fun ⟨v, h1, h2⟩ hb => ⟨v, h1, h2.below hb⟩⟩
set_option maxRecDepth 100000 in
theorem opens_hier : Opens Tryz.prog 24 vHier := ⟨by kernel_rfl, fun H enc w base spare held n cs x h => by
 obtain ⟨hl, ds, hd, hdl, hf⟩ := Opens.fields Tryz.underlying24 h
 rw [show Tryz.prog.cellsOf 24 = 1 by kernel_rfl] at hl
 match cs, hl, ds, hdl with
 | [c0], _, [d0], _ =>
   obtain ⟨y0, e0, k0, ⟨v0, o0, b0⟩, w0⟩ := hf 0 _ rfl _ _ opens_sl_vCl
   simp [vL] at o0 k0
   subst o0 k0
   exact ⟨y0, ⟨_, rfl, b0⟩, by rw [hd, uptoBulk]; simp only [uptoBulkAll]; show (vL vCl).wt y0 + 1 ≤ _; omega⟩⟩
def vUnit : Vw Un := ⟨3, fun w cs x => ∃ v0 v1, cs = [v0, v1, .int .i64 x.mn] ∧ inI x.mn ∧ InS vCl w v0 x.cs ∧ InS vFu w v1 x.fs, fun x => vHier.wt x.cs + (vL vFu).wt x.fs + 1 + 1, fun ⟨v0, v1, h1, h2, h3, h4⟩ hb => ⟨v0, v1, h1, h2, h3.below hb, h4.below hb⟩⟩
set_option maxRecDepth 100000 in
theorem opens_unit : Opens Tryz.prog 27 vUnit := ⟨by kernel_rfl, fun H enc w base spare held n cs x h => by
 obtain ⟨hl, ds, hd, hdl, hf⟩ := Opens.fields Tryz.underlying27 h
 rw [show Tryz.prog.cellsOf 27 = 3 by kernel_rfl] at hl
 match cs, hl, ds, hdl with
 | [c0, c1, c2], _, [d0, d1, d2], _ =>
   obtain ⟨y0, e0, k0, ⟨v0, o0, b0⟩, w0⟩ := hf 0 _ rfl _ _ opens_hier
   obtain ⟨y1, e1, k1, ⟨v1, o1, b1⟩, w1⟩ := hf 1 _ rfl _ _ opens_sl_vFu
   obtain ⟨y2, e2, k2, ⟨o2, b2⟩, w2⟩ := hf 2 _ rfl _ _ opens_int
   simp [vI, vL, vHier] at o0 o1 o2 k0 k1 k2 w2
   subst o0 o1 o2 k0 k1 k2
   exact ⟨⟨y0, y1, y2⟩, ⟨_, _, rfl, b2, b0, b1⟩, by rw [hd, uptoBulk]; simp only [uptoBulkAll]; show vHier.wt y0 + (vL vFu).wt y1 + 1 + 1 ≤ _; omega⟩⟩
end Go.Proofs.YtnklnklkblgnfaaGreatDoor
end
section
namespace Go.Proofs.YtnklnklkblgnfaaGreatDoor
open Go.RowKit Go.Dfl Go.Gra Go.Obs
def UnIn (W : World) (v0 v1 : Value) (u : Un) : Prop := InS vCl W v0 u.cs ∧ InS vFu W v1 u.fs
theorem UnIn.below {W W' : World} {v0 v1 : Value} {u : Un} (h : UnIn W v0 v1 u) (hb : Below W.heap.size W W') : UnIn W' v0 v1 u := ⟨h.1.below hb, h.2.below hb⟩
abbrev unV (u : Un) (v0 v1 : Value) : Value := .agg #[v0, v1, .int .i64 u.mn]
end Go.Proofs.YtnklnklkblgnfaaGreatDoor
end
section
namespace Go.Hir
open Go.Dfl (nth nth_mem mem_nth nth_eq nth_ext take_snoc)
open Go.Obs
instance : LawfulBEq ByteArray where
 eq_of_beq {a b} h := by
  cases a; cases b
  have h : ByteArray.beq _ _ = true := h
  simpa [ByteArray.beq] using h
 rfl {a} := by
  cases a
  show ByteArray.beq _ _ = true
  simp [ByteArray.beq]
variable {cs : List Cl} {c d b : ByteArray} {i : Nat}
def fdF (cs : List Cl) (c : ByteArray) : Nat → Nat → Nat
 | 0, k => k
 | m + 1, k => if (nth cs k).n = c then k else fdF cs c m (k + 1)
def fd (cs : List Cl) (c : ByteArray) : Nat := fdF cs c cs.length 0
theorem fdF_spec : ∀ (m k : Nat), k ≤ fdF cs c m k ∧ fdF cs c m k ≤ k + m ∧ (∀ j, k ≤ j → j < fdF cs c m k → (nth cs j).n ≠ c) ∧ (fdF cs c m k < k + m → (nth cs (fdF cs c m k)).n = c)
 | 0, k => ⟨Nat.le_refl _, Nat.le_refl _, fun j h1 h2 => by unfold fdF at h2; omega, fun h => by unfold fdF at h; omega⟩
 | m + 1, k => by
   unfold fdF
   by_cases e : (nth cs k).n = c
   ·rw [if_pos e]
    exact ⟨Nat.le_refl _, by omega, fun j h1 h2 => by omega, fun _ => e⟩
   ·rw [if_neg e]
    obtain ⟨h1, h2, h3, h4⟩ := fdF_spec m (k + 1)
    refine ⟨by omega, by omega, fun j h5 h6 => ?_, fun h => h4 (by omega)⟩
    by_cases e2 : j = k
    ·subst e2; exact e
    ·exact h3 j (by omega) h6
theorem fd_le : fd cs c ≤ cs.length := by have := (fdF_spec (cs := cs) (c := c) cs.length 0).2.1; unfold fd; omega
theorem fd_before {j : Nat} (h : j < fd cs c) : (nth cs j).n ≠ c := (fdF_spec (cs := cs) (c := c) cs.length 0).2.2.1 j (by omega) h
theorem fd_at (h : fd cs c < cs.length) : (nth cs (fd cs c)).n = c := (fdF_spec (cs := cs) (c := c) cs.length 0).2.2.2 (by unfold fd at h; omega)
def fI (cs : List Cl) (c : ByteArray) : Int := if fd cs c < cs.length then (fd cs c : Int) else -1
theorem fI_yes (h : fd cs c < cs.length) : fI cs c = (fd cs c : Int) := if_pos h
theorem fI_no (h : ¬ fd cs c < cs.length) : fI cs c = -1 := if_neg h
theorem fI_nonneg : 0 ≤ fI cs c ↔ fd cs c < cs.length := by
 unfold fI; split <;> constructor <;> intro h <;> omega
def isC (cs : List Cl) (c : ByteArray) : Prop := fd cs c < cs.length
instance : Decidable (isC cs c) := by unfold isC; infer_instance
def clOf (cs : List Cl) (c : ByteArray) : Cl := nth cs (fd cs c)
theorem clOf_n (h : isC cs c) : (clOf cs c).n = c := fd_at h
def chF (cs : List Cl) : Nat → List ByteArray → ByteArray → List ByteArray × Bool
 | 0, out, _ => (out, true)
 | f + 1, out, c => if ¬ isC cs c then (out, false) else if c ∈ out then (out, true) else if (clOf cs c).s = ⟨#[]⟩ then (out ++ [c], false) else chF cs f (out ++ [c]) (clOf cs c).s
structure ChI (cs : List Cl) (out : List ByteArray) : Prop where
 nd : out.Nodup
 cl : ∀ x ∈ out, isC cs x
theorem ChI.nil : ChI cs [] := ⟨List.nodup_nil, fun x hx => by cases hx⟩
theorem ChI.push {out : List ByteArray} (h : ChI cs out) (hc : isC cs c) (hn : c ∉ out) : ChI cs (out ++ [c]) :=
 ⟨by
  rw [List.nodup_append]
  refine ⟨h.nd, by simp, fun x hx y hy e => ?_⟩
  rw [List.mem_singleton] at hy
  exact hn (by rw [← hy, ← e]; exact hx), fun x hx => by
  rcases List.mem_append.1 hx with hx | hx
  ·exact h.cl x hx
  ·rw [List.mem_singleton] at hx; rw [hx]; exact hc⟩
theorem nodup_le {α : Type} [DecidableEq α] : ∀ (l m : List α), l.Nodup → (∀ x ∈ l, x ∈ m) → l.length ≤ m.length
 | [], m, _, _ => Nat.zero_le _
 | a :: l, m, hn, hs => by
   rw [List.nodup_cons] at hn
   have ham : a ∈ m := hs a (by simp)
   have := nodup_le l (m.erase a) hn.2 fun x hx => (List.mem_erase_of_ne (fun e => hn.1 (by rw [← e]; exact hx))).2 (hs x (by simp [hx]))
   rw [List.length_erase_of_mem ham] at this
   have := List.length_pos_of_mem ham
   rw [List.length_cons]; omega
theorem ChI.len {out : List ByteArray} (h : ChI cs out) : out.length ≤ cs.length := by
 have := nodup_le out (cs.map Cl.n) h.nd fun x hx => by
  have h1 := h.cl x hx
  rw [← clOf_n h1]
  exact List.mem_map.2 ⟨_, nth_mem _ _ h1, rfl⟩
 simpa using this
def chP (cs : List Cl) (c : ByteArray) : List ByteArray × Bool := chF cs (cs.length + 1) [] c
theorem chF_none {f : Nat} {out : List ByteArray} (h : ¬ isC cs c) : chF cs (f + 1) out c = (out, false) := by unfold chF; rw [if_pos h]
theorem chF_in {f : Nat} {out : List ByteArray} (h : isC cs c) (h2 : c ∈ out) : chF cs (f + 1) out c = (out, true) := by unfold chF; rw [if_neg (not_not_intro h), if_pos h2]
theorem chF_top {f : Nat} {out : List ByteArray} (h : isC cs c) (h2 : c ∉ out) (h3 : (clOf cs c).s = ⟨#[]⟩) : chF cs (f + 1) out c = (out ++ [c], false) := by unfold chF; rw [if_neg (not_not_intro h), if_neg h2, if_pos h3]
theorem chF_up {f : Nat} {out : List ByteArray} (h : isC cs c) (h2 : c ∉ out) (h3 : ¬ (clOf cs c).s = ⟨#[]⟩) : chF cs (f + 1) out c = chF cs f (out ++ [c]) (clOf cs c).s := by
 conv => lhs; unfold chF
 rw [if_neg (not_not_intro h), if_neg h2, if_neg h3]
def sups (cs : List Cl) (c : ByteArray) : List ByteArray := (chP cs c).1
theorem chF_front : ∀ (f : Nat) (out : List ByteArray) (c : ByteArray), ∃ l, (chF cs f out c).1 = out ++ l ∧ ∀ x ∈ l, isC cs x
 | 0, out, c => ⟨[], by simp [chF], fun x hx => by cases hx⟩
 | f + 1, out, c => by
   by_cases h1 : isC cs c
   ·by_cases h2 : c ∈ out
    ·exact ⟨[], by rw [chF_in h1 h2]; simp, fun x hx => by cases hx⟩
    ·by_cases h3 : (clOf cs c).s = ⟨#[]⟩
     ·exact ⟨[c], by rw [chF_top h1 h2 h3], fun x hx => by rw [List.mem_singleton] at hx; rw [hx]; exact h1⟩
     ·obtain ⟨l, e, h⟩ := chF_front f (out ++ [c]) (clOf cs c).s
      exact ⟨c :: l, by rw [chF_up h1 h2 h3, e, List.append_assoc]; rfl, fun x hx => by
       rcases List.mem_cons.1 hx with rfl | hx
       ·exact h1
       ·exact h x hx⟩
   ·exact ⟨[], by rw [chF_none h1]; simp, fun x hx => by cases hx⟩
theorem sups_isC {x : ByteArray} (h : x ∈ sups cs c) : isC cs x := by
 obtain ⟨l, e, hl⟩ := chF_front (cs := cs) (cs.length + 1) [] c
 unfold sups chP at h
 rw [e, List.nil_append] at h
 exact hl x h
theorem sups_none (h : ¬ isC cs c) : sups cs c = [] := by unfold sups chP; rw [chF_none h]
theorem sups_head (h : isC cs c) : ∃ l, sups cs c = c :: l := by
 unfold sups chP
 by_cases h3 : (clOf cs c).s = ⟨#[]⟩
 ·rw [chF_top h (by simp) h3]; exact ⟨[], rfl⟩
 ·rw [chF_up h (by simp) h3]
  obtain ⟨l, e, -⟩ := chF_front (cs := cs) cs.length ([] ++ [c]) (clOf cs c).s
  exact ⟨l, by rw [e]; rfl⟩
theorem chF_ahead : ∀ (f g : Nat) (a b : List ByteArray) (c : ByteArray), ChI cs (a ++ b) → cs.length + 1 ≤ f + (a ++ b).length → cs.length + 1 ≤ g + b.length → (chF cs f (a ++ b) c).2 = false → (chF cs g b c).2 = false ∧ (chF cs f (a ++ b) c).1 = a ++ (chF cs g b c).1
 | 0, g, a, b, c, h, hf, _, _ => by have := h.len; omega
 | f + 1, 0, a, b, c, h, _, hg, _ => by
   have h1 := h.len
   rw [List.length_append] at h1; omega
 | f + 1, g + 1, a, b, c, h, hf, hg, hc => by
   by_cases h1 : isC cs c
   ·by_cases h2 : c ∈ a ++ b
    ·rw [chF_in h1 h2] at hc; cases hc
    ·have h2' : c ∉ b := fun hb => h2 (List.mem_append.2 (.inr hb))
     by_cases h3 : (clOf cs c).s = ⟨#[]⟩
     ·rw [chF_top h1 h2 h3, chF_top h1 h2' h3]; exact ⟨rfl, by simp⟩
     ·rw [chF_up h1 h2 h3] at hc ⊢
      rw [chF_up h1 h2' h3]
      rw [List.append_assoc] at hc ⊢
      refine chF_ahead f g a (b ++ [c]) _ ?_ ?_ ?_ hc
      ·rw [← List.append_assoc]; exact h.push h1 h2
      ·simp only [List.length_append, List.length_singleton] at hf ⊢; omega
      ·simp only [List.length_append, List.length_singleton] at hg ⊢; omega
   ·rw [chF_none h1, chF_none h1]; exact ⟨rfl, rfl⟩
def Acyc (cs : List Cl) : Prop := ∀ c, isC cs c → (chP cs c).2 = false
theorem sups_cons (ha : Acyc cs) (h : isC cs c) : sups cs c = c :: (if (clOf cs c).s = ⟨#[]⟩ then [] else sups cs (clOf cs c).s) := by
 have hc := ha c h
 unfold sups chP at *
 by_cases h3 : (clOf cs c).s = ⟨#[]⟩
 ·rw [chF_top h (by simp) h3, if_pos h3]; rfl
 ·rw [if_neg h3]
  rw [chF_up h (by simp) h3] at hc ⊢
  have hI : ChI cs ([] ++ [c] ++ []) := by
   rw [List.append_nil]; exact ChI.nil.push h (by simp)
  have := chF_ahead (cs := cs) cs.length (cs.length + 1) ([] ++ [c]) [] (clOf cs c).s hI (by simp) (by simp) (by rw [List.append_nil]; exact hc)
  rw [List.append_nil] at this
  rw [this.2]; rfl
theorem sups_self (h : isC cs c) : c ∈ sups cs c := by obtain ⟨l, e⟩ := sups_head h; rw [e]; simp
theorem sups_ind (ha : Acyc cs) {p : ByteArray → Prop} (hp : ∀ c, (isC cs c → (clOf cs c).s ≠ ⟨#[]⟩ → p (clOf cs c).s) → p c) : ∀ c, p c := by
 have key : ∀ (n : Nat) (c : ByteArray), (sups cs c).length ≤ n → p c := by
  intro n
  induction n with
  | zero =>
    intro c hc
    refine hp c fun h => ?_
    rw [sups_cons ha h] at hc; simp at hc
  | succ n ih =>
    intro c hc
    refine hp c fun h hs => ih _ ?_
    rw [sups_cons ha h, if_neg hs, List.length_cons] at hc
    omega
 exact fun c => key _ c (Nat.le_refl _)
theorem sups_trans (ha : Acyc cs) {a b x : ByteArray} (h1 : b ∈ sups cs a) (h2 : x ∈ sups cs b) : x ∈ sups cs a := by
 revert h1
 refine sups_ind ha (p := fun a => b ∈ sups cs a → x ∈ sups cs a) (fun a ih h1 => ?_) a
 by_cases h : isC cs a
 ·have e := sups_cons ha h
  rw [e] at h1
  rcases List.mem_cons.1 h1 with rfl | h1
  ·exact h2
  ·by_cases h3 : (clOf cs a).s = ⟨#[]⟩
   ·rw [if_pos h3] at h1; cases h1
   ·rw [if_neg h3] at h1
    rw [e, if_neg h3]
    exact List.mem_cons_of_mem _ (ih h h3 h1)
 ·rw [sups_none h] at h1; cases h1
def fdV : List Vd → ByteArray → Option ByteArray
 | [], _ => none
 | f :: l, m => if f.n = m then some f.t else fdV l m
def fdM : List Sg → ByteArray → Option Sg
 | [], _ => none
 | s :: l, m => if s.n = m then some s else fdM l m
def fieldL (cs : List Cl) (m : ByteArray) : List ByteArray → Option (ByteArray × ByteArray)
 | [] => none
 | c :: l => match fdV (clOf cs c).fs m with
   | some t => some (c, t)
   | none => fieldL cs m l
def methL (cs : List Cl) (m : ByteArray) : List ByteArray → Option (ByteArray × Sg)
 | [] => none
 | c :: l => match fdM (clOf cs c).ms m with
   | some t => some (c, t)
   | none => methL cs m l
def fieldP (cs : List Cl) (c m : ByteArray) : Option (ByteArray × ByteArray) := fieldL cs m (sups cs c)
def methP (cs : List Cl) (c m : ByteArray) : Option (ByteArray × Sg) := methL cs m (sups cs c)
theorem fdV_mem {l : List Vd} {m t : ByteArray} (h : fdV l m = some t) : ∃ f ∈ l, f.n = m ∧ f.t = t := by
 induction l with
 | nil => cases h
 | cons f l ih =>
   unfold fdV at h
   by_cases e : f.n = m
   ·rw [if_pos e] at h; exact ⟨f, by simp, e, Option.some.inj h⟩
   ·rw [if_neg e] at h
    obtain ⟨g, h1, h2⟩ := ih h
    exact ⟨g, List.mem_cons_of_mem _ h1, h2⟩
theorem fdV_none {l : List Vd} {m : ByteArray} (h : fdV l m = none) : ∀ f ∈ l, f.n ≠ m := by
 induction l with
 | nil => intro f hf; cases hf
 | cons f l ih =>
   unfold fdV at h
   by_cases e : f.n = m
   ·rw [if_pos e] at h; cases h
   ·rw [if_neg e] at h
    intro g hg
    rcases List.mem_cons.1 hg with rfl | hg
    ·exact e
    ·exact ih h g hg
theorem fdM_mem {l : List Sg} {m : ByteArray} {s : Sg} (h : fdM l m = some s) : s ∈ l ∧ s.n = m := by
 induction l with
 | nil => cases h
 | cons f l ih =>
   unfold fdM at h
   by_cases e : f.n = m
   ·rw [if_pos e] at h; obtain rfl := Option.some.inj h; exact ⟨by simp, e⟩
   ·rw [if_neg e] at h
    obtain ⟨h1, h2⟩ := ih h
    exact ⟨List.mem_cons_of_mem _ h1, h2⟩
theorem methL_mem {m c : ByteArray} {s : Sg} : ∀ {l : List ByteArray}, methL cs m l = some (c, s) → c ∈ l ∧ s ∈ (clOf cs c).ms ∧ s.n = m
 | [], h => by cases h
 | a :: l, h => by
   unfold methL at h
   cases e : fdM (clOf cs a).ms m with
   | some t =>
     rw [e] at h
     obtain ⟨rfl, rfl⟩ : a = c ∧ t = s := by simpa using h
     exact ⟨by simp, fdM_mem e⟩
   | none =>
     rw [e] at h
     obtain ⟨h1, h2⟩ := methL_mem h
     exact ⟨List.mem_cons_of_mem _ h1, h2⟩
theorem fieldP_cons (ha : Acyc cs) (h : isC cs c) (m : ByteArray) : fieldP cs c m = match fdV (clOf cs c).fs m with
  | some t => some (c, t)
  | none => if (clOf cs c).s = ⟨#[]⟩ then none else fieldP cs (clOf cs c).s m := by
 unfold fieldP
 rw [sups_cons ha h]
 conv => lhs; unfold fieldL
 cases fdV (clOf cs c).fs m with
 | some t => rfl
 | none => by_cases h3 : (clOf cs c).s = ⟨#[]⟩ <;> simp [h3, fieldL]
theorem methP_cons (ha : Acyc cs) (h : isC cs c) (m : ByteArray) : methP cs c m = match fdM (clOf cs c).ms m with
  | some t => some (c, t)
  | none => if (clOf cs c).s = ⟨#[]⟩ then none else methP cs (clOf cs c).s m := by
 unfold methP
 rw [sups_cons ha h]
 conv => lhs; unfold methL
 cases fdM (clOf cs c).ms m with
 | some t => rfl
 | none => by_cases h3 : (clOf cs c).s = ⟨#[]⟩ <;> simp [h3, methL]
def SameS (a b : Sg) : Prop := a.ps = b.ps ∧ a.r = b.r
structure HOk (cs : List Cl) : Prop where
 acyc : Acyc cs
 dist : ∀ i, i < cs.length → fd cs (nth cs i).n = i
 names : ∀ i, i < cs.length → (nth cs i).n ≠ ⟨#[105, 110, 116]⟩ ∧ (nth cs i).n ≠ ⟨#[110, 117, 108, 108]⟩ ∧ (nth cs i).n ≠ ⟨#[]⟩
 sup : ∀ i, i < cs.length → (nth cs i).s ≠ ⟨#[]⟩ → isC cs (nth cs i).s
 fone : ∀ i, i < cs.length → (nth cs i).s ≠ ⟨#[]⟩ → ∀ f ∈ (nth cs i).fs, fieldP cs (nth cs i).s f.n = none
 mdist : ∀ i, i < cs.length → ∀ j k, j < k → k < (nth cs i).ms.length → (nth (nth cs i).ms j).n ≠ (nth (nth cs i).ms k).n
 over : ∀ i, i < cs.length → ∀ s ∈ (nth cs i).ms, ∀ c ∈ (sups cs (nth cs i).n).tail, ∀ t ∈ (clOf cs c).ms, t.n = s.n → t.st = false ∧ s.st = false ∧ SameS t s
section
variable (H : HOk cs)
include H
theorem HOk.field {a b m : ByteArray} {x : ByteArray × ByteArray} (h1 : b ∈ sups cs a) (h2 : fieldP cs b m = some x) : fieldP cs a m = some x := by
 revert h1
 refine sups_ind H.acyc (p := fun a => b ∈ sups cs a → fieldP cs a m = some x) (fun a ih h1 => ?_) a
 by_cases h : isC cs a
 ·have e := sups_cons H.acyc h
  rw [e] at h1
  rcases List.mem_cons.1 h1 with rfl | h1
  ·exact h2
  ·by_cases h3 : (clOf cs a).s = ⟨#[]⟩
   ·rw [if_pos h3] at h1; cases h1
   ·rw [if_neg h3] at h1
    have h4 := ih h h3 h1
    rw [fieldP_cons H.acyc h, if_neg h3]
    cases e2 : fdV (clOf cs a).fs m with
    | none => exact h4
    | some t =>
      obtain ⟨f, hf, rfl, -⟩ := fdV_mem e2
      have := H.fone _ h h3 f hf
      unfold clOf at h4
      rw [this] at h4; cases h4
 ·rw [sups_none h] at h1; cases h1
theorem HOk.meth {a b m c : ByteArray} {s : Sg} (h1 : b ∈ sups cs a) (h2 : methP cs b m = some (c, s)) (hs : s.st = false) : ∃ c' s', methP cs a m = some (c', s') ∧ s'.st = false ∧ SameS s s' := by
 have hb : isC cs b := sups_isC h1
 obtain ⟨hcb, hsm, hsn⟩ := methL_mem h2
 revert h1
 refine sups_ind H.acyc (p := fun a => b ∈ sups cs a → ∃ c' s', methP cs a m = some (c', s') ∧ s'.st = false ∧ SameS s s') (fun a ih h1 => ?_) a
 by_cases h : isC cs a
 ·have e := sups_cons H.acyc h
  have h1' := h1
  rw [e] at h1
  rcases List.mem_cons.1 h1 with rfl | h1
  ·exact ⟨c, s, h2, hs, rfl, rfl⟩
  ·by_cases h3 : (clOf cs a).s = ⟨#[]⟩
   ·rw [if_pos h3] at h1; cases h1
   ·rw [if_neg h3] at h1
    rw [methP_cons H.acyc h, if_neg h3]
    cases e2 : fdM (clOf cs a).ms m with
    | none => exact ih h h3 h1
    | some t =>
      obtain ⟨htm, htn⟩ := fdM_mem e2
      have h5 : c ∈ sups cs (clOf cs a).s := sups_trans H.acyc h1 hcb
      have h6 : (nth cs (fd cs a)).n = a := fd_at h
      have h7 := H.over _ h t htm c (by rw [h6, e, if_neg h3]; exact h5) s hsm (by rw [hsn, htn])
      exact ⟨a, t, rfl, h7.2.1, h7.2.2⟩
 ·rw [sups_none h] at h1; cases h1
theorem HOk.notC {t : ByteArray} (h : t = ⟨#[105, 110, 116]⟩ ∨ t = ⟨#[110, 117, 108, 108]⟩ ∨ t = ⟨#[]⟩) : ¬ isC cs t := fun hc => by
 have h1 := H.names _ hc
 rw [fd_at hc] at h1
 rcases h with rfl | rfl | rfl
 ·exact h1.1 rfl
 ·exact h1.2.1 rfl
 ·exact h1.2.2 rfl
end
end Go.Hir
end
section
namespace Go.Dfl
open Go.RowKit
structure Fk where
 p : World → Prop
 k : ∀ {Z Z' : World}, p Z → Below Z.heap.size Z Z' → p Z'
structure Env (W0 : World) (L : List Fk) (Z : World) : Prop where
 bel : Below W0.heap.size W0 Z
 all : ∀ q ∈ L, q.p Z
section
variable {W0 W Z Z' : World} {L M : List Fk} {q : Fk}
theorem Env.refl (W : World) : Env W [] W := ⟨Below.refl _ _, fun q hq => by cases hq⟩
theorem Env.below (h : Env W0 L Z) (hb : Below Z.heap.size Z Z') : Env W0 L Z' := ⟨h.bel.trans (hb.mono h.bel.size), fun q hq => q.k (h.all q hq) hb⟩
theorem Env.add (h : Env W0 L Z) (hq : q.p Z) : Env W0 (q :: L) Z := ⟨h.bel, fun r hr => by
 rcases List.mem_cons.1 hr with rfl | hr
 ·exact hq
 ·exact h.all r hr⟩
theorem Env.sub (h : Env W0 L Z) (hs : ∀ q ∈ M, q ∈ L) : Env W0 M Z := ⟨h.bel, fun q hq => h.all q (hs q hq)⟩
theorem Env.drop (h : Env W0 L Z) (n : Nat) : Env W0 (L.drop n) Z := h.sub fun _ hq => List.mem_of_mem_drop hq
def fkC (b : Nat) (cs : List Value) : Fk := ⟨fun Z => ∀ i v, cs[i]? = some v → Z.cell? ⟨b, i, none⟩ = some v, fun {Z Z'} h hb i v hi => by
 have h1 := h i v hi
 rw [hb.cell (World.block_lt_of_cell? _ _ h1)]; exact h1⟩
theorem Env.alloc (h : Env W0 L Z) (cs : List Value) (t : TypeId) : Env W0 (fkC Z.heap.size cs :: L) (Z.alloc (.cells cs.toArray t)) :=
 (h.below ((Below.refl _ _).alloc (Nat.le_refl _) _)).add (q := fkC Z.heap.size cs) (cells_new rfl)
theorem Env.drew (h : Env W0 L Z) : Env W0 L Z.drew := h.below ((Below.refl _ _).drew)
theorem Env.cell (h : Env W0 L Z) {b : Nat} {cs : List Value} (k : Nat) (hk : L[k]? = some (fkC b cs)) (i : Nat) {v : Value} (hv : cs[i]? = some v) : Z.cell? ⟨b, i, none⟩ = some v := by
 have := h.all _ (List.mem_of_getElem? hk)
 exact this i v hv
theorem fkC_grown {b : Nat} {cs : List Value} {row : Option Nat} (h : (fkC b cs).p Z) (hg : Z.grownBy Z' row) (hn : some b ≠ row) : (fkC b cs).p Z' := fun i v hi => hg.cell (h i v hi) hn
theorem Env.grown {row : Option Nat} (h : Env W0 L Z) (hg : Z.grownBy Z' row) (hr : ∀ q, row = some q → W0.heap.size ≤ q) (hL : ∀ f ∈ L, f.p Z → f.p Z') : Env W0 L Z' :=
 ⟨h.bel.grown hg h.bel.size hr, fun f hf => hL f hf (h.all f hf)⟩
theorem Env.grown1 {row : Option Nat} {b : Nat} {cs : List Value} (h : Env W0 [fkC b cs] Z) (hg : Z.grownBy Z' row) (hr : ∀ q, row = some q → W0.heap.size ≤ q ∧ b ≠ q) : Env W0 [fkC b cs] Z' :=
 h.grown hg (fun q e => (hr q e).1) fun f hf hp => by
  obtain rfl := List.mem_singleton.1 hf
  exact fkC_grown hp hg fun e => (hr b e.symm).2 rfl
theorem Env.fact (h : Env W0 L Z) (k : Nat) {q : Fk} (hk : L[k]? = some q) : q.p Z := h.all _ (List.mem_of_getElem? hk)
end
theorem store4 {Z : World} {b : Nat} {z0 z1 z2 z3 y0 y1 y2 y3 : Value} {t : TypeId} (h : Z.heap[b]? = some (.cells #[z0, z1, z2, z3] t)) :
  (Z.cell? ⟨b, 0, none⟩ = some z0 ∧ Z.cell? ⟨b, 1, none⟩ = some z1 ∧ Z.cell? ⟨b, 2, none⟩ = some z2 ∧ Z.cell? ⟨b, 3, none⟩ = some z3 ∧ ∀ j, Z.frozen? ⟨b, j, none⟩ = false) ∧
  (fkC b [y0, y1, y2, y3]).p ((((Z.setCell ⟨b, 0, none⟩ y0).setCell ⟨b, 1, none⟩ y1).setCell ⟨b, 2, none⟩ y2).setCell ⟨b, 3, none⟩ y3) ∧
  Z.grownBy ((((Z.setCell ⟨b, 0, none⟩ y0).setCell ⟨b, 1, none⟩ y1).setCell ⟨b, 2, none⟩ y2).setCell ⟨b, 3, none⟩ y3) (some b) := by
 have h1 := heap_setCell_same Z b 0 _ _ y0 h
 have h2 := heap_setCell_same _ b 1 _ _ y1 h1
 have h3 := heap_setCell_same _ b 2 _ _ y2 h2
 have h4 := heap_setCell_same _ b 3 _ _ y3 h3
 refine ⟨⟨by simp [World.cell?, h], by simp [World.cell?, h], by simp [World.cell?, h], by simp [World.cell?, h], fun j => by simp [World.frozen?, h]⟩, fun i v hi => ?_, grownBy_trans (grownBy_trans (grownBy_trans (grownBy_setCell _ _ _) (grownBy_setCell _ _ _)) (grownBy_setCell _ _ _)) (grownBy_setCell _ _ _)⟩
 match i, hi with
 | 0, hi => simp at hi; subst hi; simp [World.cell?, h4]
 | 1, hi => simp at hi; subst hi; simp [World.cell?, h4]
 | 2, hi => simp at hi; subst hi; simp [World.cell?, h4]
 | 3, hi => simp at hi; subst hi; simp [World.cell?, h4]
 | i + 4, hi => simp at hi
theorem tl_eq {a b : ByteArray} (h : a = b) : (a.toList == b.toList) = true := by rw [h]; simp
theorem tl_ne {a b : ByteArray} (h : a ≠ b) : (a.toList == b.toList) = false := by
 rw [beq_eq_false_iff_ne]
 intro e
 rw [ByteArray.toList_eq, ByteArray.toList_eq] at e
 exact h (Go.WideShapes.bytes_inj e)
theorem tn_eq {a b : ByteArray} (h : a = b) : (a.toList != b.toList) = false := by rw [bne, tl_eq h]; rfl
theorem tn_ne {a b : ByteArray} (h : a ≠ b) : (a.toList != b.toList) = true := by rw [bne, tl_ne h]; rfl
theorem te_eq {a : ByteArray} (h : a = ⟨#[]⟩) : a.toList.isEmpty = true := by rw [h, ByteArray.toList_eq]; rfl
theorem te_ne {a : ByteArray} (h : a ≠ ⟨#[]⟩) : a.toList.isEmpty = false := by
 cases e : a.toList with
 | nil => exact absurd (by rw [ByteArray.toList_eq] at e; exact Go.WideShapes.bytes_inj e) h
 | cons x l => rfl
end Go.Dfl
end
section
namespace Go.Dfl
open Go.RowKit
section
variable {α : Type} {E : El α}
def SrcE (E : El α) (w : World) (u : Value) (m : List α) : Prop :=
 ∃ a c, u = .slice a m.length c ∧ (a = none → m.length = 0) ∧ ∀ j y, (m.flatMap E.c)[j]? = some y → ∃ ad : Addr, a = some ad ∧ w.cell? (ad.add j) = some y
theorem flat_take (l : List α) (k : Nat) (hk : k ≤ l.length) : (l.take k).flatMap E.c = (l.flatMap E.c).take (k * E.sz) := by
 have h : l.flatMap E.c = (l.take k).flatMap E.c ++ (l.drop k).flatMap E.c := by rw [← List.flatMap_append, List.take_append_drop]
 have h2 : ((l.take k).flatMap E.c).length = k * E.sz := by rw [flat_len, List.length_take, Nat.min_eq_left hk]
 conv => rhs; rw [h]
 rw [List.take_left' h2]
theorem wp_appendSE {P : Program} {t e : TypeId} {z : Value} {by8 : Nat} (ht : SliceOf P t e z E.sz by8) (hz : z.cells.size = E.sz) {w : World} {base : Nat} {v u : Value} {l m : List α} {ops : Array Oper} {rest : List Oper} {o : Oper} {a : Act} {Q : Exit → Act → World → Prop}
  (hg : o.guard = none) (s x : Operand) (hop : o.op = .call { callee := .builtin .append, args := #[s, x], argTypes := #[t, t] })
  (hs : a.eval s = v) (hx : a.eval x = u) (hown : OwnE E w base e v l) (hu : SrcE E w u m) (hlen : (l.length + m.length) * by8 ≤ 140737488355328) (hmax : l.length + m.length ≤ 1000000000000) (hbase : base ≤ w.heap.size)
  (hK : ∀ v' w', OwnE E w' base e v' (l ++ m) → w.grownBy w' v.ownBlock → (v'.ownBlock = v.ownBlock ∨ v'.ownBlock = some w.heap.size) → wpList P ops Q rest (a.put o.dst v') w') : wpList P ops Q (o :: rest) a w := by
 refine wpList_plain hg fun K hK' => ?_
 obtain ⟨i, hi, hz0, hz1, hz2⟩ := ht.info
 obtain ⟨ad, cap, rfl, hn, hc⟩ := hu
 have hrun : ∃ v' w', (Builtin.append_ #[t, t] o.type #[v, .slice ad m.length cap]).run P w = .ok v' w' ∧ OwnE E w' base e v' (l ++ m) ∧ w.grownBy w' v.ownBlock ∧ (v'.ownBlock = v.ownBlock ∨ v'.ownBlock = some w.heap.size) := by
  cases ad with
  | none =>
    obtain rfl : m = [] := List.eq_nil_of_length_eq_zero (hn rfl)
    exact ⟨v, w, run_append_none base t o.type e i E.sz ht.und hi v _ _ hown cap, by simpa using hown, grownBy_refl _ _, .inl rfl⟩
  | some ad =>
    obtain ⟨v', w', hr, h5, h6, -, h8⟩ := run_append_own_at (P := P) w base t o.type e i z E.sz by8 ht.und hi hz0 hz1 hz2 hz E.pos v l.length (l.flatMap E.c) hown ad m.length cap (m.flatMap E.c) (by rw [flat_len]) (fun j y hj => by
     obtain ⟨ad', e1, e2⟩ := hc j y hj
     simp only [Option.some.injEq] at e1
     subst e1; exact e2) (fun y hy => by
     obtain ⟨x, -, hx⟩ := List.mem_flatMap.1 hy
     exact E.one x y hx) (by unfold maxLen; omega) hlen hbase
    exact ⟨v', w', hr, by unfold OwnE; rw [List.length_append, List.flatMap_append]; exact h5, h6, h8⟩
 obtain ⟨v', w', hr, k1, k2, k3⟩ := hrun
 unfold Oper.wp execOp
 simp only [hop, resolve, invoke, builtin, Sem.run_bind, Sem.run_pure, Result.andThen_ok, List.map_toArray, List.map_cons, List.map_nil, hs, hx, hr]
 exact hK' _ _ (hK v' w' k1 k2 k3)
theorem ownE_empty0 {w : World} {base B : Nat} {e : TypeId} (h : B = w.heap.size) (hb : base ≤ w.heap.size) : OwnE E (w.alloc (.cells #[] e)) base e (.slice (some ⟨B, 0, none⟩) 0 0) [] := by
 subst h
 exact World.ownsRow_lit (size := E.sz) w #[] 0 hb (by unfold maxLen; omega) (by simp)
end
end Go.Dfl
end
section
namespace Go.Proofs.YtnklnklkblgnfaaGreatDoor
open Go.RowKit Go.Dfl Go.Obs Go.Hir
open Go.Gra (gen_code gen_calls)
def elS1 : El ByteArray := ⟨1, fun s => [.string s], fun _ => rfl, fun x v hv => by simp at hv; rw [hv]; rfl, by omega⟩
theorem sStr : SliceOf Tryz.prog 113 9 (.string .empty) 1 16 := ⟨Tryz.underlying113, info_parts (P := Tryz.prog) (e := 9) (by kernel_rfl)⟩
theorem own_inS {W : World} {B : Nat} {v : Value} {l : List ByteArray} (h : OwnE elS1 W B 9 v l) (hl : ∀ x ∈ l, x.size ≤ maxLen) : InS vS W v l :=
 ⟨_, OwnE.sliced h, fun i hi => by
  refine ⟨?_, hl _ (nth_mem _ _ hi)⟩
  show (List.range 1).map _ = _
  simp [elS1]⟩
theorem InS.strs {W : World} {v : Value} {l : List ByteArray} (h : InS vS W v l) : ∃ a c, v = .slice a l.length c ∧ l.length ≤ 9223372036854775807 ∧
  (∀ x : Int, 0 ≤ x → x < l.length → ∀ W, (Instr.indexAt 113 (.slice a l.length c) (.int .i64 x)).run Tryz.prog W = .ok (.pointer (some ⟨blk a, ofs a + x.toNat, none⟩)) W) ∧
  ∀ i, i < l.length → blk a < W.heap.size ∧ (nth l i).size ≤ maxLen ∧ ∀ Z, Below W.heap.size W Z → Z.cell? ⟨blk a, ofs a + i, none⟩ = some (.string (nth l i)) := by
 obtain ⟨oa, oc, he, hl, hi, hc⟩ := InS.out h sStr
 refine ⟨oa, oc, he, hl, fun x h0 h1 W => by have := hi x h0 h1 W; simpa [vS] using this, fun i hil => ?_⟩
 obtain ⟨h1, cs, hok, h3⟩ := hc i hil
 obtain ⟨rfl, hb⟩ := hok
 exact ⟨h1, hb, fun Z hZ => by have := h3 Z hZ 0 (by decide); simpa [vS, nth] using this⟩
set_option maxHeartbeats 1600000 in
theorem rFind_any (cs : List Cl) (hv : Value) (c : ByteArray) (W : World) (h : InS vCl W hv cs) :
  Calls Tryz.prog 71 #[.agg #[hv], .string c] W fun e W' => e = .returned (.int .i64 (fI cs c)) ∧ Below W.heap.size W W' := by
 obtain ⟨ha, hc, rfl, hlen, hidx, hcell⟩ := InS.cl h
 have HE := Lib.hid ((Env.refl W).alloc [.slice ha cs.length hc] 24)
 have HC := Lib.hid (And.intro hidx hcell)
 clear h hidx hcell
 go_enter Tryz.func71, Tryz.ntmps71
 go_wp2_with fail
 refine gen_code (fun Z => Env W [fkC W.heap.size [.slice ha cs.length hc]] Z) HE.out ?_
 intro Z hZ
 obtain ⟨b, hb⟩ : ∃ b, b = W.heap.size := ⟨_, rfl⟩
 rw [← hb] at hZ ⊢
 have HZ := Lib.hid hZ
 have d0 := hZ.cell 0 rfl 0 rfl
 clear hZ hb HE
 go_loop [5] (fun x => ∃ k : Nat, k ≤ fd cs c ∧ x = .int .i64 (k : Int)) (fun x => cs.length - (intOf x).toNat)
 case atStart => exact ⟨0, by omega, rfl⟩
 case round =>
  obtain ⟨k, hk, rfl⟩ := hrel
  have hkl : k ≤ cs.length := Nat.le_trans hk fd_le
  by_cases hlt : k < cs.length
  ·have hki : (k : Int) < (cs.length : Int) := by omega
   obtain ⟨hbl, v2, v3, -, hcs⟩ := HC.out.2 k hlt
   obtain ⟨o0, o1, o2, o3⟩ := hcs Z HZ.out.bel
   have j1 := HC.out.1 (k : Int) (by omega) (by omega)
   rw [Int.toNat_natCast] at j1
   clear hcs hbl
   by_cases e : (nth cs k).n = c
   ·have hf : fd cs c = k := by
     rcases Nat.lt_or_ge k (fd cs c) with h1 | h1
     ·exact absurd e (fd_before h1)
     ·omega
    have t0 := tl_eq e
    have HF := Lib.hid (show fI cs c = (k : Int) by rw [fI_yes (by omega), hf])
    clear hf hk e
    go_wp2_with fail
    go_ret
    exact ⟨by rw [HF.out]; try rfl, HZ.out.bel⟩
   ·have hk2 : k + 1 ≤ fd cs c := by
     rcases Nat.lt_or_ge k (fd cs c) with h1 | h1
     ·exact h1
     ·have h2 : fd cs c = k := by omega
      exact absurd (by rw [← h2]; exact fd_at (by omega)) e
    have t0 := tl_ne e
    clear e
    go_wp2_with fail
    go_round
    case rel => exact ⟨k + 1, hk2, by go_num⟩
    case measure => simp [intOf]; omega
  ·obtain rfl : k = cs.length := by omega
   have HF := Lib.hid (show fI cs c = -1 from fI_no (by omega))
   clear hlt hk hkl
   go_wp2_with fail
   go_ret
   exact ⟨by rw [HF.out]; try rfl, HZ.out.bel⟩
set_option maxHeartbeats 1600000 in
theorem rIn_any (l : List ByteArray) (lv : Value) (s : ByteArray) (W : World) (h : InS vS W lv l) :
  Calls Tryz.prog 50 #[lv, .string s] W fun e W' => e = .returned (.bool (decide (s ∈ l))) ∧ W = W' := by
 obtain ⟨la, lc, rfl, hlen, hidx, hcell⟩ := InS.strs h
 have HC := Lib.hid (And.intro hidx hcell)
 clear h hidx hcell
 go_enter Tryz.func50, Tryz.ntmps50
 go_wp2_with fail
 go_loop [5] (fun x => ∃ k : Nat, k ≤ l.length ∧ x = .int .i64 (k : Int) ∧ Hid (∀ j, j < k → nth l j ≠ s)) (fun x => l.length - (intOf x).toNat)
 case atStart => exact ⟨0, by omega, rfl, fun j hj => by omega⟩
 case round =>
  obtain ⟨k, hk, rfl, hh⟩ := hrel
  by_cases hlt : k < l.length
  ·have hki : (k : Int) < (l.length : Int) := by omega
   obtain ⟨hbl, -, hcs⟩ := HC.out.2 k hlt
   have o0 := hcs W (Below.refl _ _)
   have j1 := HC.out.1 (k : Int) (by omega) (by omega)
   rw [Int.toNat_natCast] at j1
   clear hcs hbl
   by_cases e : nth l k = s
   ·have t0 := tl_eq e
    have HF := Lib.hid (show decide (s ∈ l) = true by rw [decide_eq_true_eq, ← e]; exact nth_mem _ _ hlt)
    clear e
    go_wp2_with fail
    go_ret
    exact ⟨by rw [HF.out]; try rfl, rfl⟩
   ·have t0 := tl_ne e
    have hh2 : Hid (∀ j, j < k + 1 → nth l j ≠ s) := Lib.hid fun j hj => by
     by_cases e2 : j = k
     ·rw [e2]; exact e
     ·exact hh.out j (by omega)
    clear e
    go_wp2_with fail
    go_round
    case rel => exact ⟨k + 1, by omega, by go_num, hh2⟩
    case measure => simp [intOf]; omega
  ·obtain rfl : k = l.length := by omega
   have HF := Lib.hid (show decide (s ∈ l) = false by
    rw [decide_eq_false_iff_not]
    intro hm
    obtain ⟨j, hj, e⟩ := mem_nth hm
    exact hh.out j hj e)
   clear hlt hk
   go_wp2_with fail
   go_ret
   exact ⟨by rw [HF.out]; try rfl, rfl⟩
theorem isC_len {cs : List Cl} {hv : Value} {W : World} (h : InS vCl W hv cs) {c : ByteArray} (hc : isC cs c) : c.size ≤ maxLen := by
 obtain ⟨_, _, -, -, -, hcell⟩ := InS.cl h
 obtain ⟨-, _, _, ⟨h1, -⟩, -⟩ := hcell _ hc
 rw [fd_at hc] at h1; exact h1
def lenOf : Value → Nat
 | .slice _ n _ => n
 | _ => 0
def ChainR (cs : List Cl) (c : ByteArray) (W : World) (e : Ending) (W' : World) : Prop := ∃ a k, e = .returned (.tuple #[.slice a (chP cs c).1.length k, .bool (chP cs c).2]) ∧ InS vS W' (.slice a (chP cs c).1.length k) (chP cs c).1 ∧ Below W.heap.size W W' ∧ (0 < (chP cs c).1.length → W.heap.size ≤ blk a)
theorem own_blk {W : World} {B n k : Nat} {a : Option Addr} {l : List ByteArray} (h : OwnE elS1 W B 9 (.slice a n k) l) (hl : 0 < l.length) : B ≤ blk a := by
 cases a with
 | none =>
   obtain ⟨h1, ⟨h9, h2⟩ | ⟨g, cap, cur, hv, -⟩⟩ := h
   ·omega
   ·simp at hv
 | some a => exact (OwnE.lt h a.block rfl).1
set_option maxHeartbeats 3200000 in
theorem rChain_any (cs : List Cl) (hv : Value) (c : ByteArray) (W : World) (h : InS vCl W hv cs) (hl : cs.length ≤ 1000000) : Calls Tryz.prog 70 #[.agg #[hv], .string c] W (ChainR cs c W) := by
 obtain ⟨ha, hc, rfl, hlen, hidx, hcell⟩ := InS.cl h
 have HE := Lib.hid ((Env.refl W).alloc [.slice ha cs.length hc] 24)
 have HC := Lib.hid (And.intro hidx (And.intro hcell h))
 clear h hidx hcell
 go_enter Tryz.func70, Tryz.ntmps70
 go_wp2_with fail
 refine gen_calls (fun Z => Env W [fkC W.heap.size [.slice ha cs.length hc]] Z ∧ W.heap.size + 1 ≤ Z.heap.size) ⟨HE.out, by simp⟩ ?_
 intro Z hZ
 obtain ⟨b, hb⟩ : ∃ b, b = W.heap.size := ⟨_, rfl⟩
 rw [← hb] at hZ ⊢
 have HZ := Lib.hid hZ.1
 have hbz := hZ.2
 clear hZ HE
 refine (rFind_any cs _ c Z (HC.out.2.2.below (by rw [hb] at *; exact HZ.out.bel))).mono ?_
 rintro e W1 ⟨rfl, b1⟩
 have H1 := Lib.hid (HZ.out.below b1)
 have hbs : b + 1 ≤ W1.heap.size := Nat.le_trans hbz b1.size
 have HB := Lib.hid hb
 clear b1 HZ hbz hb
 obtain ⟨B, hB⟩ : ∃ B, B = b + 1 := ⟨_, rfl⟩
 rw [← hB] at hbs
 have HBB := Lib.hid hB
 clear hB
 obtain ⟨i0, hi0⟩ : ∃ i0, i0 = fI cs c := ⟨_, rfl⟩
 rw [← hi0]
 have HI := Lib.hid hi0
 clear hi0
 go_wp2_with fail
 go_loopw [1, 6, 7] (fun y o x wr => ∃ (f : Nat) (out : List ByteArray) (cc : ByteArray) (i : Int) (a : Option Addr) (k : Nat), y = .string cc ∧ o = .slice a out.length k ∧ x = .int .i64 i ∧ out.length ≤ cs.length ∧ Hid (OwnE elS1 wr B 9 (.slice a out.length k) out ∧ Env W [fkC b [.slice ha cs.length hc]] wr ∧ B ≤ wr.heap.size ∧ ChI cs out ∧ chF cs f out cc = chP cs c ∧ f + out.length = cs.length + 1 ∧ i = fI cs cc)) (fun _ o _ _ => cs.length + 1 - lenOf o)
 case atStart => exact ⟨cs.length + 1, [], c, i0, none, 0, rfl, rfl, rfl, Nat.zero_le _, OwnE.nil _ _ _ _, H1.out, hbs, ChI.nil, rfl, rfl, HI.out⟩
 case round =>
  obtain ⟨f, out, cc, i, a, k, rfl, rfl, rfl, hol, hh⟩ := hrel
  have HH := Lib.hid hh.out
  have d0 := hh.out.2.1.cell 0 rfl 0 rfl
  clear hh
  by_cases hcc : isC cs cc
  ·have hfd : fd cs cc < cs.length := hcc
   obtain ⟨n, hn⟩ : ∃ n, n = fd cs cc := ⟨_, rfl⟩
   obtain rfl : i = (n : Int) := by rw [HH.out.2.2.2.2.2.2, fI_yes hfd, hn]
   have hsz : ∀ x ∈ out, x.size ≤ maxLen := fun x hx => isC_len HC.out.2.2 (HH.out.2.2.2.1.cl x hx)
   have HIN := Lib.hid (own_inS HH.out.1 hsz)
   have hnl : n < cs.length := by omega
   have HN := Lib.hid (And.intro hn (And.intro hcc hsz))
   clear hn hfd hsz
   go_wp2_with fail
   refine (rIn_any out _ cc _ HIN.out).mono ?_
   rintro e w2 ⟨rfl, rfl⟩
   by_cases hin : cc ∈ out
   ·have hd : decide (cc ∈ out) = true := decide_eq_true hin
    have HR := Lib.hid (show chP cs c = (out, true) by
     obtain ⟨f', rfl⟩ : ∃ f', f = f' + 1 := ⟨f - 1, by have := HH.out.2.2.2.2.2.1; omega⟩
     rw [← HH.out.2.2.2.2.1, chF_in hcc hin])
    rw [hd]
    clear hcc hin hd
    go_wp2_with fail
    go_ret2
    exact ⟨a, k, by rw [HR.out]; rfl, by rw [HR.out]; exact HIN.out, HH.out.2.1.bel, by rw [HR.out]; exact fun h => Nat.le_trans (by have h1 := HB.out; have h2 := HBB.out; omega) (own_blk HH.out.1 h)⟩
   ·have hd : decide (cc ∈ out) = false := decide_eq_false hin
    rw [hd]
    have hbB : W.heap.size ≤ B ∧ b < B := by have h1 := HB.out; have h2 := HBB.out; omega
    have hO := OwnE.grown HH.out.1 (grownBy_alloc wr (.cells #[.string cc] 9)) (by cases (Value.slice a out.length k).ownBlock <;> simp)
    have hEn := HH.out.2.1.grown1 (grownBy_alloc wr (.cells #[.string cc] 9)) (fun q e => by cases e)
    have HO := Lib.hid (And.intro hO (And.intro hEn (And.intro hbB HH.out.2.2.1)))
    have hl1 : (out.length + 1) * 16 ≤ 140737488355328 := by omega
    have hl2 : out.length + 1 ≤ 1000000000000 := by omega
    have hl3 : B ≤ (wr.alloc (.cells #[.string cc] 9)).heap.size := by rw [World.size_alloc]; have := HH.out.2.2.1; omega
    have HIO := Lib.hid hin
    have hsz2 : ∀ x ∈ out ++ [cc], x.size ≤ maxLen := fun x hx => by
     rcases List.mem_append.1 hx with hx | hx
     ·exact HN.out.2.2 x hx
     ·rw [List.mem_singleton.1 hx]; exact isC_len HC.out.2.2 hcc
    have HS2 := Lib.hid hsz2
    obtain ⟨sv, hsv⟩ : ∃ sv, sv = (clOf cs cc).s := ⟨_, rfl⟩
    have hsv2 : (nth cs n).s = sv := by rw [hsv, HN.out.1]; rfl
    have HSV := Lib.hid (And.intro hsv hsv2)
    clear hd hbB hO hEn hsz2 hin hcc hsv hsv2
    have j1 := HC.out.1 (n : Int) (by omega) (by omega)
    rw [Int.toNat_natCast] at j1
    by_cases hs : sv = ⟨#[]⟩
    ·have t1 := tl_eq hs
     have t2 : sv.toList.isEmpty = true := by rw [hs, ByteArray.toList_eq]; rfl
     have HR := Lib.hid (show chP cs c = (out ++ [cc], false) by
      obtain ⟨f', rfl⟩ : ∃ f', f = f' + 1 := ⟨f - 1, by have := HH.out.2.2.2.2.2.1; omega⟩
      rw [← HH.out.2.2.2.2.1, chF_top HN.out.2.1 HIO.out (by rw [← HSV.out.1]; exact hs)])
     clear hs
     go_wp2_with (at_builtin; refine wp_appendE (E := elS1) sStr rfl rfl _ _ rfl (v := .slice a out.length k) (l := out) (base := B) rfl wr.heap.size rfl HO.out.1 cc (cells_new (W := wr) (cs := [.string cc]) (t := 9) rfl) hl1 hl2 hl3 ?_; intro v' w3 hown hgr hat; obtain ⟨s9, c9, rfl⟩ := hown.shape (n := out.length + 1) (by simp); have hE3 := HO.out.2.1.grown1 hgr (fun q e => by have h1 := (OwnE.lt HO.out.1 q e).1; have h2 := HO.out.2.2.1; omega); have hz3 := Nat.le_trans hl3 hgr.size; have e0 := hE3.cell 0 rfl 0 rfl; obtain ⟨-, v2, v3, -, hcs⟩ := HC.out.2.1 n hnl; obtain ⟨-, e1, -, -⟩ := hcs w3 hE3.bel; rw [HSV.out.2] at e1; have H3 := Lib.hid (And.intro hown (And.intro hE3 hz3)); clear hown hgr hat hE3 hz3 hcs)
     go_ret2
     exact ⟨s9, c9, by rw [HR.out]; simp, by rw [HR.out]; simp only [List.length_append, List.length_singleton]; exact own_inS H3.out.1 HS2.out, H3.out.2.1.bel, by rw [HR.out]; exact fun h => Nat.le_trans (by have h1 := HB.out; have h2 := HBB.out; omega) (own_blk H3.out.1 h)⟩
    ·have t1 := tl_ne hs
     have t2 : sv.toList.isEmpty = false := by
      cases e : sv.toList with
      | nil => exact absurd (by rw [ByteArray.toList_eq] at e; exact Go.WideShapes.bytes_inj e) hs
      | cons x l => rfl
     have HR := Lib.hid (show ∃ f', f = f' + 1 ∧ chP cs c = chF cs f' (out ++ [cc]) sv by
      obtain ⟨f', rfl⟩ : ∃ f', f = f' + 1 := ⟨f - 1, by have := HH.out.2.2.2.2.2.1; omega⟩
      exact ⟨f', rfl, by rw [← HH.out.2.2.2.2.1, chF_up HN.out.2.1 HIO.out (by rw [← HSV.out.1]; exact hs), HSV.out.1]⟩)
     clear hs
     go_wp2_with (at_builtin; refine wp_appendE (E := elS1) sStr rfl rfl _ _ rfl (v := .slice a out.length k) (l := out) (base := B) rfl wr.heap.size rfl HO.out.1 cc (cells_new (W := wr) (cs := [.string cc]) (t := 9) rfl) hl1 hl2 hl3 ?_; intro v' w3 hown hgr hat; obtain ⟨s9, c9, rfl⟩ := hown.shape (n := out.length + 1) (by simp); have hE3 := HO.out.2.1.grown1 hgr (fun q e => by have h1 := (OwnE.lt HO.out.1 q e).1; have h2 := HO.out.2.2.1; omega); have hz3 := Nat.le_trans hl3 hgr.size; have e0 := hE3.cell 0 rfl 0 rfl; obtain ⟨-, v2, v3, -, hcs⟩ := HC.out.2.1 n hnl; obtain ⟨-, e1, -, -⟩ := hcs w3 hE3.bel; rw [HSV.out.2] at e1; have H3 := Lib.hid (And.intro hown (And.intro hE3 hz3)); clear hown hgr hat hE3 hz3 hcs)
     refine (rFind_any cs _ sv w3 (HC.out.2.2.below H3.out.2.1.bel)).mono ?_
     rintro e W4 ⟨rfl, b4⟩
     obtain ⟨f', hf1, hf2⟩ := HR.out
     obtain ⟨i4, hi4⟩ : ∃ i4, i4 = fI cs sv := ⟨_, rfl⟩
     rw [← hi4]
     have hI2 := HH.out.2.2.2.1.push HN.out.2.1 HIO.out
     have hl4 := hI2.len
     have H4 := Lib.hid (And.intro (OwnE.grown H3.out.1 (grownBy_below b4) (by cases (Value.slice s9 (out.length + 1) c9).ownBlock <;> simp)) (And.intro (H3.out.2.1.below b4) (And.intro (Nat.le_trans H3.out.2.2 b4.size) (And.intro hI2 (And.intro hf2.symm (And.intro (show f' + (out ++ [cc]).length = cs.length + 1 by have := HH.out.2.2.2.2.2.1; simp; omega) hi4))))))
     rw [List.length_append, List.length_singleton] at hl4
     clear b4 hf1 hf2 hi4 hI2
     go_wp2_with fail
     go_roundw
     case rel => exact ⟨f', out ++ [cc], sv, i4, s9, c9, rfl, by rw [List.length_append, List.length_singleton], rfl, by rw [List.length_append, List.length_singleton]; exact hl4, by rw [show out.length + 1 = (out ++ [cc]).length by simp] at H4; exact H4⟩
     case measure => simp [lenOf]; omega
  ·have HR := Lib.hid (show chP cs c = (out, false) by
    obtain ⟨f', rfl⟩ : ∃ f', f = f' + 1 := ⟨f - 1, by have := HH.out.2.2.2.2.2.1; omega⟩
    rw [← HH.out.2.2.2.2.1, chF_none hcc])
   obtain rfl : i = -1 := by rw [HH.out.2.2.2.2.2.2, fI_no hcc]
   have HIN := Lib.hid (own_inS HH.out.1 fun x hx => isC_len HC.out.2.2 (HH.out.2.2.2.1.cl x hx))
   clear hcc
   go_wp2_with fail
   go_ret2
   exact ⟨a, k, by rw [HR.out]; rfl, by rw [HR.out]; exact HIN.out, HH.out.2.1.bel, by rw [HR.out]; exact fun h => Nat.le_trans (by have h1 := HB.out; have h2 := HBB.out; omega) (own_blk HH.out.1 h)⟩
def SupsR (cs : List Cl) (c : ByteArray) (W : World) (e : Ending) (W' : World) : Prop := ∃ a k, e = .returned (.slice a (sups cs c).length k) ∧ InS vS W' (.slice a (sups cs c).length k) (sups cs c) ∧ Below W.heap.size W W'
def SupsO (cs : List Cl) (c : ByteArray) (W : World) (e : Ending) (W' : World) : Prop := ∃ a k, e = .returned (.slice a (sups cs c).length k) ∧ InS vS W' (.slice a (sups cs c).length k) (sups cs c) ∧ Below W.heap.size W W' ∧ (0 < (sups cs c).length → W.heap.size ≤ blk a)
set_option maxHeartbeats 1600000 in
theorem rSupersO_any (cs : List Cl) (hv : Value) (c : ByteArray) (W : World) (h : InS vCl W hv cs) (hl : cs.length ≤ 1000000) : Calls Tryz.prog 51 #[.agg #[hv], .string c] W (SupsO cs c W) := by
 obtain ⟨ha, hc, rfl⟩ := h.shape
 have HE := Lib.hid (And.intro ((Env.refl W).alloc [.slice ha cs.length hc] 24) h)
 clear h
 go_enter Tryz.func51, Tryz.ntmps51
 go_wp2_with fail
 refine (rChain_any cs _ c _ (HE.out.2.below HE.out.1.bel) hl).mono ?_
 rintro e W1 ⟨a, k, rfl, h1, b1, ho⟩
 have hz : W.heap.size ≤ (W.alloc (.cells #[.slice ha cs.length hc] 24)).heap.size := by rw [World.size_alloc]; omega
 have H1 := Lib.hid (And.intro h1 (And.intro (HE.out.1.below b1).bel (fun h : 0 < (sups cs c).length => Nat.le_trans hz (ho h))))
 clear h1 b1 ho hz
 obtain ⟨fl, hfl⟩ : ∃ fl, fl = (chP cs c).2 := ⟨_, rfl⟩
 obtain ⟨ln, hln⟩ : ∃ ln, ln = (chP cs c).1.length := ⟨_, rfl⟩
 rw [← hfl, ← hln]
 have HL := Lib.hid hln
 clear hfl hln
 go_wp2_with fail
 go_ret
 exact ⟨a, k, by rw [HL.out]; rfl, H1.out.1, H1.out.2.1, H1.out.2.2⟩
theorem rSupers_any (cs : List Cl) (hv : Value) (c : ByteArray) (W : World) (h : InS vCl W hv cs) (hl : cs.length ≤ 1000000) : Calls Tryz.prog 51 #[.agg #[hv], .string c] W (SupsR cs c W) :=
 (rSupersO_any cs hv c W h hl).mono fun _ _ ⟨a, k, h1, h2, h3, _⟩ => ⟨a, k, h1, h2, h3⟩
set_option maxHeartbeats 1600000 in
theorem rIsSub_any (cs : List Cl) (hv : Value) (c d : ByteArray) (W : World) (h : InS vCl W hv cs) (hl : cs.length ≤ 1000000) : Calls Tryz.prog 33 #[.agg #[hv], .string c, .string d] W fun e W' => e = .returned (.bool (decide (d ∈ sups cs c))) ∧ Below W.heap.size W W' := by
 obtain ⟨ha, hc, rfl⟩ := h.shape
 have HE := Lib.hid (And.intro ((Env.refl W).alloc [.slice ha cs.length hc] 24) h)
 clear h
 go_enter Tryz.func33, Tryz.ntmps33
 go_wp2_with fail
 refine (rSupers_any cs _ c _ (HE.out.2.below HE.out.1.bel) hl).mono ?_
 rintro e W1 ⟨a, k, rfl, h1, b1⟩
 have H1 := Lib.hid (And.intro h1 (HE.out.1.below b1).bel)
 clear h1 b1
 go_wp2_with fail
 refine (rIn_any (sups cs c) _ d _ H1.out.1).mono ?_
 rintro e W2 ⟨rfl, rfl⟩
 obtain ⟨x, hx⟩ : ∃ x, x = decide (d ∈ sups cs c) := ⟨_, rfl⟩
 rw [← hx]
 have HX := Lib.hid hx
 clear hx
 go_wp2_with fail
 go_ret
 exact ⟨by rw [← HX.out]; rfl, H1.out.2⟩
end Go.Proofs.YtnklnklkblgnfaaGreatDoor
end
section
namespace Go.Hir
open Go.Dfl (nth nth_mem mem_nth nth_eq nth_ext take_snoc nth_set nth_append nth_out)
open Go.Obs
theorem fdV_at {m : ByteArray} : ∀ {l : List Vd} {k : Nat}, (∀ j, j < k → (nth l j).n ≠ m) → k < l.length → (nth l k).n = m → fdV l m = some (nth l k).t
 | [], k, _, h, _ => by simp at h
 | f :: l, 0, _, _, e => by unfold fdV; have e : f.n = m := e; rw [if_pos e]; rfl
 | f :: l, k + 1, hb, h, e => by
   unfold fdV
   have h0 : f.n ≠ m := hb 0 (by omega)
   rw [if_neg h0]
   exact fdV_at (fun j hj => hb (j + 1) (by omega)) (by simpa using h) e
theorem fdV_out {m : ByteArray} : ∀ {l : List Vd}, (∀ j, j < l.length → (nth l j).n ≠ m) → fdV l m = none
 | [], _ => rfl
 | f :: l, hb => by
   unfold fdV
   have h0 : f.n ≠ m := hb 0 (by simp)
   rw [if_neg h0]
   exact fdV_out fun j hj => hb (j + 1) (by simpa using hj)
theorem fdM_at {m : ByteArray} : ∀ {l : List Sg} {k : Nat}, (∀ j, j < k → (nth l j).n ≠ m) → k < l.length → (nth l k).n = m → fdM l m = some (nth l k)
 | [], k, _, h, _ => by simp at h
 | f :: l, 0, _, _, e => by unfold fdM; have e : f.n = m := e; rw [if_pos e]; rfl
 | f :: l, k + 1, hb, h, e => by
   unfold fdM
   have h0 : f.n ≠ m := hb 0 (by omega)
   rw [if_neg h0]
   exact fdM_at (fun j hj => hb (j + 1) (by omega)) (by simpa using h) e
theorem fdM_out {m : ByteArray} : ∀ {l : List Sg}, (∀ j, j < l.length → (nth l j).n ≠ m) → fdM l m = none
 | [], _ => rfl
 | f :: l, hb => by
   unfold fdM
   have h0 : f.n ≠ m := hb 0 (by simp)
   rw [if_neg h0]
   exact fdM_out fun j hj => hb (j + 1) (by simpa using hj)
section
variable {cs : List Cl} {m : ByteArray}
theorem fieldL_at {t : ByteArray} : ∀ {l : List ByteArray} {k : Nat}, (∀ j, j < k → fdV (clOf cs (nth l j)).fs m = none) → k < l.length → fdV (clOf cs (nth l k)).fs m = some t → fieldL cs m l = some (nth l k, t)
 | [], k, _, h, _ => by simp at h
 | c :: l, 0, _, _, e => by unfold fieldL; have e : fdV (clOf cs c).fs m = some t := e; rw [e]; rfl
 | c :: l, k + 1, hb, h, e => by
   unfold fieldL
   have h0 : fdV (clOf cs c).fs m = none := hb 0 (by omega)
   rw [h0]
   exact fieldL_at (fun j hj => hb (j + 1) (by omega)) (by simpa using h) e
theorem fieldL_out : ∀ {l : List ByteArray}, (∀ j, j < l.length → fdV (clOf cs (nth l j)).fs m = none) → fieldL cs m l = none
 | [], _ => rfl
 | c :: l, hb => by
   unfold fieldL
   have h0 : fdV (clOf cs c).fs m = none := hb 0 (by simp)
   rw [h0]
   exact fieldL_out fun j hj => hb (j + 1) (by simpa using hj)
theorem methL_at {s : Sg} : ∀ {l : List ByteArray} {k : Nat}, (∀ j, j < k → fdM (clOf cs (nth l j)).ms m = none) → k < l.length → fdM (clOf cs (nth l k)).ms m = some s → methL cs m l = some (nth l k, s)
 | [], k, _, h, _ => by simp at h
 | c :: l, 0, _, _, e => by unfold methL; have e : fdM (clOf cs c).ms m = some s := e; rw [e]; rfl
 | c :: l, k + 1, hb, h, e => by
   unfold methL
   have h0 : fdM (clOf cs c).ms m = none := hb 0 (by omega)
   rw [h0]
   exact methL_at (fun j hj => hb (j + 1) (by omega)) (by simpa using h) e
theorem methL_out : ∀ {l : List ByteArray}, (∀ j, j < l.length → fdM (clOf cs (nth l j)).ms m = none) → methL cs m l = none
 | [], _ => rfl
 | c :: l, hb => by
   unfold methL
   have h0 : fdM (clOf cs c).ms m = none := hb 0 (by simp)
   rw [h0]
   exact methL_out fun j hj => hb (j + 1) (by simpa using hj)
end
end Go.Hir
namespace Go.Proofs.YtnklnklkblgnfaaGreatDoor
open Go.RowKit Go.Dfl Go.Obs Go.Hir
open Go.Gra (gen_code gen_calls)
def fkI {α : Type} [Inhabited α] (V : Vw α) (v : Value) (l : List α) : Fk := ⟨fun Z => InS V Z v l, fun h hb => h.below hb⟩
def fldV : Option (ByteArray × ByteArray) → Value
 | some (c, t) => .tuple #[.string c, .string t, .bool true]
 | none => .tuple #[.string ⟨#[]⟩, .string ⟨#[]⟩, .bool false]
set_option maxHeartbeats 3200000 in
theorem rField_any (cs : List Cl) (hv : Value) (c m : ByteArray) (W : World) (h : InS vCl W hv cs) (hl : cs.length ≤ 1000000) : Calls Tryz.prog 147 #[.agg #[hv], .string c, .string m] W fun e W' => e = .returned (fldV (fieldP cs c m)) ∧ Below W.heap.size W W' := by
 obtain ⟨ha, hc, rfl, hlen, hidx, hcell⟩ := InS.cl h
 have HE := Lib.hid ((Env.refl W).alloc [.slice ha cs.length hc] 24)
 have HC := Lib.hid (And.intro hidx (And.intro hcell h))
 clear h hidx hcell
 go_enter Tryz.func147, Tryz.ntmps147
 go_wp2_with fail
 refine (rSupers_any cs _ c _ (HC.out.2.2.below HE.out.bel) hl).mono ?_
 rintro e W1 ⟨la, lc, rfl, h1, b1⟩
 obtain ⟨l, hls⟩ : ∃ l, l = sups cs c := ⟨_, rfl⟩
 rw [← hls] at h1 ⊢
 obtain ⟨b, hb⟩ : ∃ b, b = W.heap.size := ⟨_, rfl⟩
 rw [← hb] at HE ⊢
 have H1 := Lib.hid (((HE.out.below b1).add (q := fkI vS (.slice la l.length lc) l) h1).sub (M := [fkC b [.slice ha cs.length hc], fkI vS (.slice la l.length lc) l]) (by simp))
 have HL := Lib.hid (And.intro (show ∀ x ∈ l, isC cs x from fun x hx => sups_isC (by rw [hls] at hx; exact hx)) hls)
 have hlen2 : l.length ≤ 9223372036854775807 := by obtain ⟨_, _, -, h, -⟩ := InS.strs h1; exact h
 clear h1 b1 hls hb HE
 go_wp2_with fail
 go_loopw [10] (fun x wr => ∃ k : Nat, k ≤ l.length ∧ x = .int .i64 (k : Int) ∧ Hid ((∀ j, j < k → fdV (clOf cs (nth l j)).fs m = none) ∧ Env W [fkC b [.slice ha cs.length hc], fkI vS (.slice la l.length lc) l] wr)) (fun x _ => l.length - (intOf x).toNat)
 case atStart => exact ⟨0, by omega, rfl, fun j hj => by omega, H1.out⟩
 case round =>
  obtain ⟨k, hk, rfl, hh⟩ := hrel
  have HE := Lib.hid hh.out.2
  have HP := Lib.hid hh.out.1
  clear hh H1
  by_cases hlt : k < l.length
  ·have hki : (k : Int) < (l.length : Int) := by omega
   go_wp2_with fail
   obtain ⟨x, hx⟩ : ∃ x, x = nth l k := ⟨_, rfl⟩
   have hxc : isC cs x := by rw [hx]; exact HL.out.1 _ (nth_mem _ _ hlt)
   obtain ⟨n, hn⟩ : ∃ n, n = fd cs x := ⟨_, rfl⟩
   have hnl : n < cs.length := by rw [hn]; exact hxc
   have hfi : fI cs x = (n : Int) := by rw [fI_yes hxc, hn]
   have HE4 := Lib.hid HE.out.drew
   have hLI : InS vS wr.drew (.slice la l.length lc) l := HE4.out.fact 1 rfl
   obtain ⟨_, _, hsh, -, sidx, scell⟩ := InS.strs hLI
   injection hsh with hsh1 hsh2 hsh3
   subst hsh1 hsh3
   obtain ⟨q1, -, sc⟩ := scell k hlt
   have lcell := sc wr.drew (Below.refl _ _)
   rw [← hx] at lcell
   have lidx := sidx (k : Int) (by omega) (by omega)
   rw [Int.toNat_natCast] at lidx
   have d0 := HE4.out.cell 0 rfl 0 rfl
   have q0 : b < wr.drew.heap.size := World.block_lt_of_cell? _ _ d0
   obtain ⟨q2, v2, v3, ⟨-, -, hi2, hi3⟩, hcs⟩ := HC.out.2.1 n hnl
   have q2 : blk ha < wr.drew.heap.size := Nat.lt_of_lt_of_le q2 HE4.out.bel.size
   obtain ⟨ya, yc, rfl⟩ := hi2.shape
   obtain ⟨za, zc, rfl⟩ := hi3.shape
   have cidx := HC.out.1 (n : Int) (by omega) (by omega)
   rw [Int.toNat_natCast] at cidx
   have hcl : nth cs n = clOf cs x := by rw [hn]; rfl
   obtain ⟨o0, o1, o2, o3⟩ := hcs wr.drew HE4.out.bel
   rw [hcl] at hi2 hi3 o0 o1 o2 o3
   obtain ⟨cl, hcl2⟩ : ∃ cl, cl = clOf cs x := ⟨_, rfl⟩
   rw [← hcl2] at hi2 hi3 o0 o1 o2 o3
   have HX := Lib.hid (And.intro (And.intro hx hcl2) (And.intro (And.intro (hi2.below HE4.out.bel) (hi3.below HE4.out.bel)) (And.intro HE4.out.bel hfi)))
   clear hx hxc hn sidx scell sc hi2 hi3 hcs hcl hcl2 hfi hLI
   generalize hyn : cl.fs.length = yn at *
   generalize hzn : cl.ms.length = zn at *
   have HYZ := Lib.hid (And.intro hyn hzn)
   clear hyn hzn
   go_cut [11] (fun q wx => ∃ bc, q = .pointer (some ⟨bc, 0, none⟩) ∧ Env W [fkC bc [.string cl.n, .string cl.s, .slice ya yn yc, .slice za zn zc], fkI vSg (.slice za zn zc) cl.ms, fkI vVd (.slice ya yn yc) cl.fs, fkC b [.slice ha cs.length hc], fkI vS (.slice la l.length lc) l] wx)
   case first =>
    refine wp_region_plan (.take 0 (.take 1 (.take 2 (.take 3 (.take 4 (.take 5 (.take 6 (.alt 7 (.take 8 (.take 9 (.alt 10 (.alt 11 .done .stop) .stop))) (.alt 10 (.alt 7 (.take 8 (.take 9 (.alt 11 .done .stop))) .stop) .stop))))))))) (fun w' => Below wr.drew.heap.size wr.drew w') (by kernel_rfl) (by kernel_rfl) (by kernel_rfl) (by kernel_rfl) (Below.refl _ _) ?_
    have HY := Lib.hid (And.intro HX.out.2.1.1 HX.out.2.1.2)
    generalize wr.drew = W4 at *
    repeat (
     refine plan_take (v := ?_) rfl (Or.inl ⟨by rfl, ?_⟩) ?_
     rotate_left
     ·(intro W hW; have x1 := (hW.cell (p := ⟨b, 0, none⟩) q0).trans d0; have x2 := (hW.cell (p := ⟨blk la, ofs la + k, none⟩) q1).trans lcell; have x3 := (hW.cell (p := ⟨blk ha, ofs ha + n * 4, none⟩) q2).trans o0; have x4 := (hW.cell (p := ⟨blk ha, ofs ha + n * 4 + 1, none⟩) q2).trans o1; have x5 := (hW.cell (p := ⟨blk ha, ofs ha + n * 4 + 2, none⟩) q2).trans o2; have x6 := (hW.cell (p := ⟨blk ha, ofs ha + n * 4 + 3, none⟩) q2).trans o3; (try go_simp); try with_reducible rfl)
     simp only [Act.put, List.setIfInBounds_toArray, List.getElem_toArray, List.getElem_cons_zero, List.getElem_cons_succ, List.set_cons_succ, List.set_cons_zero])
    refine plan_alt rfl ?_ ?_
    ·go_wp2_with fail
     refine (rFind_any cs _ x _ (HC.out.2.2.below HE4.out.bel)).mono ?_
     rintro e W5 ⟨rfl, b5⟩
     rw [HX.out.2.2.2]
     go_wp2_with fail
     refine tail_mk b5 ?_
     repeat (
      refine plan_take (v := ?_) rfl (Or.inl ⟨by rfl, ?_⟩) ?_
      rotate_left
      ·(intro W hW; have x1 := (hW.cell (p := ⟨b, 0, none⟩) q0).trans d0; have x2 := (hW.cell (p := ⟨blk la, ofs la + k, none⟩) q1).trans lcell; have x3 := (hW.cell (p := ⟨blk ha, ofs ha + n * 4, none⟩) q2).trans o0; have x4 := (hW.cell (p := ⟨blk ha, ofs ha + n * 4 + 1, none⟩) q2).trans o1; have x5 := (hW.cell (p := ⟨blk ha, ofs ha + n * 4 + 2, none⟩) q2).trans o2; have x6 := (hW.cell (p := ⟨blk ha, ofs ha + n * 4 + 3, none⟩) q2).trans o3; (try go_simp); try with_reducible rfl)
      simp only [Act.put, List.setIfInBounds_toArray, List.getElem_toArray, List.getElem_cons_zero, List.getElem_cons_succ, List.set_cons_succ, List.set_cons_zero])
     refine plan_alt rfl ?_ plan_stop
     go_wp2_with fail
     refine tail_mk (b5.alloc b5.size _) ?_
     refine plan_alt rfl ?_ plan_stop
     go_wp2_with fail
     have hB : Below W4.heap.size W4 (W5.alloc (.cells #[.string cl.n, .string cl.s, .slice ya yn yc, .slice za zn zc] 146)) := b5.alloc b5.size _
     have hC : (fkC W5.heap.size [.string cl.n, .string cl.s, .slice ya yn yc, .slice za zn zc]).p (W5.alloc (.cells #[.string cl.n, .string cl.s, .slice ya yn yc, .slice za zn zc] 146)) := cells_new rfl
     refine tail_mk hB ?_
     have HBC := Lib.hid (And.intro hB hC)
     clear hB hC b5 d0 lcell o0 o1 o2 o3
     refine plan_done ?_
     go_wp2_with fail
     go_meet
     case rel => exact ⟨_, rfl, (((HE4.out.below HBC.out.1).add (q := fkI vVd (.slice ya yn yc) cl.fs) (HY.out.1.below HBC.out.1)).add (q := fkI vSg (.slice za zn zc) cl.ms) (HY.out.2.below HBC.out.1)).add (q := fkC _ _) HBC.out.2⟩
    ·refine plan_alt rfl ?_ plan_stop
     go_wp2_with fail
     have hA : Below W4.heap.size W4 (W4.alloc (.cells #[.string ⟨#[]⟩, .string ⟨#[]⟩, .slice none 0 0, .slice none 0 0] 146)) := (Below.refl _ _).alloc (Nat.le_refl _) _
     have hN := heap_alloc_new W4 (.cells #[.string ⟨#[]⟩, .string ⟨#[]⟩, .slice none 0 0, .slice none 0 0] 146)
     refine tail_mk hA ?_
     refine plan_alt rfl ?_ plan_stop
     go_wp2_with fail
     refine (rFind_any cs _ x _ (HC.out.2.2.below (HE4.out.bel.trans (hA.mono HE4.out.bel.size)))).mono ?_
     rintro e W5 ⟨rfl, b5⟩
     rw [HX.out.2.2.2]
     go_wp2_with fail
     have hb5 : Below W4.heap.size W4 W5 := hA.trans (b5.mono hA.size)
     refine tail_mk hb5 ?_
     repeat (
      refine plan_take (v := ?_) rfl (Or.inl ⟨by rfl, ?_⟩) ?_
      rotate_left
      ·(intro W hW; have x1 := (hW.cell (p := ⟨b, 0, none⟩) q0).trans d0; have x2 := (hW.cell (p := ⟨blk la, ofs la + k, none⟩) q1).trans lcell; have x3 := (hW.cell (p := ⟨blk ha, ofs ha + n * 4, none⟩) q2).trans o0; have x4 := (hW.cell (p := ⟨blk ha, ofs ha + n * 4 + 1, none⟩) q2).trans o1; have x5 := (hW.cell (p := ⟨blk ha, ofs ha + n * 4 + 2, none⟩) q2).trans o2; have x6 := (hW.cell (p := ⟨blk ha, ofs ha + n * 4 + 3, none⟩) q2).trans o3; (try go_simp); try with_reducible rfl)
      simp only [Act.put, List.setIfInBounds_toArray, List.getElem_toArray, List.getElem_cons_zero, List.getElem_cons_succ, List.set_cons_succ, List.set_cons_zero])
     refine plan_alt rfl ?_ plan_stop
     obtain ⟨bc, hbc⟩ : ∃ bc, bc = W4.heap.size := ⟨_, rfl⟩
     have hN5 : W5.heap[bc]? = some (.cells #[.string ⟨#[]⟩, .string ⟨#[]⟩, .slice none 0 0, .slice none 0 0] 146) := by
      rw [hbc, b5.block W4.heap.size (by simp)]; exact hN
     obtain ⟨⟨z0, z1, z2, z3, zf⟩, hC, hG⟩ := store4 (y0 := .string cl.n) (y1 := .string cl.s) (y2 := .slice ya yn yc) (y3 := .slice za zn zc) hN5
     have hB : Below W4.heap.size W4 _ := hb5.grown hG hb5.size (fun q e => by injection e with e; omega)
     have hb6 : Below bc W4 W5 := by rw [hbc]; exact hb5
     have hB2 : Below bc W4 _ := hb6.grown hG (by rw [hbc]; exact hb5.size) (fun q e => by injection e with e; omega)
     have HBC := Lib.hid (And.intro hB (And.intro hC hB2))
     have f0 := zf 0
     have f1 := zf 1
     have f2 := zf 2
     have f3 := zf 3
     rw [← hbc]
     clear hB hC hG hN5 hN hb5 hA b5 d0 lcell o0 o1 o2 o3 zf hbc hb6 hB2
     go_wp2_with fail
     refine tail_mk HBC.out.2.2 ?_
     refine plan_done ?_
     clear z0 z1 z2 z3 f0 f1 f2 f3
     go_wp2_with fail
     go_meet
     case rel => exact ⟨_, rfl, (((HE4.out.below HBC.out.1).add (q := fkI vVd (.slice ya yn yc) cl.fs) (HY.out.1.below HBC.out.1)).add (q := fkI vSg (.slice za zn zc) cl.ms) (HY.out.2.below HBC.out.1)).add (q := fkC _ _) HBC.out.2.1⟩
   case rest =>
    obtain ⟨bc, rfl, hEn⟩ := hcut
    have HN := Lib.hid hEn
    clear hEn
    have hVI : InS vVd wc (.slice ya yn yc) cl.fs := HN.out.fact 2 rfl
    obtain ⟨_, _, hsh, hyl, fidx, fcell⟩ := InS.vd hVI
    injection hsh with hsh1 hsh2 hsh3
    subst hsh1 hsh3
    rw [← hsh2] at fidx fcell hyl
    have e0 := HN.out.cell 0 rfl 2 rfl
    have HFI := Lib.hid (And.intro fidx (And.intro fcell hsh2))
    clear fidx fcell hsh2 hVI lcell o0 o1 o2 o3 cidx d0 q0 q1 q2 lidx
    go_wp2_with fail
    go_loop [12] (fun x => ∃ q : Nat, q ≤ yn ∧ x = .int .i64 (q : Int) ∧ Hid (∀ j, j < q → (nth cl.fs j).n ≠ m)) (fun x => yn - (intOf x).toNat)
    case atStart => exact ⟨0, by omega, rfl, fun j hj => by omega⟩
    case round =>
     obtain ⟨q, hq, rfl, hh⟩ := hrel
     by_cases hql : q < yn
     ·have hqi : (q : Int) < (yn : Int) := by omega
      obtain ⟨-, -, hz⟩ := HFI.out.2.1 q hql
      obtain ⟨p0, p1⟩ := hz wc (Below.refl _ _)
      have j1 := HFI.out.1 (q : Int) (by omega) (by omega)
      rw [Int.toNat_natCast] at j1
      clear hz
      by_cases e : (nth cl.fs q).n = m
      ·have t0 := tl_eq e
       have HR := Lib.hid (show fieldP cs c m = some (x, (nth cl.fs q).t) by
        have h1 := fdV_at hh.out (by rw [← HFI.out.2.2]; exact hql) e
        rw [HX.out.1.2, HX.out.1.1] at h1
        unfold fieldP
        rw [← HL.out.2, fieldL_at HP.out hlt h1, HX.out.1.2, HX.out.1.1])
       have hLI : InS vS wc (.slice la l.length lc) l := HN.out.fact 4 rfl
       obtain ⟨_, _, hsh, -, sidx, scell⟩ := InS.strs hLI
       injection hsh with hsh1 hsh2 hsh3
       subst hsh1 hsh3
       obtain ⟨-, -, sc⟩ := scell k hlt
       have lcell := sc wc (Below.refl _ _)
       rw [← HX.out.1.1] at lcell
       have lidx := sidx (k : Int) (by omega) (by omega)
       rw [Int.toNat_natCast] at lidx
       clear sidx scell sc hLI e
       go_wp2_with fail
       go_quiet (fail)
       go_wp2_with fail
       go_ret3
       exact ⟨by rw [HR.out]; rfl, bel_trans HN.out.bel (qt_below (Qt.drewN _ _))⟩
      ·have t0 := tl_ne e
       have hh2 : Hid (∀ j, j < q + 1 → (nth cl.fs j).n ≠ m) := Lib.hid fun j hj => by
        by_cases e2 : j = q
        ·rw [e2]; exact e
        ·exact hh.out j (by omega)
       clear e
       go_wp2_with fail
       go_round
       case rel => exact ⟨q + 1, by omega, by go_num, hh2⟩
       case measure => simp [intOf]; omega
     ·obtain rfl : q = yn := by omega
      have HP2 := Lib.hid (show ∀ j, j < k + 1 → fdV (clOf cs (nth l j)).fs m = none from fun j hj => by
       by_cases e2 : j = k
       ·rw [e2, ← HX.out.1.1, ← HX.out.1.2]
        exact fdV_out fun i hi => hh.out i (by rw [HFI.out.2.2]; exact hi)
       ·exact HP.out j (by omega))
      clear hql hq
      go_wp2_with fail
      go_roundw
      case rel => exact ⟨k + 1, by omega, by go_num, HP2.out, HN.out.sub (by simp)⟩
      case measure => simp [intOf]; omega
  ·obtain rfl : k = l.length := by omega
   have HR := Lib.hid (show fieldP cs c m = none by
    unfold fieldP
    rw [← HL.out.2]
    exact fieldL_out HP.out)
   clear hlt hk
   go_wp2_with fail
   go_ret3
   exact ⟨by rw [HR.out]; rfl, HE.out.bel⟩
end Go.Proofs.YtnklnklkblgnfaaGreatDoor
end
section
namespace Go
theorem results_mid {fn : Func} {p u v : Tmp} {ty : TypeId} (h : fn.results = #[.tmp u, .cell p ty, .tmp v]) (tmps : Array Value) (P : Program) (w : World) :
  (results fn tmps).run P w =
   ((asAddr (tmps.getD p undef)).run P w).andThen fun a w₁ => ((loadVar ty a).run P w₁).andThen fun x w₂ => .ok (.tuple #[tmps.getD u undef, x, tmps.getD v undef]) w₂ := by
 simp only [results, h]
 simp [Sem.run_bind, Result.andThen]
end Go
namespace Go.Proofs.YtnklnklkblgnfaaGreatDoor
open Go.RowKit Go.Dfl Go.Obs Go.Hir
open Go.Gra (gen_code gen_calls)
def fkH (b : Nat) (o : Obj) : Fk := ⟨fun Z => Z.heap[b]? = some o, fun {Z Z'} h hb => by
 have h1 : b < Z.heap.size := by
  rcases Nat.lt_or_ge b Z.heap.size with h2 | h2
  ·exact h2
  ·rw [Array.getElem?_eq_none h2] at h; cases h
 rw [hb.block b h1]; exact h⟩
def sg0 : Sg := ⟨⟨#[]⟩, false, [], ⟨#[]⟩⟩
abbrev sgV (s : Sg) (pv : Value) : Value := .agg #[.string s.n, .bool s.st, pv, .string s.r]
def MethR (cs : List Cl) (hv : Value) (c m : ByteArray) (W : World) (e : Ending) (W' : World) : Prop := ∃ (d : ByteArray) (s : Sg) (pv : Value) (ok : Bool), e = .returned (.tuple #[.string d, sgV s pv, .bool ok]) ∧ InS vS W' pv s.ps ∧ (∀ W0, InS vCl W0 hv cs → Below W0.heap.size W0 W → InS vS W0 pv s.ps) ∧ methP cs c m = (if ok then some (d, s) else none) ∧ s.n.size ≤ maxLen ∧ s.r.size ≤ maxLen ∧ Below W.heap.size W W'
set_option maxHeartbeats 6400000 in
theorem rMeth_any (cs : List Cl) (hv : Value) (c m : ByteArray) (W : World) (h : InS vCl W hv cs) (hl : cs.length ≤ 1000000) : Calls Tryz.prog 69 #[.agg #[hv], .string c, .string m] W (MethR cs hv c m W) := by
 obtain ⟨ha, hc, rfl, hlen, hidx, hcell⟩ := InS.cl h
 have HE := Lib.hid (And.intro (((((Env.refl W).alloc [.slice ha cs.length hc] 24).below ((Below.refl _ _).alloc (Nat.le_refl _) (.cells #[.string ⟨#[]⟩, .bool false, .slice none 0 0, .string ⟨#[]⟩] 115))).add (q := fkH (W.heap.size + 1) (.cells #[.string ⟨#[]⟩, .bool false, .slice none 0 0, .string ⟨#[]⟩] 115)) (by
  have := heap_alloc_new (W.alloc (.cells #[.slice ha cs.length hc] 24)) (.cells #[.string ⟨#[]⟩, .bool false, .slice none 0 0, .string ⟨#[]⟩] 115)
  rw [World.size_alloc] at this
  exact this))) (show W.heap.size + 2 ≤ ((W.alloc (.cells #[.slice ha cs.length hc] 24)).alloc (.cells #[.string ⟨#[]⟩, .bool false, .slice none 0 0, .string ⟨#[]⟩] 115)).heap.size by rw [World.size_alloc, World.size_alloc]; omega))
 have HC := Lib.hid (And.intro hidx (And.intro hcell h))
 clear h hidx hcell
 go_enter Tryz.func69, Tryz.ntmps69
 go_wp2_with fail
 refine (rSupersO_any cs _ c _ (HC.out.2.2.below HE.out.1.bel) hl).mono ?_
 rintro e W1 ⟨la, lc, rfl, h1, b1, ho⟩
 obtain ⟨l, hls⟩ : ∃ l, l = sups cs c := ⟨_, rfl⟩
 rw [← hls] at h1 ho ⊢
 obtain ⟨b, hb⟩ : ∃ b, b = W.heap.size := ⟨_, rfl⟩
 obtain ⟨br, hbr⟩ : ∃ br, br = W.heap.size + 1 := ⟨_, rfl⟩
 have H1 := Lib.hid (((HE.out.1.below b1).add (q := fkI vS (.slice la l.length lc) l) h1).sub (M := [fkC W.heap.size [.slice ha cs.length hc], fkI vS (.slice la l.length lc) l, fkH (W.heap.size + 1) (.cells #[.string ⟨#[]⟩, .bool false, .slice none 0 0, .string ⟨#[]⟩] 115)]) (by simp))
 have hla : 0 < l.length → br < blk la := fun h => by have h2 := ho h; have h3 := HE.out.2; omega
 have hbz : br < W1.heap.size := by have h2 := b1.size; have h3 := HE.out.2; omega
 rw [← hbr, ← hb] at H1
 rw [← hbr, ← hb]
 have HL := Lib.hid (And.intro (show ∀ x ∈ l, isC cs x from fun x hx => sups_isC (by rw [hls] at hx; exact hx)) (And.intro hls (And.intro hla hbr)))
 have hlen2 : l.length ≤ 9223372036854775807 := by obtain ⟨_, _, -, h, -⟩ := InS.strs h1; exact h
 have hz1 : Hid (br < W1.heap.size) := Lib.hid hbz
 clear h1 b1 hls hb HE ho hla hbr hbz
 go_wp2_with fail
 go_loopw [10] (fun x wr => ∃ k : Nat, k ≤ l.length ∧ x = .int .i64 (k : Int) ∧ Hid ((∀ j, j < k → fdM (clOf cs (nth l j)).ms m = none) ∧ Env W [fkC b [.slice ha cs.length hc], fkI vS (.slice la l.length lc) l, fkH br (.cells #[.string ⟨#[]⟩, .bool false, .slice none 0 0, .string ⟨#[]⟩] 115)] wr ∧ br < wr.heap.size)) (fun x _ => l.length - (intOf x).toNat)
 case atStart => exact ⟨0, by omega, rfl, fun j hj => by omega, H1.out, hz1.out⟩
 case round =>
  obtain ⟨k, hk, rfl, hh⟩ := hrel
  have HE := Lib.hid hh.out.2.1
  have HP := Lib.hid (And.intro hh.out.1 hh.out.2.2)
  clear hh H1 hz1
  by_cases hlt : k < l.length
  ·have hki : (k : Int) < (l.length : Int) := by omega
   go_wp2_with fail
   obtain ⟨x, hx⟩ : ∃ x, x = nth l k := ⟨_, rfl⟩
   have hxc : isC cs x := by rw [hx]; exact HL.out.1 _ (nth_mem _ _ hlt)
   obtain ⟨n, hn⟩ : ∃ n, n = fd cs x := ⟨_, rfl⟩
   have hnl : n < cs.length := by rw [hn]; exact hxc
   have hfi : fI cs x = (n : Int) := by rw [fI_yes hxc, hn]
   have HE4 := Lib.hid HE.out.drew
   have hLI : InS vS wr.drew (.slice la l.length lc) l := HE4.out.fact 1 rfl
   obtain ⟨_, _, hsh, -, sidx, scell⟩ := InS.strs hLI
   injection hsh with hsh1 hsh2 hsh3
   subst hsh1 hsh3
   obtain ⟨q1, -, sc⟩ := scell k hlt
   have lcell := sc wr.drew (Below.refl _ _)
   rw [← hx] at lcell
   have lidx := sidx (k : Int) (by omega) (by omega)
   rw [Int.toNat_natCast] at lidx
   have d0 := HE4.out.cell 0 rfl 0 rfl
   have q0 : b < wr.drew.heap.size := World.block_lt_of_cell? _ _ d0
   obtain ⟨q2, v2, v3, ⟨-, -, hi2, hi3⟩, hcs⟩ := HC.out.2.1 n hnl
   have q2 : blk ha < wr.drew.heap.size := Nat.lt_of_lt_of_le q2 HE4.out.bel.size
   obtain ⟨ya, yc, rfl⟩ := hi2.shape
   obtain ⟨za9, zc9, he9, -, -, hz9⟩ := InS.sg hi3
   obtain ⟨za, zc, rfl⟩ := hi3.shape
   injection he9 with he1 he2 he3
   subst he1 he3
   clear he2
   have hz8 : ∀ i, i < (nth cs n).ms.length → blk za < W.heap.size := fun i hi => (hz9 i hi).1
   clear hz9
   have cidx := HC.out.1 (n : Int) (by omega) (by omega)
   rw [Int.toNat_natCast] at cidx
   have hcl : nth cs n = clOf cs x := by rw [hn]; rfl
   obtain ⟨o0, o1, o2, o3⟩ := hcs wr.drew HE4.out.bel
   rw [hcl] at hi2 hi3 o0 o1 o2 o3 hz8
   obtain ⟨cl, hcl2⟩ : ∃ cl, cl = clOf cs x := ⟨_, rfl⟩
   rw [← hcl2] at hi2 hi3 o0 o1 o2 o3 hz8
   have HX := Lib.hid (And.intro (And.intro hx hcl2) (And.intro (And.intro (hi2.below HE4.out.bel) (hi3.below HE4.out.bel)) (And.intro HE4.out.bel (And.intro hfi (And.intro hz8 hi3)))))
   clear hx hxc hn sidx scell sc hi2 hi3 hcs hcl hcl2 hfi hLI hz8
   generalize hyn : cl.fs.length = yn at *
   generalize hzn : cl.ms.length = zn at *
   have HYZ := Lib.hid (And.intro hyn hzn)
   clear hyn hzn
   go_cut [11] (fun q wx => ∃ bc, q = .pointer (some ⟨bc, 0, none⟩) ∧ wr.heap.size ≤ bc ∧ Env W [fkC bc [.string cl.n, .string cl.s, .slice ya yn yc, .slice za zn zc], fkI vSg (.slice za zn zc) cl.ms, fkI vVd (.slice ya yn yc) cl.fs, fkC b [.slice ha cs.length hc], fkI vS (.slice la l.length lc) l, fkH br (.cells #[.string ⟨#[]⟩, .bool false, .slice none 0 0, .string ⟨#[]⟩] 115)] wx)
   case first =>
    refine wp_region_plan (.take 0 (.take 1 (.take 2 (.take 3 (.take 4 (.take 5 (.take 6 (.alt 7 (.take 8 (.take 9 (.alt 10 (.alt 11 .done .stop) .stop))) (.alt 10 (.alt 7 (.take 8 (.take 9 (.alt 11 .done .stop))) .stop) .stop))))))))) (fun w' => Below wr.drew.heap.size wr.drew w') (by kernel_rfl) (by kernel_rfl) (by kernel_rfl) (by kernel_rfl) (Below.refl _ _) ?_
    have HY := Lib.hid (And.intro HX.out.2.1.1 HX.out.2.1.2)
    have hzz : wr.heap.size = wr.drew.heap.size := rfl
    generalize wr.drew = W4 at *
    have HZZ := Lib.hid hzz
    clear hzz
    repeat (
     refine plan_take (v := ?_) rfl (Or.inl ⟨by rfl, ?_⟩) ?_
     rotate_left
     ·(intro W hW; have x1 := (hW.cell (p := ⟨b, 0, none⟩) q0).trans d0; have x2 := (hW.cell (p := ⟨blk la, ofs la + k, none⟩) q1).trans lcell; have x3 := (hW.cell (p := ⟨blk ha, ofs ha + n * 4, none⟩) q2).trans o0; have x4 := (hW.cell (p := ⟨blk ha, ofs ha + n * 4 + 1, none⟩) q2).trans o1; have x5 := (hW.cell (p := ⟨blk ha, ofs ha + n * 4 + 2, none⟩) q2).trans o2; have x6 := (hW.cell (p := ⟨blk ha, ofs ha + n * 4 + 3, none⟩) q2).trans o3; (try go_simp); try with_reducible rfl)
     simp only [Act.put, List.setIfInBounds_toArray, List.getElem_toArray, List.getElem_cons_zero, List.getElem_cons_succ, List.set_cons_succ, List.set_cons_zero])
    refine plan_alt rfl ?_ ?_
    ·go_wp2_with fail
     refine (rFind_any cs _ x _ (HC.out.2.2.below HE4.out.bel)).mono ?_
     rintro e W5 ⟨rfl, b5⟩
     rw [HX.out.2.2.2.1]
     go_wp2_with fail
     refine tail_mk b5 ?_
     repeat (
      refine plan_take (v := ?_) rfl (Or.inl ⟨by rfl, ?_⟩) ?_
      rotate_left
      ·(intro W hW; have x1 := (hW.cell (p := ⟨b, 0, none⟩) q0).trans d0; have x2 := (hW.cell (p := ⟨blk la, ofs la + k, none⟩) q1).trans lcell; have x3 := (hW.cell (p := ⟨blk ha, ofs ha + n * 4, none⟩) q2).trans o0; have x4 := (hW.cell (p := ⟨blk ha, ofs ha + n * 4 + 1, none⟩) q2).trans o1; have x5 := (hW.cell (p := ⟨blk ha, ofs ha + n * 4 + 2, none⟩) q2).trans o2; have x6 := (hW.cell (p := ⟨blk ha, ofs ha + n * 4 + 3, none⟩) q2).trans o3; (try go_simp); try with_reducible rfl)
      simp only [Act.put, List.setIfInBounds_toArray, List.getElem_toArray, List.getElem_cons_zero, List.getElem_cons_succ, List.set_cons_succ, List.set_cons_zero])
     refine plan_alt rfl ?_ plan_stop
     go_wp2_with fail
     refine tail_mk (b5.alloc b5.size _) ?_
     refine plan_alt rfl ?_ plan_stop
     go_wp2_with fail
     have hB : Below W4.heap.size W4 (W5.alloc (.cells #[.string cl.n, .string cl.s, .slice ya yn yc, .slice za zn zc] 146)) := b5.alloc b5.size _
     have hC : (fkC W5.heap.size [.string cl.n, .string cl.s, .slice ya yn yc, .slice za zn zc]).p (W5.alloc (.cells #[.string cl.n, .string cl.s, .slice ya yn yc, .slice za zn zc] 146)) := cells_new rfl
     refine tail_mk hB ?_
     have HBC := Lib.hid (And.intro hB (And.intro hC (show wr.heap.size ≤ W5.heap.size by rw [HZZ.out]; exact b5.size)))
     clear hB hC b5 d0 lcell o0 o1 o2 o3
     refine plan_done ?_
     go_wp2_with fail
     go_meet
     case rel => exact ⟨_, rfl, HBC.out.2.2, (((HE4.out.below HBC.out.1).add (q := fkI vVd (.slice ya yn yc) cl.fs) (HY.out.1.below HBC.out.1)).add (q := fkI vSg (.slice za zn zc) cl.ms) (HY.out.2.below HBC.out.1)).add (q := fkC _ _) HBC.out.2.1⟩
    ·refine plan_alt rfl ?_ plan_stop
     go_wp2_with fail
     have hA : Below W4.heap.size W4 (W4.alloc (.cells #[.string ⟨#[]⟩, .string ⟨#[]⟩, .slice none 0 0, .slice none 0 0] 146)) := (Below.refl _ _).alloc (Nat.le_refl _) _
     have hN := heap_alloc_new W4 (.cells #[.string ⟨#[]⟩, .string ⟨#[]⟩, .slice none 0 0, .slice none 0 0] 146)
     refine tail_mk hA ?_
     refine plan_alt rfl ?_ plan_stop
     go_wp2_with fail
     refine (rFind_any cs _ x _ (HC.out.2.2.below (HE4.out.bel.trans (hA.mono HE4.out.bel.size)))).mono ?_
     rintro e W5 ⟨rfl, b5⟩
     rw [HX.out.2.2.2.1]
     go_wp2_with fail
     have hb5 : Below W4.heap.size W4 W5 := hA.trans (b5.mono hA.size)
     refine tail_mk hb5 ?_
     repeat (
      refine plan_take (v := ?_) rfl (Or.inl ⟨by rfl, ?_⟩) ?_
      rotate_left
      ·(intro W hW; have x1 := (hW.cell (p := ⟨b, 0, none⟩) q0).trans d0; have x2 := (hW.cell (p := ⟨blk la, ofs la + k, none⟩) q1).trans lcell; have x3 := (hW.cell (p := ⟨blk ha, ofs ha + n * 4, none⟩) q2).trans o0; have x4 := (hW.cell (p := ⟨blk ha, ofs ha + n * 4 + 1, none⟩) q2).trans o1; have x5 := (hW.cell (p := ⟨blk ha, ofs ha + n * 4 + 2, none⟩) q2).trans o2; have x6 := (hW.cell (p := ⟨blk ha, ofs ha + n * 4 + 3, none⟩) q2).trans o3; (try go_simp); try with_reducible rfl)
      simp only [Act.put, List.setIfInBounds_toArray, List.getElem_toArray, List.getElem_cons_zero, List.getElem_cons_succ, List.set_cons_succ, List.set_cons_zero])
     refine plan_alt rfl ?_ plan_stop
     obtain ⟨bc, hbc⟩ : ∃ bc, bc = W4.heap.size := ⟨_, rfl⟩
     have hN5 : W5.heap[bc]? = some (.cells #[.string ⟨#[]⟩, .string ⟨#[]⟩, .slice none 0 0, .slice none 0 0] 146) := by
      rw [hbc, b5.block W4.heap.size (by simp)]; exact hN
     obtain ⟨⟨z0, z1, z2, z3, zf⟩, hC, hG⟩ := store4 (y0 := .string cl.n) (y1 := .string cl.s) (y2 := .slice ya yn yc) (y3 := .slice za zn zc) hN5
     have hB : Below W4.heap.size W4 _ := hb5.grown hG hb5.size (fun q e => by injection e with e; omega)
     have hb6 : Below bc W4 W5 := by rw [hbc]; exact hb5
     have hB2 : Below bc W4 _ := hb6.grown hG (by rw [hbc]; exact hb5.size) (fun q e => by injection e with e; omega)
     have HBC := Lib.hid (And.intro hB (And.intro hC (And.intro hB2 (show wr.heap.size ≤ bc by rw [HZZ.out, hbc]; exact Nat.le_refl _))))
     have f0 := zf 0
     have f1 := zf 1
     have f2 := zf 2
     have f3 := zf 3
     rw [← hbc]
     clear hB hC hG hN5 hN hb5 hA b5 d0 lcell o0 o1 o2 o3 zf hbc hb6 hB2
     go_wp2_with fail
     refine tail_mk HBC.out.2.2.1 ?_
     refine plan_done ?_
     clear z0 z1 z2 z3 f0 f1 f2 f3
     go_wp2_with fail
     go_meet
     case rel => exact ⟨_, rfl, HBC.out.2.2.2, (((HE4.out.below HBC.out.1).add (q := fkI vVd (.slice ya yn yc) cl.fs) (HY.out.1.below HBC.out.1)).add (q := fkI vSg (.slice za zn zc) cl.ms) (HY.out.2.below HBC.out.1)).add (q := fkC _ _) HBC.out.2.1⟩
   case rest =>
    obtain ⟨bc, rfl, hbc9, hEn⟩ := hcut
    have HN := Lib.hid hEn
    clear hEn
    have HZA := Lib.hid (show ∀ W0, InS vCl W0 (.slice ha cs.length hc) cs → Below W0.heap.size W0 W → InS vSg W0 (.slice za zn zc) cl.ms from fun W0 h0 hb0 => by
     obtain ⟨_, _, hsh9, -, -, hc0⟩ := InS.cl h0
     injection hsh9 with e1 e2 e3
     subst e1 e3
     obtain ⟨-, u2, u3, ⟨-, -, -, h3'⟩, hcs'⟩ := hc0 n hnl
     have h9 := (hcs' wr.drew (hb0.trans (HX.out.2.2.1.mono hb0.size))).2.2.2
     rw [o3] at h9
     injection h9 with h9
     rw [← h9] at h3'
     have hxc := HL.out.1 x (by rw [HX.out.1.1]; exact nth_mem _ _ hlt)
     have hf := HX.out.2.2.2.1
     rw [fI_yes hxc] at hf
     have hn9 : fd cs x = n := by omega
     have hn8 : nth cs n = cl := by rw [HX.out.1.2, ← hn9]; rfl
     rw [hn8] at h3'
     exact h3')
    have hVI : InS vSg W (.slice za zn zc) cl.ms := HX.out.2.2.2.2.2
    obtain ⟨_, _, hsh, hyl, fidx, fcell⟩ := InS.sg hVI
    injection hsh with hsh1 hsh2 hsh3
    subst hsh1 hsh3
    rw [← hsh2] at fidx fcell hyl
    have e0 := HN.out.cell 0 rfl 3 rfl
    have HFI := Lib.hid (And.intro fidx (And.intro fcell (And.intro hsh2 hbc9)))
    clear fidx fcell hsh2 hVI lcell o0 o1 o2 o3 cidx d0 q0 q1 q2 lidx hbc9
    go_wp2_with fail
    go_loop [12] (fun x => ∃ q : Nat, q ≤ zn ∧ x = .int .i64 (q : Int) ∧ Hid (∀ j, j < q → (nth cl.ms j).n ≠ m)) (fun x => zn - (intOf x).toNat)
    case atStart => exact ⟨0, by omega, rfl, fun j hj => by omega⟩
    case round =>
     obtain ⟨q, hq, rfl, hh⟩ := hrel
     by_cases hql : q < zn
     ·have hqi : (q : Int) < (zn : Int) := by omega
      obtain ⟨-, pv, ⟨hs1, hs2, hps⟩, hz⟩ := HFI.out.2.1 q hql
      obtain ⟨p0, p1, p2, p3⟩ := hz wc HN.out.bel
      have j1 := HFI.out.1 (q : Int) (by omega) (by omega)
      rw [Int.toNat_natCast] at j1
      clear hz
      by_cases e : (nth cl.ms q).n = m
      ·have t0 := tl_eq e
       have HR := Lib.hid (show methP cs c m = some (x, nth cl.ms q) by
        have h1 := fdM_at hh.out (by rw [← HFI.out.2.2.1]; exact hql) e
        rw [HX.out.1.2, HX.out.1.1] at h1
        unfold methP
        rw [← HL.out.2.1, methL_at HP.out.1 hlt h1, HX.out.1.2, HX.out.1.1])
       have hLI : InS vS wc (.slice la l.length lc) l := HN.out.fact 4 rfl
       obtain ⟨_, _, hsh, -, sidx, scell⟩ := InS.strs hLI
       injection hsh with hsh1 hsh2 hsh3
       subst hsh1 hsh3
       obtain ⟨-, -, sc⟩ := scell k hlt
       have lcell := sc wc (Below.refl _ _)
       rw [← HX.out.1.1] at lcell
       have lidx := sidx (k : Int) (by omega) (by omega)
       rw [Int.toNat_natCast] at lidx
       have HPV := Lib.hid (show ∀ W0, InS vCl W0 (.slice ha cs.length hc) cs → Below W0.heap.size W0 W → InS vS W0 pv (nth cl.ms q).ps from fun W0 h0 hb0 => by
        obtain ⟨_, _, hsh9, -, -, hc0⟩ := InS.sg (HZA.out W0 h0 hb0)
        injection hsh9 with e1 e2 e3
        subst e1 e3
        obtain ⟨-, u2, ⟨-, -, h3'⟩, hcs'⟩ := hc0 q (by rw [← HFI.out.2.2.1]; exact hql)
        have h9 := (hcs' wc (hb0.trans (HN.out.bel.mono hb0.size))).2.2.1
        rw [p2] at h9
        injection h9 with h9
        rw [← h9] at h3'
        exact h3')
       obtain ⟨sg, hsg⟩ : ∃ sg, sg = nth cl.ms q := ⟨_, rfl⟩
       rw [← hsg] at p0 p1 p3 hs1 hs2 hps t0
       obtain ⟨pa, pn, pc, rfl⟩ : ∃ pa pn pc, pv = .slice pa pn pc := by obtain ⟨a, c, e⟩ := hps.shape; exact ⟨a, _, c, e⟩
       have hbr9 : blk la ≠ br ∧ bc ≠ br ∧ blk za ≠ br := ⟨by have := HL.out.2.2.1 (by omega); omega, by have h1 := HFI.out.2.2.2; have h2 := HP.out.2; omega, by have h1 := HX.out.2.2.2.2.1 q hql; have h2 := HL.out.2.2.2; omega⟩
       have hNB : wc.heap[br]? = some (.cells #[.string ⟨#[]⟩, .bool false, .slice none 0 0, .string ⟨#[]⟩] 115) := HN.out.fact 5 rfl
       have HS := Lib.hid (And.intro (And.intro hs1 (And.intro hs2 hps)) (And.intro hsg (And.intro hNB hbr9)))
       clear sidx scell sc hLI e hs1 hs2 hps hsg hNB hbr9
       have hED := HN.out.drew.bel
       have hHB : wc.drew.heap[br]? = some (.cells #[.string ⟨#[]⟩, .bool false, .slice none 0 0, .string ⟨#[]⟩] 115) := HS.out.2.2.1
       have HDD := Lib.hid (And.intro hED hHB)
       clear hED hHB
       have HSS := Lib.hid (show wc.drew.cell? ⟨blk la, ofs la + k, none⟩ = some (.string x) ∧ wc.drew.cell? ⟨bc, 3, none⟩ = some (.slice za zn zc) ∧ wc.drew.cell? ⟨blk za, ofs za + q * 4, none⟩ = some (.string sg.n) ∧ wc.drew.cell? ⟨blk za, ofs za + q * 4 + 1, none⟩ = some (.bool sg.st) ∧ wc.drew.cell? ⟨blk za, ofs za + q * 4 + 2, none⟩ = some (.slice pa pn pc) ∧ wc.drew.cell? ⟨blk za, ofs za + q * 4 + 3, none⟩ = some (.string sg.r) from ⟨lcell, e0, p0, p1, p2, p3⟩)
       go_wp2_with fail
       clear lcell e0 p0 p1 p2 p3
       refine wp_region_mix [0, 1, 2, 3, 4, 5, 6, 7, 8] [9, 10, 11] (fun w' => w'.cell? ⟨blk la, ofs la + k, none⟩ = some (.string x) ∧ w'.cell? ⟨bc, 3, none⟩ = some (.slice za zn zc) ∧ w'.cell? ⟨blk za, ofs za + q * 4, none⟩ = some (.string sg.n) ∧ w'.cell? ⟨blk za, ofs za + q * 4 + 1, none⟩ = some (.bool sg.st) ∧ w'.cell? ⟨blk za, ofs za + q * 4 + 2, none⟩ = some (.slice pa pn pc) ∧ w'.cell? ⟨blk za, ofs za + q * 4 + 3, none⟩ = some (.string sg.r)) (by kernel_rfl) (by kernel_rfl) (by kernel_rfl) HSS.out ?_
       repeat (
        refine wpHeads_cons (v := ?_) rfl (Or.inl ⟨by rfl, ?_⟩) ?_
        rotate_left
        ·(intro W hW; obtain ⟨x1, x2, x3, x4, x5, x6⟩ := hW; (try go_simp); try with_reducible rfl)
        simp only [Act.put, List.setIfInBounds_toArray, List.getElem_toArray, List.getElem_cons_zero, List.getElem_cons_succ, List.set_cons_succ, List.set_cons_zero])
       refine wpHeads_nil ?_
       generalize wc.drew = V at *
       have hNB := HDD.out.2
       obtain ⟨⟨z0, z1, z2, z3, zf⟩, hC, hG⟩ := store4 (y0 := .string sg.n) (y1 := .bool sg.st) (y2 := .slice pa pn pc) (y3 := .string sg.r) hNB
       have f0 := zf 0
       have f1 := zf 1
       have f2 := zf 2
       have f3 := zf 3
       have hS2 := And.intro (hG.cell HSS.out.1 (fun e => HS.out.2.2.2.1 (Option.some.inj e))) (And.intro (hG.cell HSS.out.2.1 (fun e => HS.out.2.2.2.2.1 (Option.some.inj e))) (And.intro (hG.cell HSS.out.2.2.1 (fun e => HS.out.2.2.2.2.2 (Option.some.inj e))) (And.intro (hG.cell HSS.out.2.2.2.1 (fun e => HS.out.2.2.2.2.2 (Option.some.inj e))) (And.intro (hG.cell HSS.out.2.2.2.2.1 (fun e => HS.out.2.2.2.2.2 (Option.some.inj e))) (hG.cell HSS.out.2.2.2.2.2 (fun e => HS.out.2.2.2.2.2 (Option.some.inj e)))))))
       have hb4 : Below W.heap.size W _ := HDD.out.1.grown hG HDD.out.1.size (fun q e => by injection e with e; have := HL.out.2.2.2; omega)
       have H4 := Lib.hid (And.intro hS2 (And.intro hb4 hG))
       clear hS2 hb4 hG hC hNB zf
       refine wpTails_cons rfl ?_
       go_wp2_with fail
       refine tail_mk HSS.out ?_
       refine wpTails_cons rfl ?_
       go_wp2_with fail
       refine tail_mk H4.out.1 ?_
       refine wpTails_one rfl ?_
       go_wp2_with fail
       refine thenQ_mk ?_
       go_wp2_with fail
       (try simp only [Exit.inBlock, Exit.then])
       refine bodyPost_ret (v := .tuple #[.string x, sgV sg (.slice pa pn pc), .bool true]) (by rw [results_mid rfl]; go_simp; try rfl) rfl ?_
       exact ⟨x, sg, _, true, rfl, HS.out.1.2.2.below H4.out.2.1, fun W0 h0 hb0 => by rw [HS.out.2.1]; exact HPV.out W0 h0 hb0, by rw [HR.out, HS.out.2.1]; rfl, HS.out.1.1, HS.out.1.2.1, H4.out.2.1⟩
      ·have t0 := tl_ne e
       have hh2 : Hid (∀ j, j < q + 1 → (nth cl.ms j).n ≠ m) := Lib.hid fun j hj => by
        by_cases e2 : j = q
        ·rw [e2]; exact e
        ·exact hh.out j (by omega)
       clear e
       go_wp2_with fail
       go_round
       case rel => exact ⟨q + 1, by omega, by go_num, hh2⟩
       case measure => simp [intOf]; omega
     ·obtain rfl : q = zn := by omega
      have HP2 := Lib.hid (show ∀ j, j < k + 1 → fdM (clOf cs (nth l j)).ms m = none from fun j hj => by
       by_cases e2 : j = k
       ·rw [e2, ← HX.out.1.1, ← HX.out.1.2]
        exact fdM_out fun i hi => hh.out i (by rw [HFI.out.2.2.1]; exact hi)
       ·exact HP.out.1 j (by omega))
      have hbw : br < wc.heap.size := by
       have hNB : wc.heap[br]? = some (.cells #[.string ⟨#[]⟩, .bool false, .slice none 0 0, .string ⟨#[]⟩] 115) := HN.out.fact 5 rfl
       exact (Array.getElem?_eq_some_iff.1 hNB).1
      have HBW := Lib.hid hbw
      clear hql hq hbw
      go_wp2_with fail
      go_roundw
      case rel => exact ⟨k + 1, by omega, by go_num, HP2.out, HN.out.sub (by simp), HBW.out⟩
      case measure => simp [intOf]; omega
  ·obtain rfl : k = l.length := by omega
   have HR := Lib.hid (show methP cs c m = none by
    unfold methP
    rw [← HL.out.2.1]
    exact methL_out HP.out.1)
   have hNB : wr.heap[br]? = some (.cells #[.string ⟨#[]⟩, .bool false, .slice none 0 0, .string ⟨#[]⟩] 115) := HE.out.fact 2 rfl
   obtain ⟨⟨z0, z1, z2, z3, zf⟩, hC, hG⟩ := store4 (y0 := .string ⟨#[]⟩) (y1 := .bool false) (y2 := .slice none 0 0) (y3 := .string ⟨#[]⟩) hNB
   have f0 := zf 0
   have f1 := zf 1
   have f2 := zf 2
   have f3 := zf 3
   have HG := Lib.hid (And.intro hG HL.out.2.2.2)
   clear hlt hk hNB hC hG zf
   go_wp2_with fail
   (try simp only [Exit.inBlock, Exit.then])
   refine bodyPost_ret (v := .tuple #[.string ⟨#[]⟩, .agg #[.string ⟨#[]⟩, .bool false, .slice none 0 0, .string ⟨#[]⟩], .bool false]) (by rw [results_mid rfl]; go_simp; try rfl) rfl ?_
   exact ⟨_, sg0, _, false, rfl, InS.nil _ _, fun _ _ _ => InS.nil _ _, HR.out, by unfold maxLen; decide, by unfold maxLen; decide, HE.out.bel.grown HG.out.1 HE.out.bel.size (fun q e => by injection e with e; have := HG.out.2; omega)⟩
end Go.Proofs.YtnklnklkblgnfaaGreatDoor
end
