/- Texts of the claim, merged. -/
import Derived.WalkKit
import Derived.Lib.Hide
import Derived.WalkSpells
import Derived.Deep.QuietTactic
import Derived.BigQuiet
import Derived.WalkLawsBesides
import Derived.ChangeKeysEq
import Derived.StillTailTactics
import Derived.Test.YtgblfjccccdidaaGreatRows
import Derived.Laws.CopyOwn
import Derived.Deep.AppendLies
import Derived.Deep.RegionHeld3
import Derived.StillTail
import Derived.OrdersHeld
import Derived.Maps.OwnSet
import Derived.DeepKeys4
import Derived.OneCell
section
namespace Go.Dfl
open Go.RowKit
def nth {α : Type} [Inhabited α] (l : List α) (i : Nat) : α:=l.getD i default
def blk : Option Addr→Nat | some a => a.block | none => 0
def ofs : Option Addr→Nat | some a => a.off | none => 0
theorem ret_int {k : IntKind} {a b : Int} (h : a = b) : Ending.returned (.int k a) = .returned (.int k b):=by rw [h]
theorem ret_bool {a b : Bool} (h : a = b) : Ending.returned (.bool a) = .returned (.bool b):=by rw [h]
def mn (x y : Int) : Int:=if y < x then y else x
def mx (x y : Int) : Int:=if x < y then y else x
theorem run_mn (P : Program) (w : World) (ts : Array TypeId) (t : TypeId) (k k' : IntKind) (x y : Int) : (Builtin.min_ ts t #[.int k x,.int k' y]).run P w = .ok (.int k (mn x y)) w:=by
 rw [run_min_int2]; rfl
theorem run_mx (P : Program) (w : World) (ts : Array TypeId) (t : TypeId) (k k' : IntKind) (x y : Int) : (Builtin.max_ ts t #[.int k x,.int k' y]).run P w = .ok (.int k (mx x y)) w:=by
 rw [run_max_int2]; rfl
theorem mn_le (x y : Int) : mn x y ≤ x∧mn x y ≤ y∧(mn x y = x ∨ mn x y = y):=by unfold mn; split <;> omega
theorem mx_ge (x y : Int) : x ≤ mx x y∧y ≤ mx x y∧(mx x y = x ∨ mx x y = y):=by unfold mx; split <;> omega
def Qt (w w' : World) : Prop:=∃ n,w' = w.drewN n
theorem Qt.refl (w : World) : Qt w w:=⟨0,rfl⟩
theorem Qt.drewN (w : World) (n : Nat) : Qt w (w.drewN n):=⟨n,rfl⟩
theorem Qt.drew (w : World) : Qt w w.drew:=⟨1,rfl⟩
theorem Qt.trans {a b c : World} (h : Qt a b) (k : Qt b c) : Qt a c:=by
 obtain ⟨n,rfl⟩:=h; obtain ⟨m,rfl⟩:=k; exact ⟨n + m,by simp⟩
theorem Qt.below {w w' : World} (h : Qt w w') (B : Nat) : Below B w w':=by
 obtain ⟨n,rfl⟩:=h; exact below_drewN (Below.refl _ _) n
theorem Qt.quiet {P : Program} {f : FuncId} {args : Array Value} {w : World} {n : Nat} {v : Value}
  (h : Calls P f args (w.drewN n) fun e w' => e = .returned v∧Qt (w.drewN n) w') : Calls P f args (w.drewN n) fun e w'' => e = .returned v∧∃ m,w'' = w.drewN m :=
 Calls.quiet_of h
theorem Qt.quiet2 {P : Program} {f : FuncId} {args : Array Value} {w : World} {a n : Nat} {v : Value}
  (h : Calls P f args (w.drewN (a + n)) fun e w' => e = .returned v∧Qt (w.drewN (a + n)) w') : Calls P f args (w.drewN (a + n)) fun e w'' => e = .returned v∧∃ m,w'' = w.drewN (a + m) :=
 h.mono fun _ _ ⟨he,m,hm⟩ => ⟨he,n + m,by rw [hm,World.drewN_drewN,Nat.add_assoc]⟩
theorem grownBy_drew {w w' : World} {row : Option Nat} (h : w.grownBy w' row) : w.grownBy w'.drew row:=⟨h.os,h.tape,h.output,h.size,h.block⟩
theorem grownBy_drewN {w w' : World} {row : Option Nat} (h : w.grownBy w' row) (n : Nat) : w.grownBy (w'.drewN n) row:=⟨h.os,h.tape,h.output,h.size,h.block⟩
theorem grownBy_trans {a b c : World} {row : Option Nat} (h : a.grownBy b row) (k : b.grownBy c row) : a.grownBy c row :=
 ⟨k.os.trans h.os,k.tape.trans h.tape,k.output.trans h.output,Nat.le_trans h.size k.size,fun i hi hr => (k.block i (Nat.lt_of_lt_of_le hi h.size) hr).trans (h.block i hi hr)⟩
structure Wd (Cls : World→Prop) where
 val : World
 ok : Cls val
theorem wp_region_class {P : Program} {id : Nat} {Q : Exit→Act→World→Prop} {a : Act} {w : World} {l : List Oper} (Cls : World→Prop) (hm : P.follows .mixedOrders = true) (hB : Region.lexB .any l.toArray = true) (hC : Cls w.drew)
  (h : wpQuiet P l.toArray (fun W' => ∃ q : Wd Cls,W' = q.val) (fun a' => ∀ W',(∃ q : Wd Cls,W' = q.val)→Q .normal a' W') l a) : (Code.region id l.toArray true).wp P Q a w :=
 wp_region_quiet (C:=fun W' => ∃ q : Wd Cls,W' = q.val) hm hB ⟨⟨_,hC⟩,rfl⟩ (by simpa using h)
theorem class_of {P : Program} {f : FuncId} {args : Array Value} {W : World} {v : Value} {Cls : World→Prop}
  (h : Calls P f args W fun e w' => e = .returned v∧Cls w') : Calls P f args W fun e w'' => e = .returned v∧∃ q : Wd Cls,w'' = q.val :=
 h.mono fun _ _ ⟨he,hc⟩ => ⟨he,⟨_,hc⟩,rfl⟩
theorem wp_region_tail {P : Program} {id : Nat} {Q : Exit→Act→World→Prop} {a : Act} {w : World} {l : List Oper} (n : Nat) (hm : P.follows .mixedOrders = true) (hB : Region.lexTailB .any l.toArray n = true)
  (h : ∀ w2,w2 = w.drew→wpStill P l.toArray w2 (fun a' => wpList P l.toArray Q (l.drop n) a' w2) (l.take n) a) : (Code.region id l.toArray true).wp P Q a w :=
 wp_region_still_tail n hm hB (h _ rfl)
theorem heap_alloc_new (w : World) (o : Obj) : (w.alloc o).heap[w.heap.size]? = some o:=by
 show (w.heap.push o)[w.heap.size]? = _
 simp
def Sliced (w : World) (v : Value) (n s : Nat) (c : Nat→Nat→Value) : Prop :=
 ∃ a cap,v = .slice a n cap∧n ≤ cap∧cap ≤ maxLen∧∀ i,i < n→a = some ⟨blk a,ofs a,none⟩∧blk a < w.heap.size∧∀ j,j < s→w.cell? ⟨blk a,ofs a + i * s + j,none⟩ = some (c i j)
theorem Sliced.below {w w' : World} {v : Value} {n s : Nat} {c : Nat→Nat→Value} (h : Sliced w v n s c) (hb : Below w.heap.size w w') : Sliced w' v n s c:=by
 obtain ⟨a,cap,rfl,h1,h2,h3⟩:=h
 refine ⟨a,cap,rfl,h1,h2,fun i hi => ?_⟩
 obtain ⟨g1,g2,g3⟩:=h3 i hi
 exact ⟨g1,Nat.lt_of_lt_of_le g2 hb.size,fun j hj => by rw [hb.cell (p:=⟨blk a,ofs a + i * s + j,none⟩) g2]; exact g3 j hj⟩
structure SliceOf (P : Program) (t e : TypeId) (z : Value) (size bytes : Nat) : Prop where
 und : P.underlying t = some (.slice e)
 info : ∃ i,P.info? e = some i∧i.zero = some z∧i.size = size∧i.bytes = bytes
theorem run_indexAt_opt {P : Program} {t e : TypeId} {z : Value} {s by8 : Nat} (ht : SliceOf P t e z s by8)
  (a : Option Addr) (n cap : Nat) (k : IntKind) (x : Int) (h0 : 0 ≤ x) (h1 : x < n) (ha : a = some ⟨blk a,ofs a,none⟩) (W : World) :
  (Instr.indexAt t (.slice a n cap) (.int k x)).run P W = .ok (.pointer (some ⟨blk a,ofs a + x.toNat * s,none⟩)) W:=by
 obtain ⟨i,hi,_,hs,_⟩:=ht.info
 have he : P.elem t = e:=by simp [Program.elem,ht.und]
 have hc : P.cellsOf e = s:=by simp [Program.cellsOf,hi,hs]
 rw [ha,run_indexAt_slice _ _ _ _ _ _ _ (by rw [he]; exact ht.und),if_pos ⟨h0,h1⟩,he,run_sizeOf _ hi,hc]
 simp [Addr.add]
 split
 ·rename_i h; simp [h,blk,ofs]
 ·simp [blk,ofs]
theorem Sliced.out1 {w : World} {v : Value} {n : Nat} {c : Nat→Nat→Value} (h : Sliced w v n 1 c) {P : Program} {t e : TypeId} {z : Value} {by8 : Nat} (ht : SliceOf P t e z 1 by8) :
  ∃ a cap,v = .slice a n cap∧n ≤ 9223372036854775807 ∧
   (∀ (k : IntKind) (x : Int),0 ≤ x→x < n→∀ W,(Instr.indexAt t (.slice a n cap) (.int k x)).run P W = .ok (.pointer (some ⟨blk a,ofs a + x.toNat,none⟩)) W) ∧
   (∀ j,j < n→w.cell? ⟨blk a,ofs a + j,none⟩ = some (c j 0))∧(∀ j,j < n→blk a < w.heap.size):=by
 obtain ⟨a,cap,rfl,h1,h2,h3⟩:=h
 refine ⟨a,cap,rfl,by unfold maxLen at h2; omega, ?_, ?_,fun j hj => (h3 j hj).2.1⟩
 ·intro k x h0 hl W
  have:=run_indexAt_opt ht a n cap k x h0 hl (h3 x.toNat (by omega)).1 W
  simpa using this
 ·intro j hj
  simpa using (h3 j hj).2.2 0 (by omega)
theorem Sliced.out2 {w : World} {v : Value} {n : Nat} {c : Nat→Nat→Value} (h : Sliced w v n 2 c) {P : Program} {t e : TypeId} {z : Value} {by8 : Nat} (ht : SliceOf P t e z 2 by8) :
  ∃ a cap,v = .slice a n cap∧n ≤ 9223372036854775807 ∧
   (∀ (k : IntKind) (x : Int),0 ≤ x→x < n→∀ W,(Instr.indexAt t (.slice a n cap) (.int k x)).run P W = .ok (.pointer (some ⟨blk a,ofs a + x.toNat * 2,none⟩)) W) ∧
   (∀ j,j < n→w.cell? ⟨blk a,ofs a + j * 2,none⟩ = some (c j 0)∧w.cell? ⟨blk a,ofs a + j * 2 + 1,none⟩ = some (c j 1))∧(∀ j,j < n→blk a < w.heap.size):=by
 obtain ⟨a,cap,rfl,h1,h2,h3⟩:=h
 refine ⟨a,cap,rfl,by unfold maxLen at h2; omega, ?_, ?_,fun j hj => (h3 j hj).2.1⟩
 ·intro k x h0 hl W
  exact run_indexAt_opt ht a n cap k x h0 hl (h3 x.toNat (by omega)).1 W
 ·intro j hj
  exact ⟨by simpa using (h3 j hj).2.2 0 (by omega),by simpa using (h3 j hj).2.2 1 (by omega)⟩
section lists
variable {α : Type} [Inhabited α]
theorem nth_eq (l : List α) (i : Nat) (h : i < l.length) : nth l i = l[i]:=by simp [nth,h]
theorem nth_map (f : α→Value) (l : List α) (i : Nat) (h : i < l.length) : (l.map f)[i]? = some (f (nth l i)):=by simp [nth,h]
theorem nth_set (l : List α) (i j : Nat) (x : α) : nth (l.set i x) j = if i = j∧i < l.length then x else nth l j:=by
 unfold nth
 simp only [List.getD_eq_getElem?_getD,List.getElem?_set]
 by_cases h : i = j
 ·subst h
  by_cases h2 : i < l.length
  ·simp [h2]
  ·simp [h2]
 ·simp [h]
theorem nth_append (l m : List α) (i : Nat) : nth (l ++ m) i = if i < l.length then nth l i else nth m (i - l.length):=by
 unfold nth
 simp only [List.getD_eq_getElem?_getD,List.getElem?_append]
 split <;> rfl
theorem nth_ext {l m : List α} (h : l.length = m.length) (h2 : ∀ i,i < l.length→nth l i = nth m i) : l = m:=by
 apply List.ext_getElem h
 intro i hi hj
 have:=h2 i hi
 rwa [nth_eq _ _ hi,nth_eq _ _ hj] at this
theorem nth_out (l : List α) (i : Nat) (h : l.length ≤ i) : nth l i = default:=by
 simp [nth,h]
theorem nth_mem (l : List α) (i : Nat) (h : i < l.length) : nth l i ∈ l:=by
 rw [nth_eq _ _ h]; exact List.getElem_mem h
theorem mem_nth {l : List α} {x : α} (h : x ∈ l) : ∃ i,i < l.length∧nth l i = x:=by
 obtain ⟨i,hi,rfl⟩:=List.getElem_of_mem h
 exact ⟨i,hi,nth_eq _ _ hi⟩
theorem take_snoc (l : List α) (k : Nat) (h : k < l.length) : l.take (k + 1) = l.take k ++ [nth l k]:=by
 rw [nth_eq _ _ h]; exact List.take_succ_eq_append_getElem h
end lists
section rows
variable {α : Type}
def Lst [Inhabited α] (f : α→Value) (w : World) (v : Value) (l : List α) : Prop:=Sliced w v l.length 1 fun i _ => f (nth l i)
def Own (f : α→Value) (w : World) (base : Nat) (e : TypeId) (v : Value) (l : List α) : Prop:=w.ownsRow base e 1 v l.length (l.map f)
variable {f : α→Value} {w w' : World} {base : Nat} {e : TypeId} {v : Value} {l : List α} {a : Option Addr} {n cap : Nat}
theorem Lst.below [Inhabited α] (h : Lst f w v l) (hb : Below w.heap.size w w') : Lst f w' v l:=Sliced.below h hb
theorem Lst.qt [Inhabited α] (h : Lst f w v l) (hb : Qt w w') : Lst f w' v l:=Sliced.below h (hb.below _)
theorem Lst.nil [Inhabited α] (f : α→Value) (w : World) : Lst f w (.slice none 0 0) []:=⟨none,0,rfl,by simp,by unfold maxLen; omega,fun i hi => by simp at hi⟩
theorem Own.lst [Inhabited α] (h : Own f w base e v l) : Lst f w v l:=by
 obtain ⟨h1,⟨rfl,h2⟩ | ⟨g,cap,cur,rfl,hg,hh,hc,hm,hs,ht⟩⟩:=h
 ·exact ⟨none,0,by rw [h2],by omega,by unfold maxLen; omega,fun i hi => by omega⟩
 ·refine ⟨some ⟨g,0,none⟩,cap,rfl,hc,hm,fun i hi => ⟨rfl, ?_,fun j hj => ?_⟩⟩
  ·exact (Array.getElem?_eq_some_iff.1 hh).1
  ·have hj0 : j = 0:=by omega
   subst hj0
   have hx : cur.toList[i]? = some (f (nth l i)):=by
    rw [← nth_map f l i hi, ← ht,List.getElem?_take,if_pos (by omega)]
   simp [World.cell?,blk,ofs,hh]
   simpa using hx
theorem Own.frozen (h : Own f w base e (.slice a n cap) l) (h0 : 0 < l.length) (i : Nat) : w.frozen? ⟨blk a,i,none⟩ = false:=by
 obtain ⟨h1,⟨h2,h3⟩ | ⟨g,cap,cur,hv,hg,hh,hc,hm,hs,ht⟩⟩:=h
 ·omega
 ·simp at hv
  obtain ⟨rfl,rfl,rfl⟩:=hv
  simp [World.frozen?,blk,hh]
theorem Own.set (h : Own f w base e (.slice a n cap) l) (i : Nat) (x : α) :
  Own f (w.setCell ⟨blk a,ofs a + i,none⟩ (f x)) base e (.slice a n cap) (l.set i x):=by
 obtain ⟨h1,⟨h2,h3⟩ | ⟨g,cap,cur,hv,hg,hh,hc,hm,hs,ht⟩⟩:=h
 ·simp at h2
  obtain ⟨rfl,rfl,rfl⟩:=h2
  exact ⟨by simp,.inl ⟨rfl,by simpa using h3⟩⟩
 ·simp at hv
  obtain ⟨rfl,rfl,rfl⟩:=hv
  refine ⟨by simp,.inr ⟨g,_,cur.setIfInBounds i (f x),by simp,hg, ?_,by simpa using hc,hm,by simpa using hs, ?_⟩⟩
  ·simp [World.setCell,blk,ofs,Array.getElem?_modify,hh]
  ·simp only [Array.toList_setIfInBounds,List.map_set,List.length_set, ← ht,List.take_set]
theorem Own.below (h : Own f w base e v l) (hb : Below w.heap.size w w') : Own f w' base e v l :=
 World.ownsRow.kept h (row:=none) ⟨hb.os,hb.tape,hb.output,hb.size,fun k hk _ => hb.block k hk⟩ (by cases v.ownBlock <;> simp)
theorem Own.setOther (h : Own f w base e v l) {p : Addr} (hp : v.ownBlock ≠ some p.block) (u : Value) : Own f (w.setCell p u) base e v l :=
 ownsRow_setCell_other h hp u
theorem Own.grown {row : Option Nat} (h : Own f w base e v l) (hg : w.grownBy w' row) (hne : v.ownBlock = none ∨ v.ownBlock ≠ row) : Own f w' base e v l :=
 World.ownsRow.kept h hg hne
theorem Own.alloc (h : Own f w base e v l) (o : Obj) : Own f (w.alloc o) base e v l:=World.ownsRow.alloc h o
theorem Own.qt (h : Own f w base e v l) (hb : Qt w w') : Own f w' base e v l:=h.below (hb.below _)
theorem Own.nil (f : α→Value) (w : World) (base : Nat) (e : TypeId) : Own f w base e (.slice none 0 0) []:=⟨by simp,.inl ⟨rfl,rfl⟩⟩
theorem Own.mono (h : Own f w base e v l) {base' : Nat} (hb : base' ≤ base) : Own f w base' e v l:=by
 obtain ⟨h1,h2 | ⟨g,cap,cur,hv,hg,r⟩⟩:=h
 ·exact ⟨h1,.inl h2⟩
 ·exact ⟨h1,.inr ⟨g,cap,cur,hv,Nat.le_trans hb hg,r⟩⟩
theorem Own.blkge (h : Own f w base e (.slice a n cap) l) (h0 : 0 < l.length) : base ≤ blk a∧blk a < w.heap.size:=by
 obtain ⟨h1,⟨h2,h3⟩ | ⟨g,cap,cur,hv,hg,hh,hc,hm,hs,ht⟩⟩:=h
 ·omega
 ·simp at hv
  obtain ⟨rfl,rfl,rfl⟩:=hv
  exact ⟨hg,(Array.getElem?_eq_some_iff.1 hh).1⟩
theorem Own.shape (h : Own f w base e v l) (hn : l.length = n) : ∃ s cap,v = .slice s n cap:=by
 subst hn
 obtain ⟨h1,⟨h2,h3⟩ | ⟨g,cap,cur,hv,r⟩⟩:=h
 ·exact ⟨none,0,by rw [h2,h3]⟩
 ·exact ⟨_,cap,hv⟩
theorem Own.lt (h : Own f w base e v l) : ∀ k,v.ownBlock = some k→base ≤ k∧k < w.heap.size:=World.ownsRow.lt h
theorem made_cells (z : Value) (n : Nat) (h : z.cells = #[z]) : (madeCells z.cells (n * 1)).toList = List.replicate n z:=by
 apply List.ext_getElem
 ·simp [madeCells]
 ·intro i h1 h2
  simp [madeCells,h,Nat.mod_one]
theorem wp_make {P : Program} {t e : TypeId} {by8 : Nat} (x0 : α) (ht : SliceOf P t e (f x0) 1 by8) (hz : (f x0).cells = #[f x0]) (w : World) {ops : Array Oper} {rest : List Oper} {o : Oper} {a : Act} {Q : Exit→Act→World→Prop}
  (hg : o.guard = none) (l c : Operand) (hop : o.op = Op.makeSlice t l c) (kl kc : IntKind) (L C : Int) (n : Nat) (hl : a.eval l = .int kl L) (hc : a.eval c = .int kc C) (hL : L = (n : Int)) (hC : C = (n : Int))
  (hb : by8 * n ≤ 281474976710656) (hm : n ≤ maxLen)
  (hK : ∀ s cap w',Own f w' w.heap.size e (.slice s n cap) (List.replicate n x0)→Below w.heap.size w w'→wpList P ops Q rest (a.put o.dst (.slice s n cap)) w') :
  wpList P ops Q (o :: rest) a w:=by
 obtain ⟨i,hi,hz0,hz1,hz2⟩:=ht.info
 refine wpList_make_full w hg l c t hop w.heap.size e i (f x0) 1 ht.und hi hz0 hz1 kl kc L C n hl hc hL hC (by rw [hz2]; exact hb) hm (Nat.le_refl _) ?_
 intro w' h1 h2
 refine hK _ _ w' ?_ ((Below.refl _ _).grown h2 (Nat.le_refl _) (by simp))
 rw [made_cells _ _ hz] at h1
 unfold Own
 simpa using h1
theorem wp_append1 {P : Program} {t e : TypeId} {z : Value} {by8 : Nat} (ht : SliceOf P t e z 1 by8) (hz : z.cells.size = 1) (w : World) {ops : Array Oper} {rest : List Oper} {o : Oper} {a : Act} {Q : Exit→Act→World→Prop}
  (hg : o.guard = none) (s x : Operand) (hop : o.op = .call { callee:=.builtin .append,args:=#[s,x],argTypes:=#[t,t] })
  (base : Nat) (v : Value) (l : List α) (hs : a.eval s = v) (hown : Own f w base e v l) (y : α) (ad : Addr) (hx : a.eval x = .slice (some ad) 1 1) (hy : w.cell? ad = some (f y)) (h1 : (f y).oneCell' = true)
  (hlen : l.length < 17592186044416) (h8 : by8 ≤ 8) (hbase : base ≤ w.heap.size)
  (hK : ∀ v' w',Own f w' base e v' (l ++ [y])→w.grownBy w' v.ownBlock→Below base w w'→wpList P ops Q rest (a.put o.dst v') w') : wpList P ops Q (o :: rest) a w:=by
 obtain ⟨i,hi,hz0,hz1,hz2⟩:=ht.info
 refine wpList_append_own w hg s x t hop base e i z 1 by8 ht.und hi hz0 hz1 hz2 hz (by omega) v l.length (l.map f) hs hown ad 1 1 [f y] hx rfl ?_ (by simpa using h1) (by unfold maxLen; omega) ?_ hbase ?_
 ·intro j u hj
  cases j with
  | zero => simp at hj; subst hj; simpa [Addr.add] using hy
  | succ j => simp at hj
 ·exact Nat.le_trans (Nat.mul_le_mul (by omega : l.length + 1 ≤ 17592186044416) h8) (by omega)
 ·intro v' w' h2 h3 _
  exact hK v' w' (by unfold Own; simpa using h2) h3 ((Below.refl _ _).grown h3 hbase fun k hk => (World.ownsRow.lt hown k hk).1)
end rows
def Pairs (w : World) (v : Value) (l : List (Int × Int)) : Prop:=Sliced w v l.length 2 fun i j => .int .i64 (if j = 0 then (nth l i).1 else (nth l i).2)
theorem Pairs.below {w w' : World} {v : Value} {l : List (Int × Int)} (h : Pairs w v l) (hb : Below w.heap.size w w') : Pairs w' v l:=Sliced.below h hb
abbrev Ints:=Lst (Value.int .i64)
abbrev OwnI:=Own (Value.int .i64)
end Go.Dfl
end
section
namespace Go.Dfl
open Go.RowKit
def W64 (n : Nat) : Prop:=n < 18446744073709551616
theorem W64.lt {n : Nat} (h : W64 n) : n < 2 ^ 64:=by unfold W64 at h; omega
theorem W64.of {n : Nat} (h : n < 2 ^ 64) : W64 n:=by unfold W64; omega
theorem W64.zero : W64 0:=by unfold W64; omega
def Wds (b : List Nat) : Prop:=∀ i,W64 (nth b i)
theorem W64.bit {n : Nat} (h : W64 n) (k : Nat) (hk : 64 ≤ k) : n.testBit k = false :=
 Nat.testBit_lt_two_pow (Nat.lt_of_lt_of_le h.lt (Nat.pow_le_pow_right (by omega) hk))
theorem div_nat (n k : Nat) : (n : Int) / 2 ^ k = ((n / 2 ^ k : Nat) : Int):=by
 rw [Int.natCast_ediv,Int.natCast_pow]; rfl
theorem bit_eq (n k : Nat) (h : W64 n) : (bits BinOp.and IntKind.u64 ((n : Int) / 2 ^ k) 1 == 1) = n.testBit k:=by
 have h1 : n / 2 ^ k < 18446744073709551616:=Nat.lt_of_le_of_lt (Nat.div_le_self _ _) h
 have:=u64_and_nat (n / 2 ^ k) 1 h1 (by omega)
 rw [div_nat,show (1 : Int) = ((1 : Nat) : Int) from rfl,this,nat_mask1,Nat.testBit_eq_decide_div_mod_eq]
 rw [Bool.eq_iff_iff,beq_iff_eq,decide_eq_true_eq]; omega
def hasN (b : List Nat) (x : Nat) : Bool:=(nth b (x / 64)).testBit (x % 64)
theorem hasN_at (b : List Nat) (i k : Nat) (h : k < 64) : hasN b (i * 64 + k) = (nth b i).testBit k:=by
 unfold hasN
 rw [show (i * 64 + k) / 64 = i by omega,show (i * 64 + k) % 64 = k by omega]
theorem hasN_out (b : List Nat) (x : Nat) (h : 64 * b.length ≤ x) : hasN b x = false:=by
 unfold hasN
 rw [nth_out _ _ (by omega)]; simp
def elsUp (b : List Nat) (n : Nat) : List Int:=((List.range n).filter (hasN b)).map fun x : Nat => (x : Int)
def els (b : List Nat) : List Int:=elsUp b (64 * b.length)
theorem elsUp_succ (b : List Nat) (n : Nat) : elsUp b (n + 1) = elsUp b n ++ if hasN b n = true then [(n : Int)] else []:=by
 unfold elsUp
 rw [List.range_succ,List.filter_append,List.map_append]
 congr 1
 by_cases h : hasN b n = true <;> simp [h]
theorem elsUp_yes (b : List Nat) (n : Nat) (h : hasN b n = true) : elsUp b (n + 1) = elsUp b n ++ [(n : Int)]:=by rw [elsUp_succ,if_pos h]
theorem elsUp_no (b : List Nat) (n : Nat) (h : hasN b n = false) : elsUp b (n + 1) = elsUp b n:=by rw [elsUp_succ,if_neg (by simp [h])]; simp
theorem elsUp_skip (b : List Nat) (i : Nat) (h : nth b i = 0) : ∀ k,k ≤ 64→elsUp b (i * 64 + k) = elsUp b (i * 64)
 | 0,_ => rfl
 | k+1,hk => by
   rw [← Nat.add_assoc,elsUp_no _ _ (by rw [hasN_at _ _ _ (by omega),h]; simp),elsUp_skip b i h k (by omega)]
theorem elsUp_len (b : List Nat) (n : Nat) : (elsUp b n).length ≤ n:=by
 unfold elsUp; rw [List.length_map]; exact Nat.le_trans (List.length_filter_le _ _) (by simp)
theorem mem_elsUp {b : List Nat} {n : Nat} {x : Int} : x ∈ elsUp b n ↔ ∃ m : Nat,x = m∧m < n∧hasN b m = true:=by
 unfold elsUp
 simp only [List.mem_map,List.mem_filter,List.mem_range]
 constructor
 ·rintro ⟨m,⟨h1,h2⟩,rfl⟩; exact ⟨m,rfl,h1,h2⟩
 ·rintro ⟨m,rfl,h1,h2⟩; exact ⟨m,⟨h1,h2⟩,rfl⟩
theorem mem_els {b : List Nat} {x : Int} : x ∈ els b ↔ ∃ m : Nat,x = m∧hasN b m = true:=by
 unfold els
 rw [mem_elsUp]
 constructor
 ·rintro ⟨m,h1,_,h3⟩; exact ⟨m,h1,h3⟩
 ·rintro ⟨m,h1,h3⟩
  refine ⟨m,h1, ?_,h3⟩
  by_cases h : m < 64 * b.length
  ·exact h
  ·rw [hasN_out _ _ (by omega)] at h3; simp at h3
def Norm (b : List Nat) : Prop:=b.length = 0 ∨ nth b (b.length - 1) ≠ 0
theorem take_has {b : List Nat} {m : Nat} (hm : m ≤ b.length) (h0 : ∀ i,m ≤ i→nth b i = 0) : ∀ i,nth (b.take m) i = nth b i:=by
 intro i
 by_cases hi : i < m
 ·simp [nth,hi]
 ·rw [h0 i (by omega),nth_out _ _ (by simp; omega)]; rfl
theorem take_norm {b : List Nat} {m : Nat} (hm : m ≤ b.length) (h0 : ∀ i,m ≤ i→nth b i = 0) (h1 : m = 0 ∨ nth b (m - 1) ≠ 0) : Norm (b.take m):=by
 have hl : (b.take m).length = m:=by simp; omega
 unfold Norm
 rw [hl,take_has hm h0]
 exact h1
theorem or_eq (a b : Nat) (ha : W64 a) (hb : W64 b) : bits BinOp.or IntKind.u64 (a : Int) (b : Int) = ((a ||| b : Nat) : Int):=u64_or_nat a b ha hb
theorem and_eq (a b : Nat) (ha : W64 a) (hb : W64 b) : bits BinOp.and IntKind.u64 (a : Int) (b : Int) = ((a &&& b : Nat) : Int):=u64_and_nat a b ha hb
def anot (a b : Nat) : Nat:=a &&& (18446744073709551615 - b)
theorem anot_eq (a b : Nat) (ha : W64 a) (hb : W64 b) : bits BinOp.andNot IntKind.u64 (a : Int) (b : Int) = ((anot a b : Nat) : Int):=u64_andNot_nat a b ha hb
theorem or_w (a b : Nat) (ha : W64 a) (hb : W64 b) : W64 (a ||| b):=W64.of (Nat.or_lt_two_pow ha.lt hb.lt)
theorem and_w (a b : Nat) (ha : W64 a) : W64 (a &&& b):=W64.of (Nat.lt_of_le_of_lt Nat.and_le_left ha.lt)
theorem anot_w (a b : Nat) (ha : W64 a) : W64 (anot a b):=and_w a _ ha
theorem anot_bit (a b : Nat) (ha : W64 a) (hb : W64 b) (k : Nat) : (anot a b).testBit k = (a.testBit k && !b.testBit k):=by
 unfold anot
 rw [Nat.testBit_and]
 by_cases hk : k < 64
 ·have : 18446744073709551615 - b = 2 ^ 64 - (b + 1):=by unfold W64 at hb; omega
  rw [this,Nat.testBit_two_pow_sub_succ hb.lt]
  simp [hk]
 ·rw [ha.bit k (by omega)]; simp
theorem anot_left (b : Nat) : anot 0 b = 0:=Nat.zero_and _
attribute [irreducible] anot
end Go.Dfl
namespace Go.Proofs.YtgblfjccccdidaaGreat
open Go.RowKit Go.Dfl
theorem sInt : SliceOf Tryz.prog 32 3 (.int .i64 0) 1 8:=⟨Tryz.underlying32,info_parts (P:=Tryz.prog) (e:=3) (by kernel_rfl)⟩
theorem sBits : SliceOf Tryz.prog 66 110 (.int .u64 0) 1 8:=⟨Tryz.underlying66,info_parts (P:=Tryz.prog) (e:=110) (by kernel_rfl)⟩
def wv (n : Nat) : Value:=.int .u64 (n : Int)
abbrev Words:=Lst wv
abbrev OwnW:=Own wv
set_option maxHeartbeats 400000 in
theorem word_still (v : Value) (b : List Nat) (i : Int) (w : World) (h : Words w v b) (hi : 0 ≤ i) :
  Calls Tryz.prog 119 #[v,.int .i64 i] w fun e w' => e = .returned (.int .u64 ((nth b i.toNat : Nat) : Int))∧w' = w:=by
 obtain ⟨a,cap,rfl,hm,hidx,hcell,_⟩:=h.out1 sBits
 clear h
 by_cases hlt : i < b.length
 ·have hc:=hcell i.toNat (by omega)
  unfold wv at hc
  clear hcell
  go_enter Tryz.func119,Tryz.ntmps119
  go_wp2
  go_ret
  exact ⟨rfl,rfl⟩
 ·have h0 : nth b i.toNat = 0:=nth_out _ _ (by omega)
  rw [h0]
  clear hcell hidx h0
  go_enter Tryz.func119,Tryz.ntmps119
  go_wp2
  go_ret
  exact ⟨rfl,rfl⟩
theorem word_any (v : Value) (b : List Nat) (i : Int) (w : World) (h : Words w v b) (hi : 0 ≤ i) :
  Calls Tryz.prog 119 #[v,.int .i64 i] w fun e w' => e = .returned (.int .u64 ((nth b i.toNat : Nat) : Int))∧Qt w w' :=
 (word_still v b i w h hi).mono fun _ _ ⟨a,b⟩ => ⟨a,b ▸ Qt.refl _⟩
def valB (x : Int) : Bool:=decide (0 ≤ x∧x < 65536)
set_option maxHeartbeats 400000 in
theorem valid_any (x : Int) (w : World) :
  Calls Tryz.prog 95 #[.int .i64 x] w fun e w' => e = .returned (.bool (valB x))∧Qt w w':=by
 by_cases h1 : 0 ≤ x
 ·go_enter Tryz.func95,Tryz.ntmps95
  go_wp2
  go_ret
  exact ⟨ret_bool (by simp [valB,h1]),Qt.refl _⟩
 ·have h1' : decide (0 ≤ x) = false:=by simpa using h1
  go_enter Tryz.func95,Tryz.ntmps95
  go_wp2
  go_ret
  exact ⟨ret_bool (by simp [valB]; omega),Qt.refl _⟩
def low (n : Nat) : Nat:=((List.range 64).find? n.testBit).getD 0
def ListPost (L : List Int) (w : World) (e : Ending) (w' : World) : Prop:=∃ v,e = .returned v∧OwnI w' w.heap.size 3 v L∧Below w.heap.size w w'
set_option maxHeartbeats 1600000 in
theorem List_any (v : Value) (b : List Nat) (w : World) (h : Words w v b) (hb : Wds b) (hlen : b.length ≤ 65536) :
  Calls Tryz.prog 42 #[v] w (ListPost (els b) w):=by
 obtain ⟨a,cap,rfl,hm,hidx,hcell,hblk⟩:=h.out1 sBits
 have HB:=Lib.hid hb
 clear h hb
 go_enter Tryz.func42,Tryz.ntmps42
 go_wp2
 go_loopw [3,4,9] (fun l _ i wr => ∃ k : Nat,k ≤ b.length∧i = .int .i64 k∧Hid (Below w.heap.size w wr∧OwnI wr w.heap.size 3 l (elsUp b (k * 64)))) (fun _ _ i _ => b.length - (intOf i).toNat)
 case atStart => exact ⟨0,by omega,rfl,Below.refl _ _,Own.nil _ _ _ _⟩
 case round =>
  obtain ⟨k,hk,rfl,hh⟩:=hrel
  by_cases hlt : k < b.length
  ·have hc : wr.cell? ⟨blk a,ofs a + k,none⟩ = some (.int .u64 ((nth b k : Nat) : Int)):=by
    rw [hh.out.1.cell (p:=⟨blk a,ofs a + k,none⟩) (hblk k hlt)]; exact hcell k hlt
   by_cases h0 : nth b k = 0
   ·have h0' : (((nth b k : Nat) : Int) == 0) = true:=by simp [h0]
    have H0:=Lib.hid h0
    clear h0 hcell
    go_wp2
    go_roundw
    case rel => exact ⟨k + 1,by omega,by go_num,hh.out.1,by
     rw [show (k + 1) * 64 = k * 64 + 64 by omega,elsUp_skip b k H0.out 64 (by omega)]; exact hh.out.2⟩
    case measure => simp [intOf]; omega
   ·have h0' : (((nth b k : Nat) : Int) == 0) = false:=by simp; omega
    have hW:=Lib.hid (HB.out k)
    clear h0 hcell
    generalize hn : nth b k = n at *
    have HN:=Lib.hid hn
    clear hn
    go_wp2
    go_loopw [3,6,18] (fun l _ i wr => ∃ j : Nat,j ≤ 64∧i = .int .i64 j∧Hid (Below w.heap.size w wr∧OwnI wr w.heap.size 3 l (elsUp b (k * 64 + j)))) (fun _ _ i _ => 64 - (intOf i).toNat)
    case atStart => exact ⟨0,by omega,rfl,hh.out.1,hh.out.2⟩
    case round =>
     clear hh hc
     obtain ⟨j,hj,rfl,hh⟩:=hrel
     by_cases hlj : j < 64
     ·have hbit:=bit_eq n j hW.out
      cases ht : n.testBit j
      ·rw [ht] at hbit
       go_wp2
       go_roundw
       case rel => exact ⟨j + 1,by omega,by go_num,hh.out.1,by
        rw [← Nat.add_assoc,elsUp_no _ _ (by rw [hasN_at _ _ _ hlj,HN.out,ht])]; exact hh.out.2⟩
       case measure => simp [intOf]; omega
      ·rw [ht] at hbit
       have hsz:=hh.out.1.size
       have hll : (elsUp b (k * 64 + j)).length < 17592186044416:=Nat.lt_of_le_of_lt (elsUp_len _ _) (by omega)
       have HL:=Lib.hid hll
       clear hll
       go_wp2_with (at_builtin; refine wp_append1 (f:=Value.int .i64) sInt rfl _ rfl _ _ rfl w.heap.size _ (elsUp b (k * 64 + j)) rfl (hh.out.2.alloc _) ((k : Int) * 64 + j) ⟨wr.heap.size,0,none⟩ rfl (by simp [go_sem]) rfl HL.out (by omega) (by simp; omega) ?_; intro v' w2 hown hgr hb2)
       go_roundw
       case rel => exact ⟨j + 1,by omega,by go_num,(hh.out.1.alloc hsz _).trans hb2,by
        rw [← Nat.add_assoc,elsUp_yes _ _ (by rw [hasN_at _ _ _ hlj,HN.out,ht])]
        simpa using hown⟩
       case measure => simp [intOf]; omega
     ·obtain rfl : j = 64:=by omega
      go_wp2
      go_roundw
      case rel => exact ⟨k + 1,by omega,by go_num,hh.out.1,by
       rw [show (k + 1) * 64 = k * 64 + 64 by omega]; exact hh.out.2⟩
      case measure => simp [intOf]; omega
  ·obtain rfl : k = b.length:=by omega
   go_wp2
   go_ret
   exact ⟨_,rfl,by rw [els,Nat.mul_comm]; exact hh.out.2,hh.out.1⟩
end Go.Proofs.YtgblfjccccdidaaGreat
namespace Go.Proofs.YtgblfjccccdidaaGreat
open Go.RowKit Go.Dfl
theorem run_slice3 {P : Program} {t e : TypeId} {z : Value} {by8 : Nat} (ht : SliceOf P t e z 1 by8) (a : Option Addr) (n cap : Nat) (k k' : IntKind) (m : Int) (h0 : 0 ≤ m) (h1 : m ≤ cap) (ha : a = some ⟨blk a,ofs a,none⟩) (W : World) :
  (Instr.slice t (.slice a n cap) none (some (.int k m)) (some (.int k' m))).run P W = .ok (.slice a m.toNat m.toNat) W:=by
 obtain ⟨i,hi,_,hs,_⟩:=ht.info
 have hc : P.cellsOf e = 1:=by simp [Program.cellsOf,hi,hs]
 obtain ⟨M,rfl⟩:=Int.eq_ofNat_of_zero_le h0
 have h1' : M ≤ cap:=by omega
 simp [Instr.slice,run_underlying ht.und,Instr.sliceBounds,Instr.sliceBound,asIntOf,h1',run_sizeOf _ hi]
 intro _
 rw [ha]; simp [Addr.add]
def NormPost (b : List Nat) (s : Option Addr) (w : World) (e : Ending) (w' : World) : Prop :=
 ∃ m v,m ≤ b.length∧(∀ i,m ≤ i→nth b i = 0)∧(m = 0 ∨ nth b (m - 1) ≠ 0)∧e = .returned v∧v = (if m = 0 then .slice none 0 0 else .slice s m m)∧Qt w w'
set_option maxHeartbeats 400000 in
theorem normal_any (a : Option Addr) (n cap : Nat) (b : List Nat) (w : World) (h : Words w (.slice a n cap) b) (hn : b.length = n) :
  Calls Tryz.prog 96 #[.slice a n cap] w (NormPost b a w):=by
 have hsl:=h
 obtain ⟨a2,cap2,he,hm,hidx,hcell,hblk⟩:=h.out1 sBits
 simp at he
 obtain ⟨rfl,rfl,rfl⟩:=he
 have hcap : b.length ≤ cap∧∀ i,i < b.length→a = some ⟨blk a,ofs a,none⟩:=by
  obtain ⟨a3,cap3,he,g1,g2,g3⟩:=hsl
  simp at he
  obtain ⟨rfl,rfl⟩:=he
  exact ⟨g1,fun i hi => (g3 i hi).1⟩
 have HC:=Lib.hid hcap
 clear h hn hsl hcap
 go_enter Tryz.func96,Tryz.ntmps96
 go_wp2
 go_loop [3] (fun x => ∃ m : Nat,m ≤ b.length∧x = .int .i64 m∧Hid (∀ i,m ≤ i→nth b i = 0)) (fun x => (intOf x).toNat)
 case atStart => exact ⟨b.length,by omega,rfl,fun i hi => nth_out _ _ hi⟩
 case round =>
  obtain ⟨m,hmb,rfl,hh⟩:=hrel
  by_cases h0 : m = 0
  ·subst h0
   go_wp2
   go_ret
   exact ⟨0,_,by omega,hh.out,.inl rfl,rfl,rfl,Qt.refl _⟩
  ·obtain ⟨q,rfl⟩ : ∃ q,m = q + 1:=⟨m - 1,by omega⟩
   have hq:=hcell q (by omega)
   have hqb : q < b.length:=by omega
   have hpos : (0 : Int) < ((q + 1 : Nat) : Int):=by omega
   unfold wv at hq
   clear hcell h0
   by_cases hz : nth b q = 0
   ·have hz' : (((nth b q : Nat) : Int) == 0) = true:=by simp [hz]
    have HZ:=Lib.hid hz
    clear hz
    go_wp2
    go_round
    case rel => exact ⟨q,by omega,by go_num,fun i hi => by
     by_cases e : i = q
     ·subst e; exact HZ.out
     ·exact hh.out i (by omega)⟩
    case measure => simp [intOf]
   ·have hz' : (((nth b q : Nat) : Int) == 0) = false:=by simp; omega
    have hs3:=fun W => run_slice3 sBits a b.length cap .i64 .i64 ((q + 1 : Nat) : Int) (by omega) (by have:=HC.out.1; omega) (HC.out.2 q hqb) W
    have hne : (((q : Nat) : Int) + 1 == 0) = false:=by simp; omega
    have HZ:=Lib.hid hz
    clear hz
    simp only [Int.natCast_add,Int.natCast_one] at hs3
    go_wp2
    go_ret
    exact ⟨q + 1,_,by omega,hh.out,.inr HZ.out,rfl,by rw [if_neg (by omega)]; congr 1 <;> omega,Qt.refl _⟩
end Go.Proofs.YtgblfjccccdidaaGreat
namespace Go.Proofs.YtgblfjccccdidaaGreat
open Go.RowKit Go.Dfl
def card (b : List Nat) (n : Nat) : Nat:=((List.range n).filter (hasN b)).length
end Go.Proofs.YtgblfjccccdidaaGreat
namespace Go.Proofs.YtgblfjccccdidaaGreat
open Go.RowKit Go.Dfl
def withinB (a b : List Nat) : Bool:=(els a).all fun x => decide (x ∈ els b)
theorem within_iff {a b : List Nat} : withinB a b = true ↔ ∀ x,hasN a x = true→hasN b x = true:=by
 unfold withinB
 rw [List.all_eq_true]
 constructor
 ·intro h x hx
  have:=h x (mem_els.2 ⟨x,rfl,hx⟩)
  simp only [decide_eq_true_eq,mem_els] at this
  obtain ⟨m,e,hm⟩:=this
  rw [show x = m by omega]; exact hm
 ·intro h x hx
  obtain ⟨m,rfl,hm⟩:=mem_els.1 hx
  simp only [decide_eq_true_eq,mem_els]
  exact ⟨m,rfl,h m hm⟩
theorem anot_zero {a b : Nat} (ha : W64 a) (hb : W64 b) : anot a b = 0 ↔ ∀ k,a.testBit k = true→b.testBit k = true:=by
 constructor
 ·intro h k hk
  have:=anot_bit a b ha hb k
  rw [h,hk] at this
  simpa using this
 ·intro h
  apply Nat.eq_of_testBit_eq
  intro k
  rw [anot_bit a b ha hb k]
  by_cases e : a.testBit k = true
  ·simp [e,h k e]
  ·simp [e]
theorem within_true {a b : List Nat} (ha : Wds a) (hb : Wds b) (h : ∀ i,i < a.length→anot (nth a i) (nth b i) = 0) : withinB a b = true:=by
 rw [within_iff]
 intro x hx
 by_cases e : x / 64 < a.length
 ·exact (anot_zero (ha _) (hb _)).1 (h _ e) _ hx
 ·rw [hasN_out a x (by omega)] at hx; simp at hx
theorem within_false {a b : List Nat} (ha : Wds a) (hb : Wds b) {i : Nat} (h : anot (nth a i) (nth b i) ≠ 0) : withinB a b = false:=by
 rw [Bool.eq_false_iff,ne_eq,within_iff]
 intro hh
 apply h
 rw [anot_zero (ha _) (hb _)]
 intro k hk
 have hk64 : k < 64:=by
  by_cases e : k < 64
  ·exact e
  ·rw [(ha i).bit k (by omega)] at hk; simp at hk
 have:=hh (i * 64 + k) (by rw [hasN_at _ _ _ hk64,hk])
 rwa [hasN_at _ _ _ hk64] at this
set_option maxHeartbeats 400000 in
theorem Within_any (v u : Value) (b c : List Nat) (w : World) (h : Words w v b) (h' : Words w u c) (hb : Wds b) (hc : Wds c) :
  Calls Tryz.prog 98 #[v,u] w fun e w' => e = .returned (.bool (withinB b c))∧Qt w w':=by
 have hI':=h'
 obtain ⟨a,cap,rfl,hm,hidx,hcell,hblk⟩:=h.out1 sBits
 obtain ⟨a',cap',rfl, -⟩:=h'.out1 sBits
 have HB:=Lib.hid (And.intro hb hc)
 clear h hb hc h'
 go_enter Tryz.func98,Tryz.ntmps98
 go_wp2
 go_loopw [5,8] (fun _ i wr => ∃ k : Nat,k ≤ b.length∧i = .int .i64 k∧Qt w wr∧Hid (∀ j,j < k→anot (nth b j) (nth c j) = 0)) (fun _ i _ => b.length - (intOf i).toNat)
 case atStart => exact ⟨0,by omega,rfl,Qt.refl _,fun j hj => by omega⟩
 case round =>
  obtain ⟨k,hk,rfl,⟨nw,rfl⟩,hh⟩:=hrel
  by_cases hlt : k < b.length
  ·have hcb : w.cell? ⟨blk a,ofs a + k,none⟩ = some (.int .u64 ((nth b k : Nat) : Int)):=hcell k hlt
   have han:=anot_eq (nth b k) (nth c k) (HB.out.1 k) (HB.out.2 k)
   clear hcell
   by_cases h0 : anot (nth b k) (nth c k) = 0
   ·have h0' : (bits BinOp.andNot IntKind.u64 ((nth b k : Nat) : Int) ((nth c k : Nat) : Int) != 0) = false:=by rw [han,h0]; rfl
    have H0:=Lib.hid h0
    clear h0 han
    go_wp2
    go_quiet ((go_at_call 119; exact Qt.quiet2 (word_any _ c _ _ (hI'.qt (by first | exact Qt.refl _ | exact Qt.drewN _ _ | exact (Qt.drewN _ _).trans (Qt.drewN _ _) | exact ((Qt.drewN _ _).trans (Qt.drewN _ _)).trans (Qt.drewN _ _) | exact Qt.drew _ | exact (Qt.drewN _ _).trans (Qt.drew _))) (by omega))))
    go_wp2
    go_roundw
    case rel => exact ⟨k + 1,by omega,by go_num,(by first | exact Qt.refl _ | exact Qt.drewN _ _ | exact (Qt.drewN _ _).trans (Qt.drewN _ _) | exact ((Qt.drewN _ _).trans (Qt.drewN _ _)).trans (Qt.drewN _ _) | exact Qt.drew _ | exact (Qt.drewN _ _).trans (Qt.drew _)),fun j hj => by
     by_cases e : j = k
     ·subst e; exact H0.out
     ·exact hh.out j (by omega)⟩
    case measure => simp [intOf]; omega
   ·have h0' : (bits BinOp.andNot IntKind.u64 ((nth b k : Nat) : Int) ((nth c k : Nat) : Int) != 0) = true:=by rw [han]; simp; omega
    have H0:=Lib.hid (within_false HB.out.1 HB.out.2 h0)
    clear h0 han
    go_wp2
    go_quiet ((go_at_call 119; exact Qt.quiet2 (word_any _ c _ _ (hI'.qt (by first | exact Qt.refl _ | exact Qt.drewN _ _ | exact (Qt.drewN _ _).trans (Qt.drewN _ _) | exact ((Qt.drewN _ _).trans (Qt.drewN _ _)).trans (Qt.drewN _ _) | exact Qt.drew _ | exact (Qt.drewN _ _).trans (Qt.drew _))) (by omega))))
    go_wp2
    go_ret
    exact ⟨ret_bool (by rw [H0.out]),(by first | exact Qt.refl _ | exact Qt.drewN _ _ | exact (Qt.drewN _ _).trans (Qt.drewN _ _) | exact ((Qt.drewN _ _).trans (Qt.drewN _ _)).trans (Qt.drewN _ _) | exact Qt.drew _ | exact (Qt.drewN _ _).trans (Qt.drew _))⟩
  ·go_wp2
   go_ret
   exact ⟨ret_bool (by rw [within_true HB.out.1 HB.out.2 fun i hi => hh.out i (by omega)]),(by first | exact Qt.refl _ | exact Qt.drewN _ _ | exact (Qt.drewN _ _).trans (Qt.drewN _ _) | exact ((Qt.drewN _ _).trans (Qt.drewN _ _)).trans (Qt.drewN _ _) | exact Qt.drew _ | exact (Qt.drewN _ _).trans (Qt.drew _))⟩
end Go.Proofs.YtgblfjccccdidaaGreat
namespace Go.Proofs.YtgblfjccccdidaaGreat
open Go.RowKit Go.Dfl
def Fresh (w : World) (base : Nat) (v : Value) (r : List Nat) : Prop :=
 Words w v r∧∀ a n cap,v = .slice a n cap→0 < n→base ≤ blk a∧∀ i,w.frozen? ⟨blk a,i,none⟩ = false
def SetPost (p : Nat→Bool) (n : Nat) (w : World) (e : Ending) (w' : World) : Prop :=
 ∃ v r,e = .returned v∧Fresh w' w.heap.size v r∧Wds r∧Norm r∧r.length ≤ n∧(∀ x,hasN r x = p x)∧Below w.heap.size w w'
theorem fresh_cut {W : World} {B n cap : Nat} {s : Option Addr} {R : List Nat} (ho : OwnW W B 110 (.slice s n cap) R) (hn : R.length = n) (m : Nat) (hm : m ≤ R.length) :
  Fresh W B (if m = 0 then .slice none 0 0 else .slice s m m) (R.take m):=by
 by_cases h0 : m = 0
 ·subst h0
  rw [if_pos rfl]
  refine ⟨?_,fun a n cap he hp => ?_⟩
  ·rw [List.take_zero]; exact Lst.nil _ _
  ·simp at he; omega
 ·rw [if_neg h0]
  have hl:=ho.lst
  have hb:=ho.blkge (by omega)
  have hf:=ho.frozen (by omega)
  refine ⟨?_,fun a n cap he hp => ?_⟩
  ·obtain ⟨a2,cap2,he,g1,g2,g3⟩:=hl
   simp at he
   obtain ⟨rfl,he2,rfl⟩:=he
   refine ⟨s,m,by simp; omega,by simp; omega,by omega,fun i hi => ?_⟩
   simp at hi
   obtain ⟨q1,q2,q3⟩:=g3 i (by omega)
   refine ⟨q1,q2,fun j hj => ?_⟩
   rw [q3 j hj]
   simp [nth,List.getElem?_take]
   rw [if_pos (by omega)]
  ·simp at he
   obtain ⟨rfl,rfl,rfl⟩:=he
   exact ⟨hb.1,hf⟩
theorem set_of_norm {p : Nat→Bool} {N : Nat} {w W W' : World} {n cap : Nat} {s : Option Addr} {R : List Nat} {e : Ending} (ho : OwnW W w.heap.size 110 (.slice s n cap) R) (hn : R.length = n) (hN : n ≤ N) (hW : Wds R)
  (hp : ∀ x,hasN R x = p x) (hb : Below w.heap.size w W) (h : NormPost R s W e W') : SetPost p N w e W':=by
 obtain ⟨m,v,h1,h2,h3,rfl,rfl,nw,rfl⟩:=h
 have hf:=fresh_cut ho hn m h1
 have ht:=take_has h1 h2
 refine ⟨_,R.take m,rfl,⟨hf.1.qt (Qt.drewN _ _),hf.2⟩,fun i => by rw [ht]; exact hW i,take_norm h1 h2 h3,by simp; omega,fun x => ?_,below_drewN hb _⟩
 rw [← hp x]; unfold hasN; rw [ht]
def fillTo (f : Nat→Nat) (k n : Nat) : List Nat:=(List.range n).map fun i => if i < k then f i else 0
theorem fillTo_len (f : Nat→Nat) (k n : Nat) : (fillTo f k n).length = n:=by simp [fillTo]
theorem fillTo_nth (f : Nat→Nat) (k n i : Nat) : nth (fillTo f k n) i = if i < n∧i < k then f i else 0:=by
 by_cases h : i < n
 ·simp [fillTo,nth,h]
 ·rw [nth_out _ _ (by rw [fillTo_len]; omega),if_neg (by omega)]; rfl
theorem fillTo_zero (f : Nat→Nat) (n : Nat) : fillTo f 0 n = List.replicate n 0:=by
 apply nth_ext
 ·simp [fillTo]
 ·intro i hi
  rw [fillTo_len] at hi
  rw [fillTo_nth,if_neg (by omega)]; simp [nth,hi]
theorem fillTo_set (f : Nat→Nat) (k n : Nat) : (fillTo f k n).set k (f k) = fillTo f (k + 1) n:=by
 apply nth_ext
 ·simp [fillTo_len]
 ·intro i hi
  simp [fillTo_len] at hi
  rw [nth_set,fillTo_nth,fillTo_nth,fillTo_len]
  by_cases e : k = i
  ·subst e; rw [if_pos ⟨rfl,hi⟩,if_pos ⟨hi,by omega⟩]
  ·rw [if_neg (by omega)]
   by_cases e2 : i < k
   ·rw [if_pos ⟨hi,e2⟩,if_pos ⟨hi,by omega⟩]
   ·rw [if_neg (by omega),if_neg (by omega)]
theorem fill_all {f : Nat→Nat} {n : Nat} (h : ∀ i,n ≤ i→f i = 0) (i : Nat) : nth (fillTo f n n) i = f i:=by
 rw [fillTo_nth]
 by_cases e : i < n
 ·rw [if_pos ⟨e,e⟩]
 ·rw [if_neg (by omega),h i (by omega)]
def orF (b c : List Nat) (i : Nat) : Nat:=nth b i ||| nth c i
def anotF (b c : List Nat) (i : Nat) : Nat:=anot (nth b i) (nth c i)
def andF (b c : List Nat) (i : Nat) : Nat:=nth b i &&& nth c i
set_option maxHeartbeats 800000 in
set_option maxRecDepth 4000 in
theorem Union_any (v u : Value) (b c : List Nat) (w : World) (h : Words w v b) (h' : Words w u c) (hb : Wds b) (hc : Wds c) (N : Nat) (hN : N ≤ 1048576) (hN1 : b.length ≤ N) (hN2 : c.length ≤ N) :
  Calls Tryz.prog 118 #[v,u] w (SetPost (fun x => hasN b x || hasN c x) N w):=by
 have hI:=h
 have hI':=h'
 obtain ⟨a,cap,rfl,hm, -⟩:=h.out1 sBits
 obtain ⟨a',cap',rfl,hm', -⟩:=h'.out1 sBits
 have HB:=Lib.hid (And.intro hb hc)
 have hmx:=run_mx Tryz.prog
 obtain ⟨n,hn⟩ : ∃ n : Nat,mx (b.length : Int) (c.length : Int) = n:=⟨(mx (b.length : Int) (c.length : Int)).toNat,by have:=mx_ge (b.length : Int) (c.length : Int); omega⟩
 have hnn:=mx_ge (b.length : Int) (c.length : Int)
 rw [hn] at hnn
 have hnN : n ≤ N:=by omega
 have hmx2 : ∀ (w : World) (ts : Array TypeId) (t : TypeId),(Builtin.max_ ts t #[.int .i64 b.length,.int .i64 c.length]).run Tryz.prog w = .ok (.int .i64 (n : Int)) w:=fun w ts t => by rw [hmx,hn]
 have HN : Hid (b.length ≤ n∧c.length ≤ n):=⟨by omega,by omega⟩
 clear h h' hb hc hmx hn hnn
 go_enter Tryz.func118,Tryz.ntmps118
 go_wp2_with (at_make; refine wp_make (f:=wv) 0 sBits rfl _ rfl _ _ rfl .i64 .i64 _ _ n rfl rfl rfl rfl ?c1 ?c2 ?_)
 case c1 => omega
 case c2 => unfold maxLen; omega
 intro s cap2 w1 hown hb
 clear hmx2
 go_wp2_with fail
 go_loopw [6,15] (fun _ i wr => ∃ k : Nat,k ≤ n∧i = .int .i64 k∧Hid (Below w.heap.size w wr∧OwnW wr w.heap.size 110 (.slice s n cap2) (fillTo (orF b c) k n))) (fun _ i _ => n - (intOf i).toNat)
 case atStart => exact ⟨0,by omega,rfl,hb,by rw [fillTo_zero]; exact hown⟩
 case round =>
  clear hown hb
  obtain ⟨k,hk,rfl,hh⟩:=hrel
  by_cases hlt : k < n
  ·have ho:=hh.out.2
   have hl:=fillTo_len (orF b c) k n
   have hfz:=ho.frozen (by omega) (ofs s + k)
   have hblk:=ho.blkge (by omega)
   obtain ⟨a2,c2,he,hm2,hidx2,hcell2,_⟩:=ho.lst.out1 sBits
   simp at he
   obtain ⟨rfl,he,rfl⟩:=he
   rw [hl] at hidx2 hcell2
   have hck:=hcell2 k hlt
   unfold wv at hck
   have hor : bits BinOp.or IntKind.u64 ((nth b k : Nat) : Int) ((nth c k : Nat) : Int) = ((orF b c k : Nat) : Int):=or_eq (nth b k) (nth c k) (HB.out.1 k) (HB.out.2 k)
   have hIr:=hI.below hh.out.1
   have hIr':=hI'.below hh.out.1
   clear ho hl he hm2 hcell2
   go_wp2_with fail
   refine (word_any _ b _ _ hIr (by omega)).mono ?_; rintro e w' ⟨rfl,n1,rfl⟩
   go_wp2_with fail
   refine (word_any _ c _ _ (hIr'.qt (by first | exact Qt.refl _ | exact Qt.drewN _ _ | exact (Qt.drewN _ _).trans (Qt.drewN _ _) | exact ((Qt.drewN _ _).trans (Qt.drewN _ _)).trans (Qt.drewN _ _) | exact Qt.drew _ | exact (Qt.drewN _ _).trans (Qt.drew _))) (by omega)).mono ?_; rintro e w' ⟨rfl,n2,rfl⟩
   go_wp2_with fail
   go_roundw
   case rel => exact ⟨k + 1,by omega,by go_num,(below_drewN hh.out.1 _).setCell hblk.1 _,by
    rw [← fillTo_set]; exact (hh.out.2.qt (Qt.drewN _ _)).set k _⟩
   case measure => simp [intOf]; omega
  ·have HF : Hid (OwnW wr w.heap.size 110 (.slice s n cap2) (fillTo (orF b c) n n)∧Below w.heap.size w wr):=by
    obtain rfl : k = n:=by omega
    exact ⟨hh.out.2,hh.out.1⟩
   clear hh
   go_wp2_with fail
   refine (normal_any _ _ _ _ _ HF.out.1.lst (fillTo_len _ _ _)).mono ?_
   intro e w5 hnp
   obtain ⟨m5,v5,q1,q2,q3,rfl,hv5,q4⟩:=hnp
   have HV:=Lib.hid (And.intro hv5 (And.intro q2 q3))
   clear hv5 q2 q3
   go_wp2_with fail
   go_ret
   have hz : ∀ i,n ≤ i→orF b c i = 0:=fun i hi => by rw [orF,nth_out b i (by have:=HN.out.1; omega),nth_out c i (by have:=HN.out.2; omega)]; rfl
   refine set_of_norm HF.out.1 (fillTo_len _ _ _) hnN ?_ ?_ HF.out.2 ⟨m5,v5,q1,HV.out.2.1,HV.out.2.2,rfl,HV.out.1,q4⟩
   ·intro i; rw [fill_all hz]; exact or_w _ _ (HB.out.1 i) (HB.out.2 i)
   ·intro x; unfold hasN; rw [fill_all hz]; exact Nat.testBit_or _ _ _
set_option maxHeartbeats 800000 in
set_option maxRecDepth 4000 in
theorem Minus_any (v u : Value) (b c : List Nat) (w : World) (h : Words w v b) (h' : Words w u c) (hb : Wds b) (hc : Wds c) (hN : b.length ≤ 1048576) :
  Calls Tryz.prog 117 #[v,u] w (SetPost (fun x => hasN b x && !hasN c x) b.length w):=by
 have hI':=h'
 obtain ⟨a,cap,rfl,hm,hidx,hcell,hblk0⟩:=h.out1 sBits
 obtain ⟨a',cap',rfl,hm', -⟩:=h'.out1 sBits
 have HB:=Lib.hid (And.intro hb hc)
 clear h h' hb hc
 go_enter Tryz.func117,Tryz.ntmps117
 go_wp2_with (at_make; refine wp_make (f:=wv) 0 sBits rfl _ rfl _ _ rfl .i64 .i64 _ _ b.length rfl rfl rfl rfl ?c1 ?c2 ?_)
 case c1 => omega
 case c2 => unfold maxLen; omega
 intro s cap2 w1 hown hb
 go_wp2_with fail
 go_loopw [6,12] (fun _ i wr => ∃ k : Nat,k ≤ b.length∧i = .int .i64 k∧Hid (Below w.heap.size w wr∧OwnW wr w.heap.size 110 (.slice s b.length cap2) (fillTo (anotF b c) k b.length))) (fun _ i _ => b.length - (intOf i).toNat)
 case atStart => exact ⟨0,by omega,rfl,hb,by rw [fillTo_zero]; exact hown⟩
 case round =>
  clear hown hb
  obtain ⟨k,hk,rfl,hh⟩:=hrel
  by_cases hlt : k < b.length
  ·have ho:=hh.out.2
   have hl:=fillTo_len (anotF b c) k b.length
   have hfz:=ho.frozen (by omega) (ofs s + k)
   have hblk:=ho.blkge (by omega)
   obtain ⟨a2,c2,he,hm2,hidx2,hcell2,_⟩:=ho.lst.out1 sBits
   simp at he
   obtain ⟨rfl,he,rfl⟩:=he
   rw [hl] at hidx2 hcell2
   have hck:=hcell2 k hlt
   unfold wv at hck
   have hor : bits BinOp.andNot IntKind.u64 ((nth b k : Nat) : Int) ((nth c k : Nat) : Int) = ((anotF b c k : Nat) : Int):=anot_eq (nth b k) (nth c k) (HB.out.1 k) (HB.out.2 k)
   have hcb : wr.cell? ⟨blk a,ofs a + k,none⟩ = some (.int .u64 ((nth b k : Nat) : Int)):=by
    rw [hh.out.1.cell (p:=⟨blk a,ofs a + k,none⟩) (hblk0 k hlt)]; exact hcell k hlt
   have hIr':=hI'.below hh.out.1
   clear ho hl he hm2 hcell2 hcell
   go_wp2_with fail
   refine wp_region_tail 11 (by kernel_rfl) (by kernel_rfl) ?_
   intro w2 hw2
   subst hw2
   simp only [List.take_succ_cons,List.take_zero,List.drop_succ_cons,List.drop_zero]
   repeat (first | still_step | still_call (word_still _ c _ _ (hIr'.qt (Qt.drew _)) (by omega)))
   refine wpStill_nil ?_
   go_wp2_with fail
   go_roundw
   case rel => exact ⟨k + 1,by omega,by go_num,hh.out.1.drew.setCell hblk.1 _,by
    rw [← fillTo_set]; exact (hh.out.2.qt (Qt.drew _)).set k _⟩
   case measure => simp [intOf]; omega
  ·have HF : Hid (OwnW wr w.heap.size 110 (.slice s b.length cap2) (fillTo (anotF b c) b.length b.length)∧Below w.heap.size w wr):=by
    obtain rfl : k = b.length:=by omega
    exact ⟨hh.out.2,hh.out.1⟩
   clear hh
   go_wp2_with fail
   refine (normal_any _ _ _ _ _ HF.out.1.lst (fillTo_len _ _ _)).mono ?_
   intro e w5 hnp
   obtain ⟨m5,v5,q1,q2,q3,rfl,hv5,q4⟩:=hnp
   have HV:=Lib.hid (And.intro hv5 (And.intro q2 q3))
   clear hv5 q2 q3
   go_wp2_with fail
   go_ret
   have hz : ∀ i,b.length ≤ i→anotF b c i = 0:=fun i hi => by rw [anotF,nth_out b i hi]; exact anot_left _
   refine set_of_norm HF.out.1 (fillTo_len _ _ _) (Nat.le_refl _) ?_ ?_ HF.out.2 ⟨m5,v5,q1,HV.out.2.1,HV.out.2.2,rfl,HV.out.1,q4⟩
   ·intro i; rw [fill_all hz]; exact anot_w _ _ (HB.out.1 i)
   ·intro x; unfold hasN; rw [fill_all hz]; exact anot_bit _ _ (HB.out.1 _) (HB.out.2 _) _
set_option maxHeartbeats 800000 in
set_option maxRecDepth 4000 in
theorem Both_any (v u : Value) (b c : List Nat) (w : World) (h : Words w v b) (h' : Words w u c) (hb : Wds b) (hc : Wds c) (N : Nat) (hN : N ≤ 1048576) (hN1 : b.length ≤ N) :
  Calls Tryz.prog 94 #[v,u] w (SetPost (fun x => hasN b x && hasN c x) N w):=by
 obtain ⟨a,cap,rfl,hm,hidx,hcell,hblk0⟩:=h.out1 sBits
 obtain ⟨a',cap',rfl,hm',hidx',hcell',hblk0'⟩:=h'.out1 sBits
 have HB:=Lib.hid (And.intro hb hc)
 have hmn:=run_mn Tryz.prog
 obtain ⟨n,hn⟩ : ∃ n : Nat,mn (b.length : Int) (c.length : Int) = n:=⟨(mn (b.length : Int) (c.length : Int)).toNat,by have:=mn_le (b.length : Int) (c.length : Int); omega⟩
 have hnn:=mn_le (b.length : Int) (c.length : Int)
 rw [hn] at hnn
 have hnN : n ≤ N:=by omega
 have hnb : n ≤ b.length:=by omega
 have hnc : n ≤ c.length:=by omega
 have hmn2 : ∀ (w : World) (ts : Array TypeId) (t : TypeId),(Builtin.min_ ts t #[.int .i64 b.length,.int .i64 c.length]).run Tryz.prog w = .ok (.int .i64 (n : Int)) w:=fun w ts t => by rw [hmn,hn]
 have HN : Hid (b.length = n ∨ c.length = n):=by have : (b.length : Int) = n ∨ (c.length : Int) = n:=by omega
                                                 show _ ∨ _; omega
 clear h h' hb hc hmn hn hnn
 go_enter Tryz.func94,Tryz.ntmps94
 go_wp2_with (at_make; refine wp_make (f:=wv) 0 sBits rfl _ rfl _ _ rfl .i64 .i64 _ _ n rfl rfl rfl rfl ?c1 ?c2 ?_)
 case c1 => omega
 case c2 => unfold maxLen; omega
 intro s cap2 w1 hown hb
 clear hmn2
 go_wp2_with fail
 go_loopw [6,15] (fun _ i wr => ∃ k : Nat,k ≤ n∧i = .int .i64 k∧Hid (Below w.heap.size w wr∧OwnW wr w.heap.size 110 (.slice s n cap2) (fillTo (andF b c) k n))) (fun _ i _ => n - (intOf i).toNat)
 case atStart => exact ⟨0,by omega,rfl,hb,by rw [fillTo_zero]; exact hown⟩
 case round =>
  clear hown hb
  obtain ⟨k,hk,rfl,hh⟩:=hrel
  by_cases hlt : k < n
  ·have ho:=hh.out.2
   have hl:=fillTo_len (andF b c) k n
   have hfz:=ho.frozen (by omega) (ofs s + k)
   have hblk:=ho.blkge (by omega)
   obtain ⟨a2,c2,he,hm2,hidx2,hcell2,_⟩:=ho.lst.out1 sBits
   simp at he
   obtain ⟨rfl,he,rfl⟩:=he
   rw [hl] at hidx2 hcell2
   have hck:=hcell2 k hlt
   unfold wv at hck
   have hor : bits BinOp.and IntKind.u64 ((nth b k : Nat) : Int) ((nth c k : Nat) : Int) = ((andF b c k : Nat) : Int):=and_eq (nth b k) (nth c k) (HB.out.1 k) (HB.out.2 k)
   have hkb : k < b.length:=by omega
   have hkc : k < c.length:=by omega
   have hcb : wr.cell? ⟨blk a,ofs a + k,none⟩ = some (.int .u64 ((nth b k : Nat) : Int)):=by
    rw [hh.out.1.cell (p:=⟨blk a,ofs a + k,none⟩) (hblk0 k hkb)]; exact hcell k hkb
   have hcc : wr.cell? ⟨blk a',ofs a' + k,none⟩ = some (.int .u64 ((nth c k : Nat) : Int)):=by
    rw [hh.out.1.cell (p:=⟨blk a',ofs a' + k,none⟩) (hblk0' k hkc)]; exact hcell' k hkc
   clear ho hl he hm2 hcell2 hcell hcell'
   go_wp2_with fail
   refine wp_region_tail 12 (by kernel_rfl) (by kernel_rfl) ?_
   intro w2 hw2
   subst hw2
   simp only [List.take_succ_cons,List.take_zero,List.drop_succ_cons,List.drop_zero]
   repeat still_step
   refine wpStill_nil ?_
   go_wp2_with fail
   go_roundw
   case rel => exact ⟨k + 1,by omega,by go_num,hh.out.1.drew.setCell hblk.1 _,by
    rw [← fillTo_set]; exact (hh.out.2.qt (Qt.drew _)).set k _⟩
   case measure => simp [intOf]; omega
  ·have HF : Hid (OwnW wr w.heap.size 110 (.slice s n cap2) (fillTo (andF b c) n n)∧Below w.heap.size w wr):=by
    obtain rfl : k = n:=by omega
    exact ⟨hh.out.2,hh.out.1⟩
   clear hh
   go_wp2_with fail
   refine (normal_any _ _ _ _ _ HF.out.1.lst (fillTo_len _ _ _)).mono ?_
   intro e w5 hnp
   obtain ⟨m5,v5,q1,q2,q3,rfl,hv5,q4⟩:=hnp
   have HV:=Lib.hid (And.intro hv5 (And.intro q2 q3))
   clear hv5 q2 q3
   go_wp2_with fail
   go_ret
   have hz : ∀ i,n ≤ i→andF b c i = 0:=fun i hi => by
    rcases HN.out with e | e
    ·rw [andF,nth_out b i (by omega)]; exact Nat.zero_and _
    ·rw [andF,nth_out c i (by omega)]; exact Nat.and_zero _
   refine set_of_norm HF.out.1 (fillTo_len _ _ _) hnN ?_ ?_ HF.out.2 ⟨m5,v5,q1,HV.out.2.1,HV.out.2.2,rfl,HV.out.1,q4⟩
   ·intro i; rw [fill_all hz]; exact and_w _ _ (HB.out.1 i)
   ·intro x; unfold hasN; rw [fill_all hz]; exact Nat.testBit_and _ _ _
end Go.Proofs.YtgblfjccccdidaaGreat
namespace Go.Proofs.YtgblfjccccdidaaGreat
open Go.RowKit Go.Dfl
theorem nth_zeros (k j : Nat) : nth (List.replicate k (0 : Nat)) j = 0:=by
 unfold nth
 simp only [List.getD_eq_getElem?_getD,List.getElem?_replicate]
 split <;> rfl
theorem pow_wrap (j : Nat) (hj : j < 64) : IntKind.u64.wrap ((2 : Int) ^ j) = ((2 ^ j : Nat) : Int):=by
 have h : (2 : Nat) ^ j < 2 ^ 64:=Nat.pow_lt_pow_right (by omega) hj
 have e : ((2 : Int) ^ j) = ((2 ^ j : Nat) : Int):=by rw [Int.natCast_pow]; rfl
 rw [IntKind.wrap_u64,e]
 generalize (2 : Nat) ^ j = p at *
 omega
theorem pow_w (j : Nat) (hj : j < 64) : W64 (2 ^ j):=W64.of (Nat.pow_lt_pow_right (by omega) hj)
theorem hasN_set (R : List Nat) (i v x : Nat) (hi : i < R.length) : hasN (R.set i v) x = if x / 64 = i then v.testBit (x % 64) else hasN R x:=by
 unfold hasN
 rw [nth_set]
 by_cases e : i = x / 64
 ·rw [if_pos ⟨e,hi⟩,if_pos e.symm]
 ·rw [if_neg (by omega),if_neg (by omega)]
end Go.Proofs.YtgblfjccccdidaaGreat
namespace Go.Proofs.YtgblfjccccdidaaGreat
open Go.RowKit Go.Dfl
def OfPost (l : List Int) (w : World) (e : Ending) (w' : World) : Prop :=
 (l.all valB = false∧e = .returned (.tuple #[.slice none 0 0,.int .i64 4])∧Qt w w') ∨
 (l.all valB = true∧∃ v r,e = .returned (.tuple #[v,.int .i64 0])∧Fresh w' w.heap.size v r∧Wds r∧Norm r∧r.length ≤ 1024∧(∀ y,hasN r y = decide ((y : Int) ∈ l))∧Below w.heap.size w w')
theorem all_snoc {l : List Int} {k : Nat} (hk : k < l.length) (h : (l.take k).all valB = true) (h2 : valB (nth l k) = true) : (l.take (k + 1)).all valB = true:=by
 rw [take_snoc _ _ hk,List.all_append,h]; simp [h2]
theorem all_bad {l : List Int} {k : Nat} (hk : k < l.length) (h2 : valB (nth l k) = false) : l.all valB = false:=by
 rw [Bool.eq_false_iff]; intro hh
 have:=List.all_eq_true.1 hh _ (nth_mem _ _ hk)
 rw [h2] at this; simp at this
set_option maxHeartbeats 1600000 in
theorem Of_any (v : Value) (l : List Int) (w : World) (h : Ints w v l) :
  Calls Tryz.prog 71 #[v] w (OfPost l w):=by
 have hI:=h
 obtain ⟨a,cap,rfl,hm,hidx,hcell,hblk⟩:=h.out1 sInt
 have hmx:=run_mx Tryz.prog
 have HC:=Lib.hid (And.intro hcell hblk)
 clear h hcell hblk
 go_enter Tryz.func71,Tryz.ntmps71
 go_wp2_with fail
 go_loopw [4,6,12] (fun d _ i wr => ∃ k wd : Nat,k ≤ l.length∧i = .int .i64 k∧d = .int .i64 (wd : Int)∧wd ≤ 1024∧Qt w wr∧Hid ((l.take k).all valB = true∧∀ j,j < k→(nth l j).toNat / 64 < wd)) (fun _ _ i _ => l.length - (intOf i).toNat)
 case atStart => exact ⟨0,0,by omega,rfl,rfl,by omega,Qt.refl _,rfl,fun j hj => by omega⟩
 case round =>
  obtain ⟨k,wd,hk,rfl,rfl,hwd,⟨nw,rfl⟩,hh⟩:=hrel
  by_cases hlt : k < l.length
  ·have hck:=HC.out.1 k hlt
   cases hx : valB (nth l k)
   ·have HX:=Lib.hid (all_bad hlt hx)
    go_wp2_with fail
    refine (valid_any _ _).mono ?_; rintro e w' ⟨rfl,n1,rfl⟩
    go_wp2_with fail
    go_ret2
    exact .inl ⟨HX.out,rfl,(by first | exact Qt.refl _ | exact Qt.drewN _ _ | exact (Qt.drewN _ _).trans (Qt.drewN _ _) | exact ((Qt.drewN _ _).trans (Qt.drewN _ _)).trans (Qt.drewN _ _) | exact Qt.drew _ | exact (Qt.drewN _ _).trans (Qt.drew _))⟩
   ·obtain ⟨hx1,hx2⟩ : 0 ≤ nth l k∧nth l k < 65536:=by simpa [valB] using hx
    have hge:=mx_ge (wd : Int) (nth l k / 64 + 1)
    obtain ⟨wn,hwn⟩ : ∃ wn : Nat,mx (wd : Int) (nth l k / 64 + 1) = wn:=⟨(mx (wd : Int) (nth l k / 64 + 1)).toNat,by omega⟩
    have HW : Hid (mx (wd : Int) (nth l k / 64 + 1) = wn∧wd ≤ wn∧(nth l k).toNat / 64 < wn∧wn ≤ 1024):=⟨hwn,by omega,by omega,by omega⟩
    have HX:=Lib.hid hx
    clear hge hwn
    go_wp2_with fail
    refine (valid_any _ _).mono ?_; rintro e w' ⟨rfl,n1,rfl⟩
    go_wp2_with fail
    go_roundw
    case rel => exact ⟨k + 1,wn,by omega,by go_num,by rw [HW.out.1],HW.out.2.2.2,(by first | exact Qt.refl _ | exact Qt.drewN _ _ | exact (Qt.drewN _ _).trans (Qt.drewN _ _) | exact ((Qt.drewN _ _).trans (Qt.drewN _ _)).trans (Qt.drewN _ _) | exact Qt.drew _ | exact (Qt.drewN _ _).trans (Qt.drew _)),all_snoc hlt hh.out.1 HX.out,fun j hj => by
     by_cases e : j = k
     ·subst e; exact HW.out.2.2.1
     ·have:=hh.out.2 j (by omega); have:=HW.out.2.1; omega⟩
    case measure => simp [intOf]; omega
  ·have HA : Hid (l.all valB = true∧∀ j,j < l.length→(nth l j).toNat / 64 < wd):=by
    have h1:=hh.out.1
    rw [List.take_of_length_le (by omega)] at h1
    exact ⟨h1,fun j hj => hh.out.2 j (by omega)⟩
   clear hh hmx
   go_wp2_with (first | (at_make; refine wp_make (f:=wv) 0 sBits rfl _ rfl _ _ rfl .i64 .i64 _ _ wd rfl rfl rfl rfl ?c1 ?c2 ?_))
   case c1 => omega
   case c2 => unfold maxLen; omega
   intro s cap2 w1 hown hbw
   have hb0 : Below w.heap.size w w1:=((Qt.drewN w _).below _).trans hbw
   clear hbw
   go_wp2_with fail
   go_loopw [9,29] (fun _ i wr => ∃ (k : Nat) (R : List Nat),k ≤ l.length∧i = .int .i64 k∧Hid (Below w.heap.size w wr∧OwnW wr w.heap.size 110 (.slice s wd cap2) R∧R.length = wd∧Wds R∧∀ y,hasN R y = decide ((y : Int) ∈ l.take k))) (fun _ i _ => l.length - (intOf i).toNat)
   case atStart => exact ⟨0,List.replicate wd 0,by omega,rfl,hb0,hown,by simp,fun i => by rw [nth_zeros]; exact W64.zero,fun y => by simp [hasN,nth_zeros]⟩
   case round =>
    clear hown hb0
    obtain ⟨k,R,hk,rfl,hh⟩:=hrel
    by_cases hlt : k < l.length
    ·obtain ⟨hbw,ho,hRl,hRw,hRp⟩:=hh.out
     have hck : wr.cell? ⟨blk a,ofs a + k,none⟩ = some (.int .i64 (nth l k)):=by
      rw [hbw.cell (p:=⟨blk a,ofs a + k,none⟩) (HC.out.2 k hlt)]; exact HC.out.1 k hlt
     have hval:=List.all_eq_true.1 HA.out.1 _ (nth_mem l k hlt)
     obtain ⟨hx1,hx2⟩ : 0 ≤ nth l k∧nth l k < 65536:=by simpa [valB] using hval
     have hlw:=HA.out.2 k hlt
     obtain ⟨m,hm2⟩:=Int.eq_ofNat_of_zero_le hx1
     rw [hm2] at hck hlw
     simp only [Int.toNat_natCast] at hlw
     have hmm : m < 65536:=by omega
     have hfz:=ho.frozen (by omega) (ofs s + m / 64)
     have hbl:=ho.blkge (by omega)
     obtain ⟨a2,c2,he,hm3,hidx2,hcell2,_⟩:=ho.lst.out1 sBits
     simp at he
     obtain ⟨rfl,he,rfl⟩:=he
     rw [hRl] at hidx2 hcell2
     have hcr:=hcell2 (m / 64) hlw
     unfold wv at hcr
     have hi2:=hidx2 .i64 ((m : Int) / 64) (by omega) (by omega)
     have hor : bits BinOp.or IntKind.u64 ((nth R (m / 64) : Nat) : Int) (IntKind.u64.wrap (2 ^ (m % 64))) = ((nth R (m / 64) ||| 2 ^ (m % 64) : Nat) : Int):=by
      rw [pow_wrap _ (by omega)]; exact or_eq _ _ (hRw _) (pow_w _ (by omega))
     have HM:=Lib.hid hm2
     clear hbw ho hRl hRw hRp hval hx1 hx2 he hm3 hidx2 hcell2 hm2
     go_wp2_with fail
     go_roundw
     case rel =>
      obtain ⟨hbw,ho,hRl,hRw,hRp⟩:=hh.out
      refine ⟨k + 1,R.set (m / 64) (nth R (m / 64) ||| 2 ^ (m % 64)),by omega,by go_num,hbw.setCell hbl.1 _,ho.set _ _,by simpa using hRl,fun i => ?_,fun y => ?_⟩
      ·rw [nth_set]; split
       ·exact or_w _ _ (hRw _) (pow_w _ (by omega))
       ·exact hRw i
      ·rw [hasN_set _ _ _ _ (by omega),take_snoc l k hlt,HM.out]
       have hd : decide ((y : Int) ∈ l.take k ++ [(m : Int)]) = (decide ((y : Int) ∈ l.take k) || decide ((y : Int) = (m : Int))):=by
        rw [Bool.eq_iff_iff]; simp
       rw [hd, ← hRp y]
       split
       ·rename_i e
        have hd2 : decide (m % 64 = y % 64) = decide ((y : Int) = (m : Int)):=by rw [decide_eq_decide]; omega
        rw [Nat.testBit_or,Nat.testBit_two_pow,hasN,e,hd2]
       ·rename_i e
        have : ¬ (y : Int) = (m : Int):=by intro h; apply e; omega
        simp [this]
     case measure => simp [intOf]; omega
    ·have HF : Hid (Below w.heap.size w wr∧OwnW wr w.heap.size 110 (.slice s wd cap2) R∧R.length = wd∧Wds R∧∀ y,hasN R y = decide ((y : Int) ∈ l)):=by
      have:=hh.out
      rw [List.take_of_length_le (by omega)] at this; exact this
     clear hh
     go_wp2_with fail
     refine (normal_any _ _ _ R _ HF.out.2.1.lst HF.out.2.2.1).mono ?_
     intro e w5 hnp
     obtain ⟨m5,v5,q1,q2,q3,rfl,hv5,q4⟩:=hnp
     have HV:=Lib.hid (And.intro hv5 (And.intro q2 q3))
     clear hv5 q2 q3
     go_wp2_with fail
     go_ret2
     obtain ⟨v6,r,he,hF,hWr,hNr,hlr,hpr,hbr⟩:=set_of_norm (N:=1024) (p:=fun y => decide ((y : Int) ∈ l)) HF.out.2.1 HF.out.2.2.1 hwd HF.out.2.2.2.1 HF.out.2.2.2.2 HF.out.1 ⟨m5,v5,q1,HV.out.2.1,HV.out.2.2,rfl,HV.out.1,q4⟩
     simp at he
     subst he
     exact .inr ⟨HA.out.1,v5,r,rfl,hF,hWr,hNr,hlr,hpr,hbr⟩
end Go.Proofs.YtgblfjccccdidaaGreat
end
section
namespace Go.Dfl
open Go.RowKit
theorem grownBy_alloc (w : World) (o : Obj) : w.grownBy (w.alloc o) none :=
 ⟨rfl,rfl,rfl,by simp,fun k hk _ => Below.heap_alloc w o k hk⟩
theorem grownBy_refl (w : World) (row : Option Nat) : w.grownBy w row:=⟨rfl,rfl,rfl,Nat.le_refl _,fun _ _ _ => rfl⟩
theorem grownBy_drew0 (w : World) : w.grownBy w.drew none:=⟨rfl,rfl,rfl,Nat.le_refl _,fun _ _ _ => rfl⟩
theorem grownBy_qt {w w' : World} (h : Qt w w') : w.grownBy w' none:=by obtain ⟨n,rfl⟩:=h; exact ⟨rfl,rfl,rfl,Nat.le_refl _,fun _ _ _ => rfl⟩
theorem grownBy_below {w w' : World} (h : Below w.heap.size w w') : w.grownBy w' none:=⟨h.os,h.tape,h.output,h.size,fun k hk _ => h.block k hk⟩
theorem grownBy_setCell (w : World) (a : Addr) (v : Value) : w.grownBy (w.setCell a v) (some a.block):=by
 refine ⟨rfl,rfl,rfl,by simp,fun k hk hne => ?_⟩
 unfold World.setCell
 simp only [Array.getElem?_modify]
 rw [if_neg]
 intro e
 exact hne (by rw [e])
theorem grownBy_widen {w w' : World} {row : Option Nat} (h : w.grownBy w' none) : w.grownBy w' row:=⟨h.os,h.tape,h.output,h.size,fun k hk _ => h.block k hk (by simp)⟩
theorem cell_alloc1 (W : World) (v : Value) (t : TypeId) : (W.alloc (.cells #[v] t)).cell? ⟨W.heap.size,0,none⟩ = some v:=by
 unfold World.cell?
 rw [heap_alloc_new]
 rfl
theorem le_alloc {n : Nat} {W : World} (o : Obj) (h : n ≤ W.heap.size) : n ≤ (W.alloc o).heap.size:=by simp; omega
theorem cell_at1 {W : World} {v : Value} {t : TypeId} {B : Nat} (h : B = W.heap.size) : (W.alloc (.cells #[v] t)).cell? ⟨B,0,none⟩ = some v:=by subst h; exact cell_alloc1 _ _ _
theorem add0 {g j : Nat} : (⟨g,0,none⟩ : Addr).add j = ⟨g,j,none⟩:=by unfold Addr.add; split <;> simp_all
theorem add1 {g k j : Nat} : (⟨g,k,none⟩ : Addr).add j = ⟨g,k + j,none⟩:=by unfold Addr.add; split <;> simp_all
def Src {α : Type} [Inhabited α] (f : α→Value) (w : World) (u : Value) (m : List α) : Prop :=
 ∃ a c,u = .slice a m.length c∧(a = none→m.length = 0)∧∀ j,j < m.length→∃ ad : Addr,a = some ad∧w.cell? (ad.add j) = some (f (nth m j))
theorem run_append_none {P : Program} {w : World} (base : Nat) (t ty e : TypeId) (i : TypeInfo) (size : Nat) (ht : P.underlying t = some (.slice e)) (hi : P.info? e = some i)
  (v : Value) (n : Nat) (xs : List Value) (hown : w.ownsRow base e size v n xs) (c : Nat) : (Builtin.append_ #[t,t] ty #[v,.slice none 0 c]).run P w = .ok v w:=by
 rcases hown.2 with ⟨rfl,rfl⟩ | ⟨g,cap,cur,rfl,_,_,hnc,_⟩
 ·simp [Builtin.append_,run_underlying ht,sizeOf,typeInfo,hi,Builtin.lenOf,Builtin.firstCells]
 ·simp [Builtin.append_,run_underlying ht,sizeOf,typeInfo,hi,Builtin.lenOf,Builtin.firstCells,hnc,storeCells]
section
variable {α : Type} [Inhabited α] {f : α→Value} {P : Program} {t e : TypeId} {z : Value} {by8 : Nat}
theorem run_append_src (ht : SliceOf P t e z 1 by8) (hz : z.cells.size = 1) (w : World) (base : Nat) (v : Value) (l : List α) (hown : Own f w base e v l) (u : Value) (m : List α) (hu : Src f w u m) (h1 : ∀ y ∈ m,(f y).oneCell' = true)
  (hlen : l.length + m.length < 5864062014805) (h8 : by8 ≤ 24) (hbase : base ≤ w.heap.size) (ty : TypeId) :
  ∃ v' w',(Builtin.append_ #[t,t] ty #[v,u]).run P w = .ok v' w'∧Own f w' base e v' (l ++ m)∧w.grownBy w' v.ownBlock∧(v'.ownBlock = v.ownBlock ∨ v'.ownBlock = some w.heap.size):=by
 obtain ⟨i,hi,hz0,hz1,hz2⟩:=ht.info
 obtain ⟨a,c,rfl,hn,hc⟩:=hu
 cases a with
 | none =>
   obtain rfl : m = []:=List.eq_nil_of_length_eq_zero (hn rfl)
   refine ⟨v,w, ?_,by simpa using hown,grownBy_refl _ _,.inl rfl⟩
   exact run_append_none base t ty e i 1 ht.und hi v _ _ hown c
 | some ad =>
   have hnews : ∀ j x,(m.map f)[j]? = some x→w.cell? (ad.add j) = some x:=by
    intro j x hj
    have hjl : j < m.length:=by
     rw [List.getElem?_eq_some_iff] at hj; obtain ⟨h, -⟩:=hj; simpa using h
    rw [nth_map f m j hjl] at hj
    obtain ⟨ad',e1,e2⟩:=hc j hjl
    simp at e1; subst e1
    rw [e2]; exact hj
   have hone : ∀ x ∈ m.map f,x.oneCell' = true:=by
    intro x hx
    simp at hx; obtain ⟨y,hy,rfl⟩:=hx; exact h1 y hy
   obtain ⟨v',w',hr,h2,h3, -,h5⟩:=run_append_own_at (P:=P) w base t ty e i z 1 by8 ht.und hi hz0 hz1 hz2 hz (by omega) v l.length (l.map f) hown ad m.length c (m.map f) (by simp) hnews hone (by unfold maxLen; omega) (Nat.le_trans (Nat.mul_le_mul (by omega : l.length + m.length ≤ 5864062014805) h8) (by omega)) hbase
   exact ⟨v',w',hr,by unfold Own; simpa using h2,h3,h5⟩
theorem wp_appendS (ht : SliceOf P t e z 1 by8) (hz : z.cells.size = 1) {w : World} {ops : Array Oper} {rest : List Oper} {o : Oper} {a : Act} {Q : Exit→Act→World→Prop}
  (hg : o.guard = none) (s x : Operand) (hop : o.op = .call { callee:=.builtin .append,args:=#[s,x],argTypes:=#[t,t] })
  (base : Nat) (v : Value) (l : List α) (hs : a.eval s = v) (u : Value) (m : List α) (hx : a.eval x = u)
  (hown : Own f w base e v l) (hu : Src f w u m) (h1 : ∀ y ∈ m,(f y).oneCell' = true)
  (hlen : l.length + m.length < 5864062014805) (h8 : by8 ≤ 24) (hbase : base ≤ w.heap.size)
  (hK : ∀ v' w',Own f w' base e v' (l ++ m)→w.grownBy w' v.ownBlock→(v'.ownBlock = v.ownBlock ∨ v'.ownBlock = some w.heap.size)→wpList P ops Q rest (a.put o.dst v') w') : wpList P ops Q (o :: rest) a w:=by
 refine wpList_plain hg fun K hK' => ?_
 obtain ⟨v',w',hr,h2,h3,h4⟩:=run_append_src ht hz w base v l hown u m hu h1 hlen h8 hbase o.type
 unfold Oper.wp execOp
 simp only [hop,resolve,invoke,builtin,Sem.run_bind,Sem.run_pure,Result.andThen_ok,List.map_toArray,List.map_cons,List.map_nil,hs,hx,hr]
 exact hK' _ _ (hK v' w' h2 h3 h4)
theorem Src.grown {w w' : World} {u : Value} {m : List α} {row : Option Nat} (h : Src f w u m) (hg : w.grownBy w' row) (hr : ∀ k,u.ownBlock = some k→some k ≠ row) : Src f w' u m:=by
 obtain ⟨a,c,rfl,h1,h2⟩:=h
 refine ⟨a,c,rfl,h1,fun j hj => ?_⟩
 obtain ⟨ad,rfl,h3⟩:=h2 j hj
 refine ⟨ad,rfl,hg.cell h3 ?_⟩
 have : (ad.add j).block = ad.block:=by unfold Addr.add; split <;> rfl
 rw [this]
 exact hr _ rfl
theorem Lst.src {w : World} {v : Value} {m : List α} (h : Lst f w v m) : Src f w v m:=by
 obtain ⟨a,cap,rfl,h1,h2,h3⟩:=h
 refine ⟨a,cap,rfl,fun ha => ?_,fun j hj => ?_⟩
 ·rcases Nat.eq_zero_or_pos m.length with e | e
  ·exact e
  ·have:=(h3 0 e).1; rw [ha] at this; simp at this
 ·obtain ⟨g1,g2,g3⟩:=h3 j hj
  refine ⟨_,g1, ?_⟩
  rw [add1]
  simpa using g3 0 (by omega)
theorem src_one (f : α→Value) {w : World} {B : Nat} {x : α} (h : w.cell? ⟨B,0,none⟩ = some (f x)) : Src f w (.slice (some ⟨B,0,none⟩) 1 1) [x] :=
 ⟨_,_,rfl,by simp,fun j hj => ⟨_,rfl,by
  obtain rfl : j = 0:=by simpa using hj
  simpa [Addr.add,nth] using h⟩⟩
theorem Own.cutTo {w : World} {base : Nat} {v : Value} {l : List α} (ht : SliceOf P t e z 1 by8) (h : Own f w base e v l) (k : Nat) (hk : k ≤ l.length) :
  ∃ u,(∀ (ik : IntKind) (W : World),(Instr.slice t v none (some (.int ik (k : Int))) none).run P W = .ok u W)∧u.ownBlock = v.ownBlock∧∀ W,Own f W base e v l→Src f W u (l.take k):=by
 obtain ⟨i,hi,_,hs,_⟩:=ht.info
 have hlt : (l.take k).length = k:=by simp; omega
 obtain ⟨h1,⟨rfl,h2⟩ | ⟨g,cap,cur,rfl,hg,hh,hc,hm,hsz,htk⟩⟩:=h
 ·obtain rfl : k = 0:=by omega
  refine ⟨.slice none 0 0,fun ik W => ?_,rfl,fun W _ => ⟨none,0,by simp,by simp,fun j hj => by simp at hj⟩⟩
  simp [Instr.slice,run_underlying ht.und,Instr.sliceBounds,Instr.sliceBound,asIntOf,run_sizeOf _ hi]
 ·refine ⟨.slice (some ⟨g,0,none⟩) k cap,fun ik W => ?_,rfl,fun W ho => ⟨some ⟨g,0,none⟩,cap,by rw [hlt],by simp,fun j hj => ⟨_,rfl, ?_⟩⟩⟩
  ·have h1' : k ≤ cap:=by omega
   simp [Instr.slice,run_underlying ht.und,Instr.sliceBounds,Instr.sliceBound,asIntOf,h1',run_sizeOf _ hi,Addr.add]
  ·rw [hlt] at hj
   have:=World.ownsRow.cellAt ho j (by omega)
   rw [add0,this,nth_map f l j (by omega)]
   simp [nth,hj]
theorem Own.cutFrom {w : World} {base : Nat} {v : Value} {l : List α} (ht : SliceOf P t e z 1 by8) (h : Own f w base e v l) (k : Nat) (hk : k ≤ l.length) :
  ∃ u,(∀ (ik : IntKind) (W : World),(Instr.slice t v (some (.int ik (k : Int))) none none).run P W = .ok u W)∧u.ownBlock = v.ownBlock∧∀ W,Own f W base e v l→Src f W u (l.drop k):=by
 obtain ⟨i,hi,_,hs,_⟩:=ht.info
 have hlt : (l.drop k).length = l.length - k:=by simp
 obtain ⟨h1,⟨rfl,h2⟩ | ⟨g,cap,cur,rfl,hg,hh,hc,hm,hsz,htk⟩⟩:=h
 ·obtain rfl : k = 0:=by omega
  refine ⟨.slice none 0 0,fun ik W => ?_,rfl,fun W _ => ⟨none,0,by simp [h2],by simp [h2],fun j hj => by simp [h2] at hj⟩⟩
  simp [Instr.slice,run_underlying ht.und,Instr.sliceBounds,Instr.sliceBound,asIntOf,run_sizeOf _ hi]
 ·refine ⟨.slice (some ⟨g,if cap = k then 0 else k,none⟩) (l.length - k) (cap - k),fun ik W => ?_,rfl,fun W ho => ⟨_,_,by rw [hlt],by simp,fun j hj => ⟨_,rfl, ?_⟩⟩⟩
  ·have h1' : k ≤ l.length:=by omega
   simp [Instr.slice,run_underlying ht.und,Instr.sliceBounds,Instr.sliceBound,asIntOf,h1',run_sizeOf _ hi,Addr.add]
   have hce : P.cellsOf e = 1:=by simp [Program.cellsOf,hi,hs]
   by_cases hck : cap = k
   ·simp [hck]
   ·simp [hck,hce]
    intro h0; simp [h0]
  ·rw [hlt] at hj
   have:=World.ownsRow.cellAt ho (k + j) (by omega)
   rw [if_neg (by omega),add1,this,nth_map f l (k + j) (by omega)]
   simp [nth]
end
theorem own_empty {α : Type} (f : α→Value) {w : World} {base : Nat} {e : TypeId} {B : Nat} (h : B = w.heap.size) (hb : base ≤ w.heap.size) : Own f (w.alloc (.cells #[] e)) base e (.slice (some ⟨B,0,none⟩) 0 0) []:=by
 subst h
 exact World.ownsRow_lit (size:=1) w #[] 0 hb (by unfold maxLen; omega) rfl
instance : Inhabited Value:=⟨undef⟩
structure Kind {β : Type} (I : World→Nat→Value→β→Prop) : Prop where
 grown : ∀ {w w' : World} {base : Nat} {v : Value} {l : β} {row : Option Nat},I w base v l→w.grownBy w' row→(v.ownBlock = none ∨ v.ownBlock ≠ row)→I w' base v l
 lt : ∀ {w : World} {base : Nat} {v : Value} {l : β},I w base v l→∀ k,v.ownBlock = some k→base ≤ k∧k < w.heap.size
theorem Kind.own {α : Type} (f : α→Value) (e : TypeId) : Kind (fun w base v (l : List α) => Own f w base e v l) :=
 ⟨fun h hg hne => Own.grown h hg hne,fun h => Own.lt h⟩
structure OwnN {β : Type} [Inhabited β] (I : World→Nat→Value→β→Prop) (w : World) (base : Nat) (eo : TypeId) (v : Value) (vs : List Value) (ll : List β) : Prop where
 out : Own (fun x : Value => x) w base eo v vs
 len : vs.length = ll.length
 inn : ∀ i,i < ll.length→I w base (nth vs i) (nth ll i)
 sep : ∀ i j,i < ll.length→j < ll.length→i ≠ j→∀ k,(nth vs i).ownBlock = some k→(nth vs j).ownBlock ≠ some k
 apart : ∀ i,i < ll.length→∀ k,(nth vs i).ownBlock = some k→v.ownBlock ≠ some k
def Foot (v : Value) (vs : List Value) (k : Nat) : Prop:=v.ownBlock = some k ∨ ∃ i,i < vs.length∧(nth vs i).ownBlock = some k
section
variable {β : Type} [Inhabited β] {I : World→Nat→Value→β→Prop} {w w' : World} {base : Nat} {eo : TypeId} {v : Value} {vs : List Value} {ll : List β}
theorem OwnN.grown (hK : Kind I) (h : OwnN I w base eo v vs ll) {row : Option Nat} (hg : w.grownBy w' row) (hr : ∀ k,row = some k→¬ Foot v vs k) : OwnN I w' base eo v vs ll:=by
 refine ⟨h.out.grown hg ?_,h.len,fun i hi => hK.grown (h.inn i hi) hg ?_,h.sep,h.apart⟩
 ·cases hv : v.ownBlock with
  | none => exact .inl rfl
  | some k => exact .inr fun e => hr k e.symm (.inl hv)
 ·cases hv : (nth vs i).ownBlock with
  | none => exact .inl rfl
  | some k => exact .inr fun e => hr k e.symm (.inr ⟨i,by rw [h.len]; exact hi,hv⟩)
theorem OwnN.foot (hK : Kind I) (h : OwnN I w base eo v vs ll) (k : Nat) (hk : Foot v vs k) : base ≤ k∧k < w.heap.size:=by
 rcases hk with hk | ⟨i,hi,hk⟩
 ·exact h.out.lt k hk
 ·exact hK.lt (h.inn i (by rw [← h.len]; exact hi)) k hk
theorem OwnN.alloc (hK : Kind I) (h : OwnN I w base eo v vs ll) (o : Obj) : OwnN I (w.alloc o) base eo v vs ll:=h.grown hK (grownBy_alloc _ _) (by simp)
theorem OwnN.below (hK : Kind I) (h : OwnN I w base eo v vs ll) (hb : Below w.heap.size w w') : OwnN I w' base eo v vs ll:=h.grown hK (grownBy_below hb) (by simp)
theorem OwnN.outAt (h : OwnN I w base eo v vs ll) {i : Nat} (hi : i < ll.length) (hg : w.grownBy w' (nth vs i).ownBlock) : Own (fun x : Value => x) w' base eo v vs:=by
 refine h.out.grown hg ?_
 cases hv : v.ownBlock with
 | none => exact .inl rfl
 | some k => exact .inr fun e => h.apart i hi k e.symm hv
theorem OwnN.put (hK : Kind I) {a : Option Addr} {n cap : Nat} (h : OwnN I w base eo (.slice a n cap) vs ll) {i : Nat} (hi : i < ll.length) {u : Value} {l : β} (hg : w.grownBy w' (nth vs i).ownBlock) (hu : I w' base u l)
  (hl : ∀ k,u.ownBlock = some k→(nth vs i).ownBlock = some k ∨ w.heap.size ≤ k) :
  OwnN I (w'.setCell ⟨blk a,ofs a + i,none⟩ u) base eo (.slice a n cap) (vs.set i u) (ll.set i l):=by
 have hvl : i < vs.length:=by rw [h.len]; exact hi
 have ho:=h.outAt hi hg
 have hob : (Value.slice a n cap).ownBlock = some (blk a):=by
  have hs:=ho.lst
  obtain ⟨a2,c2,he, -, -,h3⟩:=hs
  simp at he
  obtain ⟨rfl, -, -⟩:=he
  rw [(h3 i hvl).1]; rfl
 have hub : ∀ k,u.ownBlock = some k→k ≠ blk a:=by
  intro k hk e
  rcases hl k hk with h1 | h1
  ·exact h.apart i hi k h1 (by rw [hob,e])
  ·have:=(h.out.lt _ hob).2; omega
 have hjb : ∀ j,j < ll.length→∀ k,(nth vs j).ownBlock = some k→k ≠ blk a:=by
  intro j hj k hk e
  exact h.apart j hj k hk (by rw [hob,e])
 have hset:=grownBy_setCell w' ⟨blk a,ofs a + i,none⟩ u
 have hn : ∀ j,nth (vs.set i u) j = if i = j then u else nth vs j:=by
  intro j; rw [nth_set]; by_cases e : i = j
  ·rw [if_pos ⟨e,hvl⟩,if_pos e]
  ·rw [if_neg (by omega),if_neg e]
 have hn2 : ∀ j,nth (ll.set i l) j = if i = j then l else nth ll j:=by
  intro j; rw [nth_set]; by_cases e : i = j
  ·rw [if_pos ⟨e,hi⟩,if_pos e]
  ·rw [if_neg (by omega),if_neg e]
 refine ⟨ho.set i u,by simp [h.len],fun j hj => ?_,fun j m hj hm hne k hk => ?_,fun j hj k hk => ?_⟩
 ·simp at hj
  rw [hn,hn2]
  by_cases e : i = j
  ·rw [if_pos e,if_pos e]
   refine hK.grown hu hset ?_
   cases hv : u.ownBlock with
   | none => exact .inl rfl
   | some k => exact .inr fun e => hub k hv (by simpa using e)
  ·rw [if_neg e,if_neg e]
   refine hK.grown (hK.grown (h.inn j hj) hg ?_) hset ?_
   ·cases hv : (nth vs j).ownBlock with
    | none => exact .inl rfl
    | some k => exact .inr fun e2 => h.sep j i hj hi (Ne.symm e) k hv e2.symm
   ·cases hv : (nth vs j).ownBlock with
    | none => exact .inl rfl
    | some k => exact .inr fun e => hjb j hj k hv (by simpa using e)
 ·simp at hj hm
  rw [hn] at hk ⊢
  by_cases e1 : i = j
  ·rw [if_pos e1] at hk
   rw [if_neg (by omega)]
   intro hm2
   rcases hl k hk with h1 | h1
   ·exact h.sep m i hm hi (by omega) k hm2 h1
   ·have:=(hK.lt (h.inn m hm) k hm2).2; omega
  ·rw [if_neg e1] at hk
   by_cases e2 : i = m
   ·rw [if_pos e2]
    intro hm2
    rcases hl k hm2 with h1 | h1
    ·exact h.sep j i hj hi (by omega) k hk h1
    ·have:=(hK.lt (h.inn j hj) k hk).2; omega
   ·rw [if_neg e2]; exact h.sep j m hj hm hne k hk
 ·simp at hj
  rw [hn] at hk
  rw [hob]
  by_cases e : i = j
  ·rw [if_pos e] at hk
   intro e2; exact hub k hk (by simpa using e2.symm)
  ·rw [if_neg e] at hk
   intro e2; exact hjb j hj k hk (by simpa using e2.symm)
theorem OwnN.push (hK : Kind I) (h : OwnN I w base eo v vs ll) {v' u : Value} {l : β} (ho : Own (fun x : Value => x) w' base eo v' (vs ++ [u])) (hg : w.grownBy w' v.ownBlock)
  (hl : v'.ownBlock = v.ownBlock ∨ v'.ownBlock = some w.heap.size) (hu : I w base u l) (hs : ∀ k,u.ownBlock = some k→¬ Foot v vs k) : OwnN I w' base eo v' (vs ++ [u]) (ll ++ [l]):=by
 have hvl:=h.len
 have hn : ∀ j,j < ll.length→nth (vs ++ [u]) j = nth vs j:=fun j hj => by rw [nth_append,if_pos (by omega)]
 have hn0 : nth (vs ++ [u]) ll.length = u:=by rw [nth_append,if_neg (by omega),hvl,Nat.sub_self]; rfl
 have hn2 : ∀ j,j < ll.length→nth (ll ++ [l]) j = nth ll j:=fun j hj => by rw [nth_append,if_pos hj]
 have hn3 : nth (ll ++ [l]) ll.length = l:=by rw [nth_append,if_neg (by omega),Nat.sub_self]; rfl
 have hvb : ∀ x : Value,(∀ k,x.ownBlock = some k→v.ownBlock ≠ some k)→x.ownBlock = none ∨ x.ownBlock ≠ v.ownBlock:=by
  intro x hx
  cases hv : x.ownBlock with
  | none => exact .inl rfl
  | some k => exact .inr fun e => hx k hv e.symm
 have hap : ∀ k,u.ownBlock = some k→v.ownBlock ≠ some k:=fun k hk e => hs k hk (.inl e)
 refine ⟨ho,by simp [hvl],fun j hj => ?_,fun j m hj hm hne k hk => ?_,fun j hj k hk => ?_⟩
 ·simp at hj
  rcases Nat.lt_or_ge j ll.length with h1 | h1
  ·rw [hn j h1,hn2 j h1]
   exact hK.grown (h.inn j h1) hg (hvb _ (h.apart j h1))
  ·obtain rfl : j = ll.length:=by omega
   rw [hn0,hn3]
   exact hK.grown hu hg (hvb _ hap)
 ·simp at hj hm
  rcases Nat.lt_or_ge j ll.length with h1 | h1
  ·rw [hn j h1] at hk
   rcases Nat.lt_or_ge m ll.length with h2 | h2
   ·rw [hn m h2]; exact h.sep j m h1 h2 hne k hk
   ·obtain rfl : m = ll.length:=by omega
    rw [hn0]; intro e; exact hs k e (.inr ⟨j,by omega,hk⟩)
  ·obtain rfl : j = ll.length:=by omega
   rw [hn0] at hk
   rw [hn m (by omega)]
   intro e; exact hs k hk (.inr ⟨m,by omega,e⟩)
 ·simp at hj
  rcases Nat.lt_or_ge j ll.length with h1 | h1
  ·rw [hn j h1] at hk
   rcases hl with e | e
   ·rw [e]; exact h.apart j h1 k hk
   ·rw [e]; intro e2; have:=(hK.lt (h.inn j h1) k hk).2; simp at e2; omega
  ·obtain rfl : j = ll.length:=by omega
   rw [hn0] at hk
   rcases hl with e | e
   ·rw [e]; exact hap k hk
   ·rw [e]; intro e2; have:=(hK.lt hu k hk).2; simp at e2; omega
theorem OwnN.made {n : Nat} {d : β} (ho : Own (fun x : Value => x) w base eo v (List.replicate n (.slice none 0 0))) (hI : I w base (.slice none 0 0) d) : OwnN I w base eo v (List.replicate n (.slice none 0 0)) (List.replicate n d):=by
 have h1 : ∀ i,i < n→nth (List.replicate n (Value.slice none 0 0)) i = .slice none 0 0:=fun i hi => by simp [nth,hi]
 have h2 : ∀ i,i < n→nth (List.replicate n d) i = d:=fun i hi => by simp [nth,hi]
 refine ⟨ho,by simp,fun i hi => ?_,fun i j hi hj _ k hk => ?_,fun i hi k hk => ?_⟩
 ·simp at hi; rw [h1 i hi,h2 i hi]; exact hI
 ·simp at hi; rw [h1 i hi] at hk; simp [Value.ownBlock] at hk
 ·simp at hi; rw [h1 i hi] at hk; simp [Value.ownBlock] at hk
theorem OwnN.empty (w : World) (base : Nat) (eo : TypeId) : OwnN I w base eo (.slice none 0 0) [] [] :=
 ⟨Own.nil _ _ _ _,rfl,fun i hi => by simp at hi,fun i j hi => by simp at hi,fun i hi => by simp at hi⟩
end
def Grid {α : Type} [Inhabited α] (f : α→Value) (w : World) (v : Value) (vs : List Value) (ll : List (List α)) : Prop :=
 Lst (fun x : Value => x) w v vs∧vs.length = ll.length∧∀ i,i < ll.length→Lst f w (nth vs i) (nth ll i)
theorem Grid.below {α : Type} [Inhabited α] {f : α→Value} {w w' : World} {v : Value} {vs : List Value} {ll : List (List α)} (h : Grid f w v vs ll) (hb : Below w.heap.size w w') : Grid f w' v vs ll :=
 ⟨h.1.below hb,h.2.1,fun i hi => (h.2.2 i hi).below hb⟩
theorem Grid.qt {α : Type} [Inhabited α] {f : α→Value} {w w' : World} {v : Value} {vs : List Value} {ll : List (List α)} (h : Grid f w v vs ll) (hb : Qt w w') : Grid f w' v vs ll:=h.below (hb.below _)
theorem OwnN.grid {α : Type} [Inhabited α] {f : α→Value} {w : World} {base : Nat} {eo e : TypeId} {v : Value} {vs : List Value} {ll : List (List α)} (h : OwnN (fun w base v (l : List α) => Own f w base e v l) w base eo v vs ll) : Grid f w v vs ll :=
 ⟨h.out.lst,h.len,fun i hi => (h.inn i hi).lst⟩
theorem wp_append1at {α : Type} {f : α→Value} {P : Program} {t e : TypeId} {z : Value} {by8 : Nat} (ht : SliceOf P t e z 1 by8) (hz : z.cells.size = 1) (w : World) {ops : Array Oper} {rest : List Oper} {o : Oper} {a : Act} {Q : Exit→Act→World→Prop}
  (hg : o.guard = none) (s x : Operand) (hop : o.op = .call { callee:=.builtin .append,args:=#[s,x],argTypes:=#[t,t] })
  (base : Nat) (v : Value) (l : List α) (hs : a.eval s = v) (hown : Own f w base e v l) (y : α) (ad : Addr) (hx : a.eval x = .slice (some ad) 1 1) (hy : w.cell? ad = some (f y)) (h1 : (f y).oneCell' = true)
  (hlen : l.length < 17592186044416) (h8 : by8 ≤ 8) (hbase : base ≤ w.heap.size)
  (hK : ∀ v' w',Own f w' base e v' (l ++ [y])→w.grownBy w' v.ownBlock→(v'.ownBlock = v.ownBlock ∨ v'.ownBlock = some w.heap.size)→wpList P ops Q rest (a.put o.dst v') w') : wpList P ops Q (o :: rest) a w:=by
 obtain ⟨i,hi,hz0,hz1,hz2⟩:=ht.info
 refine wpList_append_own_at w hg s x t hop base e i z 1 by8 ht.und hi hz0 hz1 hz2 hz (by omega) v l.length (l.map f) hs hown ad 1 1 [f y] hx rfl ?_ (by simpa using h1) (by unfold maxLen; omega) ?_ hbase ?_
 ·intro j u hj
  cases j with
  | zero => simp at hj; subst hj; simpa [Addr.add] using hy
  | succ j => simp at hj
 ·exact Nat.le_trans (Nat.mul_le_mul (by omega : l.length + 1 ≤ 17592186044416) h8) (by omega)
 ·intro v' w' h2 h3 _ h4
  exact hK v' w' (by unfold Own; simpa using h2) h3 h4
end Go.Dfl
namespace Go.Dfl
open Go.RowKit
structure El (α : Type) where
 sz : Nat
 c : α→List Value
 len : ∀ x,(c x).length = sz
 one : ∀ x, ∀ v ∈ c x,v.oneCell' = true
 pos : 0 < sz
section
variable {α : Type} (E : El α)
theorem flat_len : ∀ (l : List α),(l.flatMap E.c).length = l.length * E.sz
 | [] => by simp
 | x :: l => by
   have:=flat_len l
   rw [List.flatMap_cons,List.length_append,E.len,this,List.length_cons,Nat.succ_mul]; omega
theorem flat_get [Inhabited α] : ∀ (l : List α) (i j : Nat),i < l.length→j < E.sz→(l.flatMap E.c)[i * E.sz + j]? = (E.c (nth l i))[j]?
 | [],i,j,h,_ => by simp at h
 | x :: l,0,j,_,hj => by
   rw [List.flatMap_cons,Nat.zero_mul,Nat.zero_add,List.getElem?_append_left (by rw [E.len]; exact hj)]; rfl
 | x :: l,i + 1,j,h,hj => by
   have:=flat_get l i j (by simpa using h) hj
   rw [List.flatMap_cons,List.getElem?_append_right (by rw [E.len,Nat.succ_mul]; omega),E.len]
   rw [show (i + 1) * E.sz + j - E.sz = i * E.sz + j by rw [Nat.succ_mul]; omega,this]
   rfl
def OwnE (w : World) (base : Nat) (e : TypeId) (v : Value) (l : List α) : Prop:=w.ownsRow base e E.sz v l.length (l.flatMap E.c)
variable {E}
variable {w w' : World} {base : Nat} {e : TypeId} {v : Value} {l : List α}
theorem OwnE.nil (E : El α) (w : World) (base : Nat) (e : TypeId) : OwnE E w base e (.slice none 0 0) []:=⟨by simp,.inl ⟨rfl,rfl⟩⟩
theorem OwnE.grown {row : Option Nat} (h : OwnE E w base e v l) (hg : w.grownBy w' row) (hne : v.ownBlock = none ∨ v.ownBlock ≠ row) : OwnE E w' base e v l:=World.ownsRow.kept h hg hne
theorem OwnE.lt (h : OwnE E w base e v l) : ∀ k,v.ownBlock = some k→base ≤ k∧k < w.heap.size:=World.ownsRow.lt h
theorem OwnE.shape (h : OwnE E w base e v l) {n : Nat} (hn : l.length = n) : ∃ s cap,v = .slice s n cap:=by
 subst hn
 obtain ⟨h1,⟨h2,h3⟩ | ⟨g,cap,cur,hv,r⟩⟩:=h
 ·exact ⟨none,0,by rw [h2,h3]⟩
 ·exact ⟨_,cap,hv⟩
theorem Kind.ownE (E : El α) (e : TypeId) : Kind (fun w base v (l : List α) => OwnE E w base e v l) :=
 ⟨fun h hg hne => OwnE.grown h hg hne,fun h => OwnE.lt h⟩
theorem OwnE.sliced [Inhabited α] (h : OwnE E w base e v l) : Sliced w v l.length E.sz fun i j => ((E.c (nth l i))[j]?).getD undef:=by
 obtain ⟨h1,⟨rfl,h2⟩ | ⟨g,cap,cur,rfl,hg,hh,hc,hm,hs,ht⟩⟩:=h
 ·exact ⟨none,0,by rw [h2],by omega,by unfold maxLen; omega,fun i hi => by omega⟩
 ·refine ⟨some ⟨g,0,none⟩,cap,rfl,hc,hm,fun i hi => ⟨rfl, ?_,fun j hj => ?_⟩⟩
  ·exact (Array.getElem?_eq_some_iff.1 hh).1
  ·have hlt : i * E.sz + j < l.length * E.sz:=by
    have:=Nat.mul_le_mul_right E.sz (Nat.succ_le_of_lt hi)
    rw [Nat.succ_mul] at this; omega
   have hx : cur.toList[i * E.sz + j]? = (E.c (nth l i))[j]?:=by
    rw [← flat_get E l i j hi hj, ← ht,List.getElem?_take,if_pos hlt]
   have hj2 : j < (E.c (nth l i)).length:=by rw [E.len]; exact hj
   rw [List.getElem?_eq_getElem hj2] at hx
   show w.cell? _ = some (((E.c (nth l i))[j]?).getD undef)
   rw [List.getElem?_eq_getElem hj2]
   simp [World.cell?,blk,ofs,hh]
   simpa using hx
theorem run_appendE {P : Program} {t : TypeId} {z : Value} {by8 : Nat} (ht : SliceOf P t e z E.sz by8) (hz : z.cells.size = E.sz) (hown : OwnE E w base e v l) (x : α) (B : Nat) (hB : ∀ j y,(E.c x)[j]? = some y→w.cell? ⟨B,j,none⟩ = some y)
  (hlen : (l.length + 1) * by8 ≤ 140737488355328) (hmax : l.length + 1 ≤ 1000000000000) (hbase : base ≤ w.heap.size) (ty : TypeId) :
  ∃ v' w',(Builtin.append_ #[t,t] ty #[v,.slice (some ⟨B,0,none⟩) 1 1]).run P w = .ok v' w'∧OwnE E w' base e v' (l ++ [x])∧w.grownBy w' v.ownBlock∧(v'.ownBlock = v.ownBlock ∨ v'.ownBlock = some w.heap.size):=by
 obtain ⟨i,hi,hz0,hz1,hz2⟩:=ht.info
 obtain ⟨v',w',hr,h2,h3, -,h5⟩:=run_append_own_at (P:=P) w base t ty e i z E.sz by8 ht.und hi hz0 hz1 hz2 hz E.pos v l.length (l.flatMap E.c) hown ⟨B,0,none⟩ 1 1 (E.c x) (by rw [E.len,Nat.one_mul]) (fun j y hj => by rw [add0]; exact hB j y hj) (E.one x) (by unfold maxLen; omega) hlen hbase
 exact ⟨v',w',hr,by unfold OwnE; simpa using h2,h3,h5⟩
theorem wp_appendE {P : Program} {t : TypeId} {z : Value} {by8 : Nat} (ht : SliceOf P t e z E.sz by8) (hz : z.cells.size = E.sz) {ops : Array Oper} {rest : List Oper} {o : Oper} {a : Act} {Q : Exit→Act→World→Prop}
  (hg : o.guard = none) (s u : Operand) (hop : o.op = .call { callee:=.builtin .append,args:=#[s,u],argTypes:=#[t,t] })
  (hs : a.eval s = v) (B : Nat) (hu : a.eval u = .slice (some ⟨B,0,none⟩) 1 1) (hown : OwnE E w base e v l) (x : α) (hB : ∀ j y,(E.c x)[j]? = some y→w.cell? ⟨B,j,none⟩ = some y)
  (hlen : (l.length + 1) * by8 ≤ 140737488355328) (hmax : l.length + 1 ≤ 1000000000000) (hbase : base ≤ w.heap.size)
  (hK : ∀ v' w',OwnE E w' base e v' (l ++ [x])→w.grownBy w' v.ownBlock→(v'.ownBlock = v.ownBlock ∨ v'.ownBlock = some w.heap.size)→wpList P ops Q rest (a.put o.dst v') w') : wpList P ops Q (o :: rest) a w:=by
 refine wpList_plain hg fun K hK' => ?_
 obtain ⟨v',w',hr,h2,h3,h4⟩:=run_appendE ht hz hown x B hB hlen hmax hbase o.type
 unfold Oper.wp execOp
 simp only [hop,resolve,invoke,builtin,Sem.run_bind,Sem.run_pure,Result.andThen_ok,List.map_toArray,List.map_cons,List.map_nil,hs,hu,hr]
 exact hK' _ _ (hK v' w' h2 h3 h4)
end
theorem cells_new {W : World} {cs : List Value} {t : TypeId} {B : Nat} (h : B = W.heap.size) : ∀ j y,cs[j]? = some y→(W.alloc (.cells cs.toArray t)).cell? ⟨B,j,none⟩ = some y:=by
 intro j y hj
 subst h
 unfold World.cell?
 rw [heap_alloc_new]
 simpa using hj
theorem Sliced.outN {w : World} {v : Value} {n s : Nat} {c : Nat→Nat→Value} (h : Sliced w v n s c) {P : Program} {t e : TypeId} {z : Value} {by8 : Nat} (ht : SliceOf P t e z s by8) (_hs : 0 < s) :
  ∃ a cap,v = .slice a n cap∧n ≤ 9223372036854775807 ∧
   (∀ (k : IntKind) (x : Int),0 ≤ x→x < n→∀ W,(Instr.indexAt t (.slice a n cap) (.int k x)).run P W = .ok (.pointer (some ⟨blk a,ofs a + x.toNat * s,none⟩)) W) ∧
   (∀ i,i < n→∀ j,j < s→w.cell? ⟨blk a,ofs a + i * s + j,none⟩ = some (c i j))∧(∀ j,j < n→blk a < w.heap.size):=by
 obtain ⟨a,cap,rfl,h1,h2,h3⟩:=h
 refine ⟨a,cap,rfl,by unfold maxLen at h2; omega, ?_,fun i hi j hj => (h3 i hi).2.2 j hj,fun j hj => (h3 j hj).2.1⟩
 intro k x h0 hl W
 exact run_indexAt_opt ht a n cap k x h0 hl (h3 x.toNat (by omega)).1 W
theorem OwnE.mono9 {α : Type} {E : El α} {w : World} {base base' : Nat} {e : TypeId} {v : Value} {l : List α} (h : OwnE E w base e v l) (hb : base' ≤ base) : OwnE E w base' e v l:=by
 obtain ⟨h1,h2 | ⟨g,cap,cur,hv,hg,r⟩⟩:=h
 ·exact ⟨h1,.inl h2⟩
 ·exact ⟨h1,.inr ⟨g,cap,cur,hv,Nat.le_trans hb hg,r⟩⟩
end Go.Dfl
namespace Go.Dfl
section
variable {P : Program} {ops : Array Oper} {Q : Exit→Act→World→Prop} {md : Region.Mode} {S : World→Prop} {n : Nat}
def wpAnyT (P : Program) (md : Region.Mode) (ops : Array Oper) (Q : Exit→Act→World→Prop) (S : World→Prop) (n : Nat) : Nat→Array Bool→Act→World→Prop
 | 0,listed,a,w => Region.ready md ops listed = []∧Q .normal a w
 | fuel + 1,listed,a,w =>
   (Region.ready md ops listed = []→Q .normal a w) ∧
   ∀ i ∈ Region.ready md ops listed,wpOp P ops Q i (fun a' w' => (i < n→S w')∧wpAnyT P md ops Q S n fuel (listed.setIfInBounds i true) a' w') a w
theorem wpAny_of_T : ∀ (fuel : Nat) (listed : Array Bool) (a : Act) (w : World),wpAnyT P md ops Q S n fuel listed a w→wpAny P md ops Q fuel listed a w
 | 0,_,_,_,h => h
 | fuel + 1,_,_,_,h => ⟨h.1,fun i hi => wpOp_mono (fun a' w' h' => wpAny_of_T fuel _ a' w' h'.2) (h.2 i hi)⟩
theorem wpAnyT_first {i : Nat} {oi : Oper} {v : Value} (hi : ops[i]? = some oi) (hsel : ∀ (j : Nat) (o : Oper) cs b,ops[j]? = some o→o.op ≠ .select cs b)
  (hQ : ∀ c a w,Q (.panic c) (a.put oi.dst v) w→Q (.panic c) a w)
  (hs : Region.sinkB md ops n = true) (hc : Region.chainB md ops n = true) (hn : n < ops.size) (hin : i < n) :
  ∀ (fuel : Nat) (listed : Array Bool) (a : Act) (w : World),HeadInv md ops n listed →
   (∀ j oj,ops[j]? = some oj→j ≠ i→listed.getD j true = false→(∀ e ∈ oj.after,Region.binds md e = true→e.on ≠ i)→oi.apart ops oj = true) →
   i ∈ Region.ready md ops listed→YieldsIf P ops S oi v a→S w →
   wpAnyT P md ops Q S n fuel (listed.setIfInBounds i true) (a.put oi.dst v) w→wpAnyT P md ops Q S n (fuel + 1) listed a w:=by
 intro fuel
 induction fuel with
 | zero =>
   intro listed a w _ _ hr hy hS H
   refine ⟨fun h => (by rw [h] at hr; cases hr),fun j hj => ?_⟩
   by_cases hji : j = i
   ·subst hji; exact hy.wpOp hi hS ⟨fun _ => hS,H⟩
   ·have:=ready_mono hj hji
    rw [H.1] at this
    cases this
 | succ fuel ih =>
   intro listed a w inv hfree hr hy hS H
   refine ⟨fun h => (by rw [h] at hr; cases hr),fun j hj => ?_⟩
   by_cases hji : j = i
   ·subst hji; exact hy.wpOp hi hS ⟨fun _ => hS,H⟩
   ·have hun:=(mem_ready.1 hr).1
    have hjn : j < n:=by
     rcases Nat.lt_or_ge j n with h | h
     ·exact h
     ·exact absurd hj (tail_waits hs hc hn inv _ i rfl hin hun j h)
    have h1:=H.2 j (ready_mono hj hji)
    obtain ⟨hjun,oj,hoj,hall⟩:=mem_ready.1 hj
    have hnot : ∀ e ∈ oj.after,Region.binds md e = true→e.on ≠ i:=fun e he hb heq => by
     have h1:=hall e he hb
     rw [heq,getD_both hun] at h1
     cases h1
    have h2:=wpOp_putIf hoj (hfree j oj hoj hji hjun hnot) (fun cs b => hsel i oi cs b hi) (fun cs b => hsel j oj cs b hoj) hQ hy h1
    have hfree' : ∀ k ok,ops[k]? = some ok→k ≠ i→(listed.setIfInBounds j true).getD k true = false →
      (∀ e ∈ ok.after,Region.binds md e = true→e.on ≠ i)→oi.apart ops ok = true:=fun k ok hk hki hun hno => by
     refine hfree k ok hk hki ?_ hno
     by_cases hjk : j = k
     ·subst hjk; exact hjun
     ·rw [getD_set_ne true hjk] at hun; exact hun
    refine wpOp_mono (fun a' w' h3 => ⟨h3.2.1,ih (listed.setIfInBounds j true) a' w' (inv.set hj hjn) hfree' (ready_mono hr (Ne.symm hji)) h3.1 (h3.2.1 hjn) ?_⟩) h2
    rw [Array.setIfInBounds_comm _ _ hji]
    exact h3.2.2
def wpHeads (P : Program) (ops : Array Oper) (S : World→Prop) (K : Act→Prop) : List Nat→Act→Prop
 | [],a => K a
 | i :: is,a => ∃ o,ops[i]? = some o∧∃ v,YieldsIf P ops S o v a∧wpHeads P ops S K is (a.put o.dst v)
theorem wpHeads_cons {K : Act→Prop} {i : Nat} {is : List Nat} {a : Act} {o : Oper} {v : Value} (ho : ops[i]? = some o) (hy : YieldsIf P ops S o v a) (h : wpHeads P ops S K is (a.put o.dst v)) : wpHeads P ops S K (i :: is) a :=
 ⟨o,ho,v,hy,h⟩
theorem wpHeads_nil {K : Act→Prop} {a : Act} (h : K a) : wpHeads P ops S K [] a:=h
def ThenQ (K : Act→World→Prop) (Q : Exit→Act→World→Prop) : Exit→Act→World→Prop
 | .normal,a,w => K a w
 | .panic _,_,_ => False
 | e,a,w => Q e a w
theorem thenQ_mk {K : Act→World→Prop} {a : Act} {w : World} (h : K a w) : ThenQ K Q .normal a w:=h
theorem tail_mk {S : World→Prop} {K : Act→World→Prop} {a : Act} {w : World} (h1 : S w) (h2 : K a w) : ThenQ (fun a w => S w∧K a w) Q .normal a w:=⟨h1,h2⟩
theorem K_gen {K : Act→World→Prop} {a : Act} {w : World} (p : World→Prop) (hw : p w) (h : ∀ W,p W→K a W) : K a w:=h w hw
def wpTails (P : Program) (ops : Array Oper) (S : World→Prop) (Q : Exit→Act→World→Prop) : List Nat→Act→World→Prop
 | [],a,w => Q .normal a w
 | t :: ts,a,w => ∃ o,ops[t]? = some o∧wpList P ops (ThenQ (fun a' w' => (ts ≠ []→S w')∧wpTails P ops S Q ts a' w') Q) [o] a w
theorem wpTails_cons {t t2 : Nat} {ts : List Nat} {a : Act} {w : World} {o : Oper} (ho : ops[t]? = some o) (h : wpList P ops (ThenQ (fun a' w' => S w'∧wpTails P ops S Q (t2 :: ts) a' w') Q) [o] a w) : wpTails P ops S Q (t :: t2 :: ts) a w:=by
 refine ⟨o,ho, ?_⟩
 have e : (fun (a' : Act) (w' : World) => ((t2 :: ts) ≠ []→S w')∧wpTails P ops S Q (t2 :: ts) a' w') = (fun a' w' => S w'∧wpTails P ops S Q (t2 :: ts) a' w'):=by
  funext a' w'; simp
 rw [e]; exact h
theorem wpTails_one {t : Nat} {a : Act} {w : World} {o : Oper} (ho : ops[t]? = some o) (h : wpList P ops (ThenQ (fun a' w' => Q .normal a' w') Q) [o] a w) : wpTails P ops S Q [t] a w:=by
 refine ⟨o,ho, ?_⟩
 have e : (fun (a' : Act) (w' : World) => (([] : List Nat) ≠ []→S w')∧wpTails P ops S Q [] a' w') = (fun a' w' => Q .normal a' w'):=by
  funext a' w'; simp [wpTails]
 rw [e]; exact h
theorem Oper.wp_monoQ {o : Oper} {a : Act} {w : World} {K : Act→World→Prop} {Q Q' : Exit→Act→World→Prop} (hp : ∀ c a w,Q (.panic c) a w→Q' (.panic c) a w) (hl : LetsOut Q→LetsOut Q')
  (hh : o.wp P a w K Q) : o.wp P a w K Q':=by
 unfold Oper.wp at *
 generalize (execOp a.eval o).run P w = r at *
 cases r with
 | ok n w' =>
   cases n <;> simp only [Oper.upon] at hh ⊢ <;>
    first
     | exact hh
     | exact Calls.mono hh (fun e w'' he => by cases e <;> first | exact he | exact hp _ _ _ he | exact hl he)
 | halt x w' => cases x <;> simp only [Oper.upon] at hh ⊢ <;> first | exact hh | exact hp _ _ _ hh
theorem wpOp_of_then {i : Nat} {o : Oper} {K : Act→World→Prop} {a : Act} {w : World} (ho : ops[i]? = some o) (h : wpList P ops (ThenQ K Q) [o] a w) : wpOp P ops (NoPanic Q) i K a w:=by
 unfold wpOp
 simp only [ho]
 unfold wpList at h
 have hl : LetsOut (ThenQ K Q)→LetsOut (NoPanic Q):=fun ⟨a,w,h⟩ => ⟨a,w,h⟩
 split
 ·rename_i hw
  rw [if_pos hw] at h
  rcases h with h | ⟨h1,h2⟩
  ·exact .inl (Oper.wp_monoQ (fun c a w h => by cases h) hl (Oper.wp_mono (fun a' w' h' => h') h))
  ·exact .inr ⟨h1,hl h2⟩
 ·rename_i hw
  rw [if_neg hw] at h
  exact h
def tailB (ops : Array Oper) : List Nat→Array Bool→Bool
 | [],listed => (Region.ready .any ops listed).isEmpty
 | t :: ts,listed => decide (Region.ready .any ops listed = [t]) && (!ts.isEmpty || decide (t + 1 = ops.size)) && tailB ops ts (listed.setIfInBounds t true)
def headB (ops : Array Oper) (ts : List Nat) : List Nat→Array Bool→Bool
 | [],listed => tailB ops ts listed
 | i :: is,listed => decide (i + 1 < ops.size) && (Region.ready .any ops listed).contains i && Region.free .any ops listed i && headB ops ts is (listed.setIfInBounds i true)
def mixB (ops : Array Oper) (hs ts : List Nat) : Bool :=
 Region.noSelect ops && decide (0 < ops.size) && Region.sinkB .any ops (ops.size - 1) && headB ops ts hs (Array.replicate ops.size false)
theorem wpAnyT_tails : ∀ (ts : List Nat) (listed : Array Bool) (a : Act) (w : World),tailB ops ts listed = true→wpTails P ops S Q ts a w →
  wpAnyT P .any ops (NoPanic Q) S (ops.size - 1) ts.length listed a w
 | [],listed,a,w,hB,h => ⟨by simpa [tailB] using hB,h⟩
 | t :: ts,listed,a,w,hB,h => by
   simp only [tailB,Bool.and_eq_true,decide_eq_true_eq] at hB
   obtain ⟨⟨hr,hl⟩,hB⟩:=hB
   obtain ⟨o,ho,h⟩:=h
   refine ⟨fun h0 => (by rw [hr] at h0; cases h0),fun i hi => ?_⟩
   rw [hr] at hi
   obtain rfl : i = t:=by simpa using hi
   refine wpOp_mono (fun a' w' h' => ⟨fun hlt => ?_,wpAnyT_tails ts _ a' w' hB h'.2⟩) (wpOp_of_then ho h)
   refine h'.1 fun e => ?_
   subst e
   simp at hl
   omega
theorem wpAnyT_heads {ts : List Nat} (hsel : Region.noSelect ops = true) (hs : Region.sinkB .any ops (ops.size - 1) = true) (hn : 0 < ops.size) : ∀ (is : List Nat) (listed : Array Bool) (a : Act) (w : World),HeadInv .any ops (ops.size - 1) listed →
  headB ops ts is listed = true→S w→wpHeads P ops S (fun a' => wpTails P ops S Q ts a' w) is a →
  wpAnyT P .any ops (NoPanic Q) S (ops.size - 1) (is.length + ts.length) listed a w
 | [],listed,a,w,_,hB,_,h => by
   rw [List.length_nil,Nat.zero_add]
   exact wpAnyT_tails ts listed a w hB h
 | i :: is,listed,a,w,inv,hB,hS,h => by
   simp only [headB,Bool.and_eq_true,decide_eq_true_eq] at hB
   obtain ⟨⟨⟨hi,hr⟩,hf⟩,hB⟩:=hB
   obtain ⟨o,ho,v,hy,h⟩:=h
   have hr' : i ∈ Region.ready .any ops listed:=by simpa using hr
   rw [List.length_cons,show is.length + 1 + ts.length = (is.length + ts.length) + 1 by omega]
   refine wpAnyT_first ho (Region.noSelect_spec hsel) (fun c a w h => h) hs ?_ (by omega) (by omega) _ listed a w inv (Region.free_spec ho hf) hr' hy hS (wpAnyT_heads hsel hs hn is _ _ w (inv.set hr' (by omega)) hB hS h)
   unfold Region.chainB
   rw [List.all_eq_true]
   intro t ht
   have:=List.mem_range.1 ht
   simp; omega
theorem wp_region_mix {id : Nat} {a : Act} {w : World} {l : List Oper} (hs ts : List Nat) (S : World→Prop) (hm : P.follows .mixedOrders = true) (hB : mixB l.toArray hs ts = true) (hl : hs.length + ts.length = l.length) (hS : S w.drew)
  (h : wpHeads P l.toArray S (fun a' => wpTails P l.toArray S Q ts a' w.drew) hs a) : (Code.region id l.toArray true).wp P Q a w:=by
 refine wp_region_noPanic (wp_region_any hm (wpAny_of_T (S:=S) (n:=l.toArray.size - 1) _ _ _ _ ?_))
 simp only [mixB,Bool.and_eq_true,decide_eq_true_eq] at hB
 obtain ⟨⟨⟨h1,h2⟩,h3⟩,h4⟩:=hB
 have inv0 : HeadInv .any l.toArray (l.toArray.size - 1) (Array.replicate l.toArray.size false) :=
  ⟨by simp,fun j oj _ hl => (by rw [getD_replicate_false] at hl; cases hl),fun t _ ht => getD_in (by simpa using ht) (getD_replicate_false _ _)⟩
 have:=wpAnyT_heads (P:=P) (Q:=Q) (S:=S) h1 h3 h2 hs _ a w.drew inv0 h4 hS h
 rw [hl] at this
 rw [show l.toArray.size = l.length by simp] at this ⊢
 exact this
def wpTailsH (P : Program) (ops : Array Oper) (S : World→Prop) (Q : Exit→Act→World→Prop) : List Nat→Act→World→Prop
 | [],a,w => Q .normal a w
 | t :: ts,a,w => ∃ o,ops[t]? = some o∧wpList P ops (ThenQ (fun a' w' => S w'∧wpTailsH P ops S Q ts a' w') Q) [o] a w
theorem wpTailsH_cons {t : Nat} {ts : List Nat} {a : Act} {w : World} {o : Oper} (ho : ops[t]? = some o) (h : wpList P ops (ThenQ (fun a' w' => S w'∧wpTailsH P ops S Q ts a' w') Q) [o] a w) : wpTailsH P ops S Q (t :: ts) a w:=⟨o,ho,h⟩
theorem wpTailsH_nil {a : Act} {w : World} (h : Q .normal a w) : wpTailsH P ops S Q [] a w:=h
def tailHB (ops : Array Oper) : List Nat→Array Bool→Bool
 | [],listed => (Region.ready .any ops listed).isEmpty
 | t :: ts,listed => decide (Region.ready .any ops listed = [t]) && tailHB ops ts (listed.setIfInBounds t true)
def headHB (ops : Array Oper) (ts : List Nat) : List Nat→Array Bool→Bool
 | [],listed => tailHB ops ts listed
 | i :: is,listed => (Region.ready .any ops listed).contains i && Region.free .any ops listed i && headHB ops ts is (listed.setIfInBounds i true)
def mixHB (ops : Array Oper) (hs ts : List Nat) : Bool:=Region.noSelect ops && headHB ops ts hs (Array.replicate ops.size false)
theorem wpAnyH_tails : ∀ (ts : List Nat) (listed : Array Bool) (a : Act) (w : World),tailHB ops ts listed = true→wpTailsH P ops S Q ts a w→wpAnyH P .any ops (NoPanic Q) S ts.length listed a w
 | [],listed,a,w,hB,h => ⟨by simpa [tailHB] using hB,h⟩
 | t :: ts,listed,a,w,hB,h => by
   simp only [tailHB,Bool.and_eq_true,decide_eq_true_eq] at hB
   obtain ⟨o,ho,h⟩:=h
   refine wpAnyH_all hB.1 (by simp) fun i hi => ?_
   obtain rfl : i = t:=by simpa using hi
   exact wpOp_mono (fun a' w' h' => ⟨h'.1,wpAnyH_tails ts _ a' w' hB.2 h'.2⟩) (wpOp_of_then ho h)
theorem wpAnyH_heads {ts : List Nat} (hsel : Region.noSelect ops = true) : ∀ (is : List Nat) (listed : Array Bool) (a : Act) (w : World),headHB ops ts is listed = true→S w→wpHeads P ops S (fun a' => wpTailsH P ops S Q ts a' w) is a →
  wpAnyH P .any ops (NoPanic Q) S (is.length + ts.length) listed a w
 | [],listed,a,w,hB,_,h => by
   rw [List.length_nil,Nat.zero_add]
   exact wpAnyH_tails ts listed a w hB h
 | i :: is,listed,a,w,hB,hS,h => by
   simp only [headHB,Bool.and_eq_true] at hB
   obtain ⟨⟨hr,hf⟩,hB⟩:=hB
   obtain ⟨o,ho,v,hy,h⟩:=h
   rw [List.length_cons,show is.length + 1 + ts.length = (is.length + ts.length) + 1 by omega]
   exact wpAnyH_take ho hsel hf hr (fun c a w h => h) hy hS (wpAnyH_heads hsel is _ _ w hB hS h)
theorem wp_region_mixH {id : Nat} {a : Act} {w : World} {l : List Oper} (hs ts : List Nat) (S : World→Prop) (hm : P.follows .mixedOrders = true) (hB : mixHB l.toArray hs ts = true) (hl : hs.length + ts.length = l.length) (hS : S w.drew)
  (h : wpHeads P l.toArray S (fun a' => wpTailsH P l.toArray S Q ts a' w.drew) hs a) : (Code.region id l.toArray true).wp P Q a w:=by
 refine wp_region_noPanic (wp_region_held (S:=S) hm ?_)
 simp only [mixHB,Bool.and_eq_true] at hB
 have:=wpAnyH_heads (P:=P) (Q:=Q) (S:=S) hB.1 hs _ a w.drew hB.2 hS h
 rw [hl] at this
 rw [show l.toArray.size = l.length by simp] at this ⊢
 exact this
end
end Go.Dfl
namespace Go.Dfl
structure Mk where
 i : Nat
 d : Nat
 s : Nat
 t : TypeId
 e : TypeId
 n : Nat
 z : Value
 size : Nat
 by8 : Nat
structure Mk.At (m : Mk) (P : Program) (ops : Array Oper) (a0 : Act) : Prop where
 of : SliceOf P m.t m.e m.z m.size m.by8
 op : ∃ o,ops[m.i]? = some o∧o.guard = none∧o.op = .makeSlice m.t (.tmp m.s) (.tmp m.s)∧o.dst = some m.d
 b1 : m.by8 * m.n ≤ 281474976710656
 b2 : m.n ≤ maxLen
 ev : a0.eval (.tmp m.s) = .int .i64 (m.n : Int)
def Mk.val (m : Mk) (b : Nat) : Value:=.slice (some ⟨b,0,none⟩) m.n m.n
def Mk.Is (m : Mk) (base : Nat) (w : World) (b : Nat) : Prop:=w.ownsRow base m.e m.size (m.val b) m.n (madeCells m.z.cells (m.n * m.size)).toList
def putAll (done : Nat→Option Nat) : List Mk→Act→Act
 | [],a => a
 | m :: ms,a => putAll done ms (match done m.i with | some b => a.put (some m.d) (m.val b) | none => a)
def lstAll (done : Nat→Option Nat) : List Mk→Array Bool→Array Bool
 | [],l => l
 | m :: ms,l => lstAll done ms (if (done m.i).isSome then l.setIfInBounds m.i true else l)
def undone (done : Nat→Option Nat) : List Mk→List Nat
 | [] => []
 | m :: ms => if (done m.i).isSome then undone done ms else m.i :: undone done ms
def makesB (ops : Array Oper) : List Nat→Array Bool→List Nat→Bool
 | [],listed,rem => rem.isEmpty || decide (Region.ready .any ops listed = rem)
 | i :: is,listed,rem => makesB ops is (listed.setIfInBounds i true) rem && makesB ops is listed (rem ++ [i])
theorem makesB_spec {ops : Array Oper} (done : Nat→Option Nat) : ∀ (ms : List Mk) (listed : Array Bool) (rem : List Nat),makesB ops (ms.map (·.i)) listed rem = true→rem ++ undone done ms ≠ []→Region.ready .any ops (lstAll done ms listed) = rem ++ undone done ms
 | [],listed,rem,h,hne => by
   simp only [List.map_nil,makesB,Bool.or_eq_true,List.isEmpty_iff,decide_eq_true_eq] at h
   simp only [undone,List.append_nil] at hne ⊢
   rcases h with h | h
   ·exact absurd h hne
   ·exact h
 | m :: ms,listed,rem,h,hne => by
   simp only [List.map_cons,makesB,Bool.and_eq_true] at h
   simp only [undone,lstAll] at hne ⊢
   cases hd : (done m.i).isSome with
   | true =>
     simp only [hd,if_true] at hne ⊢
     exact makesB_spec done ms _ rem h.1 hne
   | false =>
     simp only [hd] at hne ⊢
     have:=makesB_spec done ms listed (rem ++ [m.i]) h.2 (by simp)
     simpa using this
def setDone (done : Nat→Option Nat) (i b : Nat) : Nat→Option Nat:=fun j => if j = i then some b else done j
theorem lstAll_set (done : Nat→Option Nat) (i : Nat) : ∀ (ms : List Mk) (l : Array Bool),lstAll done ms (l.setIfInBounds i true) = (lstAll done ms l).setIfInBounds i true
 | [],l => rfl
 | m :: ms,l => by
   simp only [lstAll]
   split
   ·by_cases e : m.i = i
    ·subst e
     rw [← lstAll_set done m.i ms]
    ·rw [Array.setIfInBounds_comm _ _ (Ne.symm e),lstAll_set done i ms]
   ·exact lstAll_set done i ms l
theorem lstAll_other {done : Nat→Option Nat} {i b : Nat} : ∀ {ms : List Mk} (l : Array Bool),(∀ m ∈ ms,m.i ≠ i)→lstAll (setDone done i b) ms l = lstAll done ms l
 | [],l,_ => rfl
 | m :: ms,l,h => by
   have hm:=h m (by simp)
   simp only [lstAll,setDone,hm,if_false]
   exact lstAll_other _ fun x hx => h x (by simp [hx])
theorem lstAll_done {done : Nat→Option Nat} {i b : Nat} : ∀ {ms : List Mk} {l : Array Bool},(∃ m ∈ ms,m.i = i)→lstAll (setDone done i b) ms l = (lstAll done ms l).setIfInBounds i true
 | [],l,h => by obtain ⟨m,hm, -⟩:=h; cases hm
 | m :: ms,l,h => by
   simp only [lstAll]
   by_cases hms : ∃ m ∈ ms,m.i = i
   ·by_cases e : m.i = i
    ·subst e
     rw [lstAll_done hms]
     simp only [setDone,if_true,Option.isSome_some]
     rw [lstAll_set]
     split
     ·rw [lstAll_set]
     ·apply Array.ext (by simp); intro j h1 h2; simp
    ·rw [lstAll_done hms]
     simp only [setDone,e,if_false]
   ·obtain ⟨m',hm',e⟩:=h
    rcases List.mem_cons.1 hm' with rfl | hm'
    ·subst e
     rw [lstAll_other _ fun x hx e => hms ⟨x,hx,e⟩]
     simp only [setDone,if_true,Option.isSome_some]
     rw [lstAll_set]
     split
     ·rw [lstAll_set]; apply Array.ext (by simp); intro j h1 h2; simp
     ·rfl
    ·exact absurd ⟨m',hm',e⟩ hms
theorem put_comm (a : Act) {d d' : Nat} (h : d ≠ d') (v v' : Value) : (a.put (some d) v).put (some d') v' = (a.put (some d') v').put (some d) v:=by
 simp only [Act.put]
 rw [Array.setIfInBounds_comm _ _ h]
theorem putAll_put (done : Nat→Option Nat) (d : Nat) (v : Value) : ∀ (ms : List Mk) (a : Act),(∀ m ∈ ms,m.d ≠ d)→putAll done ms (a.put (some d) v) = (putAll done ms a).put (some d) v
 | [],a,_ => rfl
 | m :: ms,a,h => by
   simp only [putAll]
   cases done m.i with
   | none => exact putAll_put done d v ms a fun x hx => h x (by simp [hx])
   | some b =>
     simp only []
     rw [put_comm _ (Ne.symm (h m (by simp))),putAll_put done d v ms _ fun x hx => h x (by simp [hx])]
theorem putAll_other {done : Nat→Option Nat} {i b : Nat} : ∀ {ms : List Mk} (a : Act),(∀ m ∈ ms,m.i ≠ i)→putAll (setDone done i b) ms a = putAll done ms a
 | [],a,_ => rfl
 | m :: ms,a,h => by
   have hm:=h m (by simp)
   simp only [putAll,setDone,hm,if_false]
   exact putAll_other _ fun x hx => h x (by simp [hx])
theorem putAll_done {done : Nat→Option Nat} {b : Nat} {m : Mk} : ∀ {ms : List Mk} (a : Act),ms.Pairwise (fun x y => x.i ≠ y.i∧x.d ≠ y.d)→m ∈ ms→done m.i = none→putAll (setDone done m.i b) ms a = (putAll done ms a).put (some m.d) (m.val b)
 | [],a,_,hm,_ => by cases hm
 | x :: ms,a,hp,hm,hn => by
   rw [List.pairwise_cons] at hp
   by_cases e : x = m
   ·subst e
    simp only [putAll,hn]
    have h1 : setDone done x.i b x.i = some b:=by simp [setDone]
    rw [h1]
    simp only []
    rw [putAll_other _ fun y hy => Ne.symm (hp.1 y hy).1,putAll_put _ _ _ _ _ fun y hy => Ne.symm (hp.1 y hy).2]
   ·have hm' : m ∈ ms:=by
     rcases List.mem_cons.1 hm with h | h
     ·exact absurd h.symm e
     ·exact h
    have hne:=(hp.1 m hm').1
    simp only [putAll]
    have h1 : setDone done m.i b x.i = done x.i:=by simp [setDone,hne]
    rw [h1]
    exact putAll_done _ hp.2 hm' hn
theorem eval_putAll (done : Nat→Option Nat) (s : Nat) : ∀ (ms : List Mk) (a : Act),(∀ m ∈ ms,m.d ≠ s)→(putAll done ms a).eval (.tmp s) = a.eval (.tmp s)
 | [],a,_ => rfl
 | m :: ms,a,h => by
   simp only [putAll]
   rw [eval_putAll done s ms _ fun x hx => h x (by simp [hx])]
   cases done m.i with
   | none => rfl
   | some b =>
     have:=h m (by simp)
     simp [Act.put,Act.eval,Array.getD_eq_getD_getElem?,this]
theorem undone_mem {done : Nat→Option Nat} {i : Nat} : ∀ {ms : List Mk},i ∈ undone done ms→∃ m ∈ ms,m.i = i∧done i = none
 | [],h => by cases h
 | m :: ms,h => by
   simp only [undone] at h
   cases hd : done m.i with
   | some b =>
     simp only [hd,Option.isSome_some,if_true] at h
     obtain ⟨x,hx,e⟩:=undone_mem h
     exact ⟨x,by simp [hx],e⟩
   | none =>
     simp only [hd,Option.isSome_none] at h
     rcases List.mem_cons.1 h with rfl | h
     ·exact ⟨m,by simp,rfl,hd⟩
     ·obtain ⟨x,hx,e⟩:=undone_mem h
      exact ⟨x,by simp [hx],e⟩
theorem undone_nil {done : Nat→Option Nat} : ∀ {ms : List Mk},undone done ms = []→∀ m ∈ ms, ∃ b,done m.i = some b
 | [],_,m,hm => by cases hm
 | x :: ms,h,m,hm => by
   simp only [undone] at h
   cases hd : done x.i with
   | some b =>
     simp only [hd,Option.isSome_some,if_true] at h
     rcases List.mem_cons.1 hm with rfl | hm
     ·exact ⟨b,hd⟩
     ·exact undone_nil h m hm
   | none => simp [hd] at h
theorem undone_len {done : Nat→Option Nat} {b : Nat} {m : Mk} : ∀ {ms : List Mk},ms.Pairwise (fun x y => x.i ≠ y.i∧x.d ≠ y.d)→m ∈ ms→done m.i = none→(undone (setDone done m.i b) ms).length + 1 = (undone done ms).length
 | [],_,hm,_ => by cases hm
 | x :: ms,hp,hm,hn => by
   rw [List.pairwise_cons] at hp
   have hoth : ∀ (l : List Mk),(∀ y ∈ l,y.i ≠ m.i)→undone (setDone done m.i b) l = undone done l:=by
    intro l
    induction l with
    | nil => intro _; rfl
    | cons y l ih =>
      intro hl
      have hy:=hl y (by simp)
      simp only [undone,setDone,hy,if_false]
      rw [ih fun z hz => hl z (by simp [hz])]
   by_cases e : x = m
   ·subst e
    simp only [undone,hn,Option.isSome_none]
    have h1 : setDone done x.i b x.i = some b:=by simp [setDone]
    rw [h1,hoth ms fun y hy => Ne.symm (hp.1 y hy).1]
    simp
   ·have hm' : m ∈ ms:=by
     rcases List.mem_cons.1 hm with h | h
     ·exact absurd h.symm e
     ·exact h
    have hne:=(hp.1 m hm').1
    have h1 : setDone done m.i b x.i = done x.i:=by simp [setDone,hne]
    have ih:=undone_len (b:=b) hp.2 hm' hn
    simp only [undone,h1]
    split
    ·exact ih
    ·simp; omega
section
variable {P : Program} {ops : Array Oper} {Q : Exit→Act→World→Prop} {S : World→Prop}
structure MakesInv (ms : List Mk) (base : Nat) (w0 : World) (done : Nat→Option Nat) (w : World) : Prop where
 is : ∀ m ∈ ms, ∀ b,done m.i = some b→m.Is base w b∧w0.heap.size ≤ b∧b < w.heap.size
 apart : ∀ m ∈ ms, ∀ m' ∈ ms,m.i ≠ m'.i→∀ b,done m.i = some b→done m'.i ≠ some b
 grown : w0.grownBy w none
theorem makes_any {ms : List Mk} {listed : Array Bool} {a0 : Act} {w0 : World} {fuel : Nat} (base : Nat) (hbase : base ≤ w0.heap.size) (hms : ∀ m ∈ ms,m.At P ops a0) (hd : ms.Pairwise (fun x y => x.i ≠ y.i∧x.d ≠ y.d)) (hs : ∀ m ∈ ms, ∀ m' ∈ ms,m'.d ≠ m.s)
  (hB : makesB ops (ms.map (·.i)) listed [] = true) (hSk : ∀ w w',w.grownBy w' none→S w→S w')
  (K : ∀ done w',MakesInv ms base w0 done w'→(∀ m ∈ ms, ∃ b,done m.i = some b)→S w'→wpAnyH P .any ops (NoPanic Q) S fuel (lstAll done ms listed) (putAll done ms a0) w') :
  ∀ (n : Nat) (done : Nat→Option Nat) (w : World),(undone done ms).length = n→MakesInv ms base w0 done w→S w→wpAnyH P .any ops (NoPanic Q) S (n + fuel) (lstAll done ms listed) (putAll done ms a0) w:=by
 intro n
 induction n with
 | zero =>
   intro done w hn hI hS
   rw [Nat.zero_add]
   exact K done w hI (undone_nil (by simpa using hn)) hS
 | succ n ih =>
   intro done w hn hI hS
   have hne : undone done ms ≠ []:=fun e => by simp [e] at hn
   have hr:=makesB_spec done ms listed [] hB (by simpa using hne)
   rw [List.nil_append] at hr
   rw [show n + 1 + fuel = (n + fuel) + 1 by omega]
   refine wpAnyH_all hr hne fun i hi => ?_
   obtain ⟨m,hm,rfl,hnone⟩:=undone_mem hi
   obtain ⟨⟨hund,i0,hi0,hz0,hz1,hz2⟩,⟨o,ho,hg,hop,hdst⟩,hb1,hb2,hev⟩:=hms m hm
   refine wpOp_of_then ho ?_
   have hev2 : (putAll done ms a0).eval (.tmp m.s) = .int .i64 (m.n : Int):=by rw [eval_putAll _ _ _ _ fun x hx => hs m hm x hx]; exact hev
   refine wpList_make_full w hg (.tmp m.s) (.tmp m.s) m.t hop base m.e i0 m.z m.size hund hi0 hz0 hz1 .i64 .i64 m.n m.n m.n hev2 hev2 rfl rfl (by rw [hz2]; exact hb1) hb2 (Nat.le_trans hbase hI.grown.size) ?_
   intro w' how hgr
   have hS':=hSk _ _ hgr hS
   have hlt : w.heap.size < w'.heap.size:=by
    have:=(World.ownsRow.lt how w.heap.size rfl).2
    exact this
   have hI' : MakesInv ms base w0 (setDone done m.i w.heap.size) w':=by
    refine ⟨fun x hx b hb => ?_,fun x hx y hy hne b hb hb' => ?_,grownBy_trans hI.grown hgr⟩
    ·by_cases e : x.i = m.i
     ·have hxm : x = m:=by
       false_or_by_contra
       rename_i hne
       have : ∀ l : List Mk,l.Pairwise (fun x y => x.i ≠ y.i∧x.d ≠ y.d)→x ∈ l→m ∈ l→False:=by
        intro l
        induction l with
        | nil => intro _ h; cases h
        | cons z l ih =>
          intro hp h1 h2
          rw [List.pairwise_cons] at hp
          rcases List.mem_cons.1 h1 with rfl | h1
          ·rcases List.mem_cons.1 h2 with h2 | h2
           ·exact hne h2.symm
           ·exact (hp.1 m h2).1 e
          ·rcases List.mem_cons.1 h2 with h2 | h2
           ·subst h2; exact (hp.1 x ‹_›).1 e.symm
           ·exact ih hp.2 ‹_› h2
       exact this ms hd hx hm
      subst hxm
      simp [setDone] at hb
      subst hb
      exact ⟨how,hI.grown.size,hlt⟩
     ·simp [setDone,e] at hb
      obtain ⟨h1,h2,h3⟩:=hI.is x hx b hb
      exact ⟨World.ownsRow.kept h1 hgr (by right; simp [Mk.val,Value.ownBlock]),h2,Nat.lt_of_lt_of_le h3 hgr.size⟩
    ·by_cases e : x.i = m.i
     ·have e' : y.i ≠ m.i:=fun h => hne (e.trans h.symm)
      simp [setDone,e] at hb
      simp [setDone,e'] at hb'
      have:=(hI.is y hy b hb').2.2
      omega
     ·simp [setDone,e] at hb
      by_cases e' : y.i = m.i
      ·simp [setDone,e'] at hb'
       have:=(hI.is x hx b hb).2.2
       omega
      ·simp [setDone,e'] at hb'
       exact hI.apart x hx y hy hne b hb hb'
   have:=ih (setDone done m.i w.heap.size) w' (by have:=undone_len (b:=w.heap.size) hd hm hnone; omega) hI' hS'
   rw [lstAll_done ⟨m,hm,rfl⟩,putAll_done _ hd hm hnone] at this
   rw [hdst]
   exact ⟨hS',this⟩
def mkHB (ops : Array Oper) (ms ts : List Nat) : List Nat→Array Bool→Bool
 | [],listed => makesB ops ms listed [] && tailHB ops ts (ms.foldl (fun l i => l.setIfInBounds i true) listed)
 | i :: is,listed => (Region.ready .any ops listed).contains i && Region.free .any ops listed i && mkHB ops ms ts is (listed.setIfInBounds i true)
def makesHB (ops : Array Oper) (hs ms ts : List Nat) : Bool:=Region.noSelect ops && mkHB ops ms ts hs (Array.replicate ops.size false)
theorem lstAll_all {done : Nat→Option Nat} : ∀ {ms : List Mk} {l : Array Bool},(∀ m ∈ ms, ∃ b,done m.i = some b)→lstAll done ms l = (ms.map (·.i)).foldl (fun l i => l.setIfInBounds i true) l
 | [],l,_ => rfl
 | m :: ms,l,h => by
   obtain ⟨b,hb⟩:=h m (by simp)
   simp only [lstAll,hb,Option.isSome_some,if_true,List.map_cons,List.foldl_cons]
   exact lstAll_all fun x hx => h x (by simp [hx])
theorem putAll_map {done : Nat→Option Nat} : ∀ {ms : List Mk} {a : Act},(∀ m ∈ ms, ∃ b,done m.i = some b)→putAll done ms a = ms.foldl (fun a m => a.put (some m.d) (m.val ((done m.i).getD 0))) a
 | [],a,_ => rfl
 | m :: ms,a,h => by
   obtain ⟨b,hb⟩:=h m (by simp)
   simp only [putAll,hb,List.foldl_cons,Option.getD_some]
   exact putAll_map fun x hx => h x (by simp [hx])
structure MakesEnd (ms : List Mk) (base : Nat) (w0 : World) (bs : Nat→Nat) (w : World) : Prop where
 is : ∀ m ∈ ms,m.Is base w (bs m.i)∧w0.heap.size ≤ bs m.i∧bs m.i < w.heap.size
 apart : ∀ m ∈ ms, ∀ m' ∈ ms,m.i ≠ m'.i→bs m.i ≠ bs m'.i
 grown : w0.grownBy w none
theorem makes_heads {ms : List Mk} {ts : List Nat} {w0 : World} (base : Nat) (hbase : base ≤ w0.heap.size) (hd : ms.Pairwise (fun x y => x.i ≠ y.i∧x.d ≠ y.d)) (hs : ∀ m ∈ ms, ∀ m' ∈ ms,m'.d ≠ m.s) (hsel : Region.noSelect ops = true) (hSk : ∀ w w',w.grownBy w' none→S w→S w') : ∀ (is : List Nat) (listed : Array Bool) (a : Act),mkHB ops (ms.map (·.i)) ts is listed = true→S w0 →
  wpHeads P ops S (fun a' => (∀ m ∈ ms,m.At P ops a')∧∀ bs w',MakesEnd ms base w0 bs w'→S w'→wpTailsH P ops S Q ts (ms.foldl (fun a m => a.put (some m.d) (m.val (bs m.i))) a') w') is a →
  wpAnyH P .any ops (NoPanic Q) S (is.length + (ms.length + ts.length)) listed a w0
 | [],listed,a,hB,hS,h => by
   simp only [mkHB,Bool.and_eq_true] at hB
   rw [List.length_nil,Nat.zero_add]
   have hund : (undone (fun _ => none) ms).length = ms.length:=by
    clear h hB hd hs
    induction ms with
    | nil => rfl
    | cons m ms ih => simp [undone] at ih ⊢; exact ih
   have h0 : putAll (fun _ => none) ms a = a:=by
    clear h hB hd hs hund
    induction ms with
    | nil => rfl
    | cons m ms ih => simpa [putAll] using ih
   have h1 : lstAll (fun _ => none) ms listed = listed:=by
    clear h hB hd hs hund h0
    induction ms with
    | nil => rfl
    | cons m ms ih => simpa [lstAll] using ih
   have:=makes_any (P:=P) (ops:=ops) (Q:=Q) (S:=S) (ms:=ms) (listed:=listed) (a0:=a) (w0:=w0) (fuel:=ts.length) base hbase h.1 hd hs hB.1 hSk
    (fun done w' hI hall hS' => by
     rw [lstAll_all hall,putAll_map hall]
     refine wpAnyH_tails ts _ _ w' hB.2 (h.2 (fun i => (done i).getD 0) w' ⟨fun m hm => ?_,fun m hm m' hm' hne => ?_,hI.grown⟩ hS')
     ·obtain ⟨b,hb⟩:=hall m hm
      have:=hI.is m hm b hb
      simpa [hb] using this
     ·obtain ⟨b,hb⟩:=hall m hm
      obtain ⟨b',hb'⟩:=hall m' hm'
      have:=hI.apart m hm m' hm' hne b hb
      simp only [hb,hb',Option.getD_some]
      rintro rfl
      exact this hb')
    ms.length (fun _ => none) w0 hund ⟨fun m hm b (hb : (none : Option Nat) = some b) => (nomatch hb),fun m hm m' hm' _ b (hb : (none : Option Nat) = some b) => (nomatch hb),grownBy_refl _ _⟩ hS
   rwa [h0,h1] at this
 | i :: is,listed,a,hB,hS,h => by
   simp only [mkHB,Bool.and_eq_true] at hB
   obtain ⟨⟨hr,hf⟩,hB⟩:=hB
   obtain ⟨o,ho,v,hy,h⟩:=h
   rw [List.length_cons,show is.length + 1 + (ms.length + ts.length) = (is.length + (ms.length + ts.length)) + 1 by omega]
   exact wpAnyH_take ho hsel hf hr (fun c a w h => h) hy hS (makes_heads base hbase hd hs hsel hSk is _ _ hB hS h)
theorem wp_region_makes {id : Nat} {a : Act} {w : World} {l : List Oper} (hs : List Nat) (ms : List Mk) (ts : List Nat) (S : World→Prop) (base : Nat) (hbase : base ≤ w.heap.size) (hm : P.follows .mixedOrders = true) (hd : ms.Pairwise (fun x y => x.i ≠ y.i∧x.d ≠ y.d)) (hsd : ∀ m ∈ ms, ∀ m' ∈ ms,m'.d ≠ m.s)
  (hB : makesHB l.toArray hs (ms.map (·.i)) ts = true) (hl : hs.length + (ms.length + ts.length) = l.length) (hSk : ∀ w w',w.grownBy w' none→S w→S w') (hS : S w.drew)
  (h : wpHeads P l.toArray S (fun a' => (∀ m ∈ ms,m.At P l.toArray a')∧∀ bs w',MakesEnd ms base w.drew bs w'→S w'→wpTailsH P l.toArray S Q ts (ms.foldl (fun a m => a.put (some m.d) (m.val (bs m.i))) a') w') hs a) : (Code.region id l.toArray true).wp P Q a w:=by
 refine wp_region_noPanic (wp_region_held (S:=S) hm ?_)
 simp only [makesHB,Bool.and_eq_true] at hB
 have:=makes_heads (P:=P) (Q:=Q) (S:=S) (w0:=w.drew) base hbase hd hsd hB.1 hSk hs _ a hB.2 hS h
 rw [hl] at this
 rw [show l.toArray.size = l.length by simp] at this ⊢
 exact this
end
end Go.Dfl
namespace Go.Dfl
open Go.Maps
def SetM (P : Program) (k e : TypeId) (w : World) (b n : Nat) (l : List Value) : Prop :=
 ∃ D : DataW Unit,w.ownsMap P k (plainElem P e) b n D∧∀ key kl,keyOf P k key = some kl→∃ x,D.atKey kl (.lit (.bool false)) = .lit (.bool x)∧(x = true ↔ key ∈ l)
section
variable {P : Program} {k e t : TypeId} {w w' : World} {b n : Nat} {l : List Value}
theorem SetM.made (P : Program) (k e : TypeId) (w : World) {B : Nat} (hB : B = w.heap.size) : SetM P k e (w.alloc (.map #[] 0)) B 0 []:=by
 subst hB
 exact ⟨_,World.ownsMap_made w P k _,fun key kl _ => ⟨false,by simp [DataW.atKey],by simp⟩⟩
theorem SetM.kept {row : Option Nat} (h : SetM P k e w b n l) (hg : w.grownBy w' row) (hne : some b ≠ row) : SetM P k e w' b n l:=by
 obtain ⟨D,h1,h2⟩:=h
 exact ⟨D,h1.kept hg hne,h2⟩
theorem SetM.block {w' : World} (h : SetM P k e w b n l) (hb : w'.heap[b]? = w.heap[b]?) : SetM P k e w' b n l:=by
 obtain ⟨D,⟨es,clock,h0,h1⟩,h2⟩:=h
 exact ⟨D,⟨es,clock,hb.trans h0,h1⟩,h2⟩
theorem SetM.mono (h : SetM P k e w b n l) {n' : Nat} (hn : n ≤ n') : SetM P k e w b n' l:=by
 obtain ⟨D,h1,h2⟩:=h
 exact ⟨D,h1.mono hn,h2⟩
theorem SetM.lt (h : SetM P k e w b n l) : b < w.heap.size:=by obtain ⟨D,h1, -⟩:=h; exact h1.lt
theorem plainElem_bool_inv {H : Type} {P : Program} {e : TypeId} (he : P.underlying e = some .bool) {v : Value} {z : DataW H × List MemPlace} (h : plainElem P e v = some z) : ∃ a,v = .bool a∧z = (.lit (.bool a), []):=by
 unfold plainElem at h
 rw [he] at h
 cases v <;> simp at h
 subst h
 exact ⟨_,rfl,rfl⟩
theorem SetM.look (h : SetM P k e w b n l) (K : Keyed P k) (ht : P.underlying t = some (.map k e)) (he : P.underlying e = some .bool) (hz : (zeroValue e).run P w = .ok (.bool false) w) {key : Value} {kl : Lit} (hkey : keyOf P k key = some kl) :
  ∃ x,(Instr.lookup t (.map (some b)) key false).run P w = .ok (.bool x) w∧(x = true ↔ key ∈ l):=by
 obtain ⟨D,h1,h2⟩:=h
 obtain ⟨v,ps,hrun,hv⟩:=h1.lookup K ht hz (plainElem_bool he false) hkey
 obtain ⟨x,hx,hl⟩:=h2 key kl hkey
 obtain ⟨a,rfl,ha⟩:=plainElem_bool_inv he hv
 rw [hx] at ha
 simp only [Prod.mk.injEq,DataW.lit.injEq,Lit.bool.injEq] at ha
 exact ⟨a,hrun,by rw [← ha.1]; exact hl⟩
theorem SetM.put (h : SetM P k e w b n l) (K : Keyed P k) (ht : P.underlying t = some (.map k e)) (he : P.underlying e = some .bool) (hn : n < maxLen) {key : Value} {kl : Lit} (hkey : keyOf P k key = some kl) :
  ∃ w',(Instr.mapUpdate t (.map (some b)) key (.bool true)).run P w = .ok () w'∧SetM P k e w' b (n + 1) (key :: l)∧w.grownBy w' (some b):=by
 obtain ⟨D,h1,h2⟩:=h
 obtain ⟨w',hrun,how,hg⟩:=h1.update K ht hn hkey (plainElem_bool he true)
 refine ⟨w',hrun,⟨_,how,fun key' kl' hk' => ?_⟩,hg⟩
 by_cases ek : kl' = kl
 ·subst ek
  obtain rfl:=K.inj hk' hkey
  exact ⟨true,atKey_put_same h1.isMap (K.key hkey) _ _,by simp⟩
 ·obtain ⟨x,hx,hl⟩:=h2 key' kl' hk'
  refine ⟨x,by rw [atKey_put_other ek]; exact hx, ?_⟩
  have : key' ≠ key:=fun e' => ek (by rw [e',hkey] at hk'; simpa using hk'.symm)
  simp [this,hl]
theorem wp_mapPut {ops : Array Oper} {rest : List Oper} {o : Oper} {a : Act} {Q : Exit→Act→World→Prop} (h : SetM P k e w b n l) (hg : o.guard = none) (m x v : Operand) (hop : o.op = Op.mapUpdate t m x v) (K : Keyed P k) (ht : P.underlying t = some (.map k e)) (he : P.underlying e = some .bool)
  (hm : a.eval m = .map (some b)) (hv : a.eval v = .bool true) (hn : n < maxLen) (key : Value) (kl : Lit) (hx : a.eval x = key) (hkey : keyOf P k key = some kl)
  (hK : ∀ w',SetM P k e w' b (n + 1) (key :: l)→w.grownBy w' (some b)→wpList P ops Q rest (a.put o.dst undef) w') : wpList P ops Q (o :: rest) a w:=by
 refine wpList_plain hg fun K' hK' => ?_
 obtain ⟨w',hrun,r1,r2⟩:=h.put K ht he hn hkey
 unfold Oper.wp
 simp [execOp,hop,hm,hx,hv,hrun,Result.andThen]
 exact hK' _ _ (hK w' r1 r2)
end
end Go.Dfl
namespace Go.Dfl
section
variable {P : Program} {ops : Array Oper} {Q : Exit→Act→World→Prop} {S : World→Prop}
end
end Go.Dfl
end
section
namespace Go.And
structure C where
 k : Nat
 a : Nat
 b : Nat
 f : Nat
 s : List Nat
structure Syst where
 vars : Nat
 sites : Nat
 fields : Nat
 cons : List C
def Syst.cell (S : Syst) (y f : Nat) : Nat:=S.vars + y * S.fields + f
def Syst.N (S : Syst) : Nat:=S.vars + S.sites * S.fields
structure C.Ok (S : Syst) (c : C) : Prop where
 kind : 1 ≤ c.k∧c.k ≤ 5
 a : if c.k = 1 then c.a < S.sites else c.a < S.vars
 b : c.b < S.vars
 f : (c.k = 3 ∨ c.k = 4)→c.f < S.fields
 f0 : c.k ≠ 3→c.k ≠ 4→c.f = 0
 s : ∀ x ∈ c.s,x < S.sites
 s0 : c.k ≠ 5→c.s = []
def Syst.Ok (S : Syst) : Prop:=∀ c ∈ S.cons,c.Ok S
theorem Syst.cell_lt {S : Syst} {y f : Nat} (hy : y < S.sites) (hf : f < S.fields) : S.cell y f < S.N:=by
 unfold Syst.cell Syst.N
 have : y * S.fields + S.fields ≤ S.sites * S.fields:=by
  have:=Nat.mul_le_mul_right S.fields (Nat.succ_le_of_lt hy)
  rwa [Nat.succ_mul] at this
 omega
def Holds (S : Syst) (p : Nat→Nat→Prop) (c : C) : Prop :=
 (c.k = 1→p c.b c.a)∧(c.k = 2→∀ x,p c.a x→p c.b x)∧(c.k = 3→∀ y,p c.a y→∀ x,p (S.cell y c.f) x→p c.b x) ∧
 (c.k = 4→∀ y,p c.b y→∀ x,p c.a x→p (S.cell y c.f) x)∧(c.k = 5→∀ x,p c.a x→x ∈ c.s→p c.b x)
def Shut (S : Syst) (p : Nat→Nat→Prop) : Prop:=∀ c ∈ S.cons,Holds S p c
def Pts (S : Syst) (i x : Nat) : Prop:=∀ p,Shut S p→p i x
theorem Pts.least {S : Syst} {p : Nat→Nat→Prop} (h : Shut S p) {i x : Nat} (hx : Pts S i x) : p i x:=hx p h
theorem pts_shut (S : Syst) : Shut S (Pts S):=fun c hc =>
 ⟨fun hk _ hp => (hp c hc).1 hk,fun hk x hx p hp => (hp c hc).2.1 hk x (hx p hp),fun hk y hy x hx p hp => (hp c hc).2.2.1 hk y (hy p hp) x (hx p hp),
  fun hk y hy x hx p hp => (hp c hc).2.2.2.1 hk y (hy p hp) x (hx p hp),fun hk x hx hs p hp => (hp c hc).2.2.2.2 hk x (hx p hp) hs⟩
theorem pts_bound {S : Syst} (hS : S.Ok) {i x : Nat} (h : Pts S i x) : i < S.N∧x < S.sites:=by
 have hv : ∀ j,j < S.vars→j < S.N:=fun j hj => by unfold Syst.N; omega
 refine h (fun i x => i < S.N∧x < S.sites) fun c hc => ?_
 have ok:=hS c hc
 refine ⟨fun hk => ⟨hv _ ok.b, ?_⟩,fun hk x hx => ⟨hv _ ok.b,hx.2⟩,fun hk y hy x hx => ⟨hv _ ok.b,hx.2⟩,fun hk y hy x hx => ⟨Syst.cell_lt hy.2 (ok.f (.inr hk)),hx.2⟩,fun hk x hx _ => ⟨hv _ ok.b,hx.2⟩⟩
 have:=ok.a; rwa [if_pos hk] at this
structure St where
 p : Nat→Nat→Bool
 f : Nat→Nat→Bool
 cp : Nat→List Nat
 pt : Nat→List (Nat × (Nat→Bool))
 ld : Nat→List C
 sr : Nat→List C
 q : Nat→Bool
 todo : List Nat
def upd {α : Type} (g : Nat→α) (i : Nat) (v : α) : Nat→α:=fun j => if j = i then v else g j
theorem upd_same {α : Type} (g : Nat→α) (i : Nat) (v : α) : upd g i v i = v:=by simp [upd]
theorem upd_other {α : Type} (g : Nat→α) (i : Nat) (v : α) {j : Nat} (h : j ≠ i) : upd g i v j = g j:=by simp [upd,h]
def Put (i : Nat) (s : Nat→Bool) (a b : St) : Prop :=
 ((∀ x,s x = true→a.p i x = true)∧b = a) ∨
 ((∃ x,s x = true∧a.p i x = false)∧b = { a with p:=upd a.p i (fun x => a.p i x || (s x && !a.p i x)),f:=upd a.f i (fun x => a.f i x || (s x && !a.p i x)),q:=upd a.q i true,todo:=if a.q i = true then a.todo else a.todo ++ [i] })
def Join (i t : Nat) (a b : St) : Prop:=Put t (a.p i) { a with cp:=upd a.cp i (a.cp i ++ [t]) } b
structure Inv (S : Syst) (done : List C) (st : St) (gc gp gl : Nat→Nat→Prop) (pend : List Nat) : Prop where
 fsub : ∀ i x,st.f i x = true→st.p i x = true
 snd : ∀ i x,st.p i x = true→Pts S i x
 cpS : ∀ i t,t ∈ st.cp i→i < S.N∧t < S.N∧∀ x,Pts S i x→Pts S t x
 cpC : ∀ i t,t ∈ st.cp i→∀ x,st.p i x = true→st.f i x = false→¬ gc i x→st.p t x = true
 ptS : ∀ i e,e ∈ st.pt i→i < S.vars∧e.1 < S.vars∧∀ x,Pts S i x→e.2 x = true→Pts S e.1 x
 ptC : ∀ i e,e ∈ st.pt i→∀ x,st.p i x = true→st.f i x = false→¬ gp i x→e.2 x = true→st.p e.1 x = true
 ldS : ∀ i c,c ∈ st.ld i→c ∈ S.cons∧c.k = 3∧c.a = i
 ldC : ∀ i c,c ∈ st.ld i→∀ y,st.p i y = true→st.f i y = false→¬ gl i y→c.b ∈ st.cp (S.cell y c.f)
 srS : ∀ i c,c ∈ st.sr i→c ∈ S.cons∧c.k = 4∧c.b = i
 srC : ∀ i c,c ∈ st.sr i→∀ y,st.p i y = true→st.f i y = false→¬ gl i y→S.cell y c.f ∈ st.cp c.a
 reg : ∀ c ∈ done,(c.k = 1→st.p c.b c.a = true)∧(c.k = 2→c.b ∈ st.cp c.a)∧(c.k = 3→∃ d ∈ st.ld c.a,d.b = c.b∧d.f = c.f)∧(c.k = 4→∃ d ∈ st.sr c.b,d.a = c.a∧d.f = c.f)∧(c.k = 5→∃ e ∈ st.pt c.a,e.1 = c.b∧∀ x,x ∈ c.s→e.2 x = true)
 qf : ∀ i x,st.f i x = true→st.q i = true
 qt : ∀ i,st.q i = true ↔ i ∈ st.todo ++ pend
 nd : (st.todo ++ pend).Nodup
 lt : ∀ i ∈ st.todo ++ pend,i < S.N
theorem Put.le {i : Nat} {s : Nat→Bool} {a b : St} (h : Put i s a b) : (∀ j x,a.p j x = true→b.p j x = true)∧(∀ x,s x = true→b.p i x = true)∧b.cp = a.cp∧b.pt = a.pt∧b.ld = a.ld∧b.sr = a.sr:=by
 rcases h with ⟨h1,rfl⟩ | ⟨-,rfl⟩
 ·exact ⟨fun _ _ h => h,h1,rfl,rfl,rfl,rfl⟩
 ·refine ⟨fun j x hj => ?_,fun x hx => ?_,rfl,rfl,rfl,rfl⟩
  ·by_cases e : j = i
   ·subst e; simp [upd,hj]
   ·simp [upd,e,hj]
  ·simp only [upd_same]; cases a.p i x <;> simp [hx]
theorem Put.new {i : Nat} {s : Nat→Bool} {a b : St} (h : Put i s a b) (j x : Nat) (hp : b.p j x = true) (hf : b.f j x = false) : a.p j x = true∧a.f j x = false:=by
 rcases h with ⟨-,rfl⟩ | ⟨-,rfl⟩
 ·exact ⟨hp,hf⟩
 ·by_cases e : j = i
  ·subst e
   simp only [upd_same] at hp hf
   cases h1 : a.p j x <;> cases h2 : a.f j x <;> cases h3 : s x <;> simp [h1,h2,h3] at hp hf ⊢
  ·simp only [upd_other _ _ _ e] at hp hf; exact ⟨hp,hf⟩
theorem Put.other {i j : Nat} {s : Nat→Bool} {a b : St} (h : Put i s a b) (hj : j ≠ i) : b.p j = a.p j:=by
 rcases h with ⟨-,rfl⟩ | ⟨-,rfl⟩
 ·rfl
 ·exact upd_other _ _ _ hj
theorem Inv.put {S : Syst} {done : List C} {a b : St} {gc gp gl : Nat→Nat→Prop} {pend : List Nat} (h : Inv S done a gc gp gl pend) {i : Nat} {s : Nat→Bool} (hi : i < S.N) (hs : ∀ x,s x = true→Pts S i x) (hp : Put i s a b) : Inv S done b gc gp gl pend:=by
 obtain ⟨l1,l2,l3,l4,l5,l6⟩:=hp.le
 have hn:=hp.new
 have key : (∀ j x,b.f j x = true→b.p j x = true)∧(∀ j x,b.p j x = true→Pts S j x)∧(∀ j x,b.f j x = true→b.q j = true)∧(∀ j,b.q j = true ↔ j ∈ b.todo ++ pend)∧(b.todo ++ pend).Nodup∧∀ j ∈ b.todo ++ pend,j < S.N:=by
  rcases hp with ⟨-,rfl⟩ | ⟨-,rfl⟩
  ·exact ⟨h.fsub,h.snd,h.qf,h.qt,h.nd,h.lt⟩
  ·have hmem : ∀ j,j ∈ (if a.q i = true then a.todo else a.todo ++ [i]) ++ pend ↔ (j ∈ a.todo ++ pend ∨ j = i):=by
    intro j
    by_cases e : a.q i = true
    ·rw [if_pos e]
     constructor
     ·exact .inl
     ·rintro (h1 | rfl)
      ·exact h1
      ·exact (h.qt j).1 e
    ·rw [if_neg e]
     simp only [List.mem_append,List.mem_singleton]
     constructor
     ·rintro ((h1 | h1) | h1)
      ·exact .inl (.inl h1)
      ·exact .inr h1
      ·exact .inl (.inr h1)
     ·rintro ((h1 | h1) | h1)
      ·exact .inl (.inl h1)
      ·exact .inr h1
      ·exact .inl (.inr h1)
   refine ⟨fun j x hf => ?_,fun j x hx => ?_,fun j x hf => ?_,fun j => ?_, ?_,fun j hj => ?_⟩
   ·by_cases e : j = i
    ·subst e
     simp only [upd_same] at hf ⊢
     cases h1 : a.p j x
     ·simp only [h1,Bool.not_false,Bool.and_true,Bool.false_or] at hf ⊢
      cases h2 : a.f j x
      ·simpa [h2] using hf
      ·have:=h.fsub j x h2; rw [h1] at this; cases this
     ·simp
    ·simp only [upd_other _ _ _ e] at hf ⊢; exact h.fsub j x hf
   ·by_cases e : j = i
    ·subst e
     simp only [upd_same] at hx
     cases h1 : a.p j x
     ·simp only [h1,Bool.not_false,Bool.and_true,Bool.false_or] at hx; exact hs x hx
     ·exact h.snd j x h1
    ·simp only [upd_other _ _ _ e] at hx; exact h.snd j x hx
   ·by_cases e : j = i
    ·subst e; simp [upd]
    ·simp only [upd_other _ _ _ e] at hf ⊢; exact h.qf j x hf
   ·rw [hmem]
    by_cases e : j = i
    ·subst e; simp [upd]
    ·simp only [upd_other _ _ _ e,e,or_false]; exact h.qt j
   ·show ((if a.q i = true then a.todo else a.todo ++ [i]) ++ pend).Nodup
    by_cases e : a.q i = true
    ·rw [if_pos e]; exact h.nd
    ·rw [if_neg e]
     have hni : i ∉ a.todo ++ pend:=fun hm => e ((h.qt i).2 hm)
     have hd:=h.nd
     rw [List.nodup_append] at hd ⊢
     simp only [List.mem_append,not_or] at hni
     refine ⟨?_,hd.2.1, ?_⟩
     ·rw [List.nodup_append]
      exact ⟨hd.1,by simp,fun x hx y hy => by simp at hy; subst hy; rintro rfl; exact hni.1 hx⟩
     ·intro x hx y hy
      rcases List.mem_append.1 hx with h1 | h1
      ·exact hd.2.2 x h1 y hy
      ·simp at h1; subst h1; rintro rfl; exact hni.2 hy
   ·rcases (hmem j).1 hj with h1 | rfl
    ·exact h.lt j h1
    ·exact hi
 obtain ⟨k1,k2,k3,k4,k5,k6⟩:=key
 refine ⟨k1,k2,fun j t ht => h.cpS j t (by rwa [l3] at ht),fun j t ht x hx hf hg => ?_,fun j e he => h.ptS j e (by rwa [l4] at he),fun j e he x hx hf hg hex => ?_,fun j c hc => h.ldS j c (by rwa [l5] at hc),fun j c hc y hy hf hg => ?_,fun j c hc => h.srS j c (by rwa [l6] at hc),fun j c hc y hy hf hg => ?_,fun c hc => ?_,k3,k4,k5,k6⟩
 ·obtain ⟨q1,q2⟩:=hn j x hx hf
  exact l1 _ _ (h.cpC j t (by rwa [l3] at ht) x q1 q2 hg)
 ·obtain ⟨q1,q2⟩:=hn j x hx hf
  exact l1 _ _ (h.ptC j e (by rwa [l4] at he) x q1 q2 hg hex)
 ·obtain ⟨q1,q2⟩:=hn j y hy hf
  rw [l3]; exact h.ldC j c (by rwa [l5] at hc) y q1 q2 hg
 ·obtain ⟨q1,q2⟩:=hn j y hy hf
  rw [l3]; exact h.srC j c (by rwa [l6] at hc) y q1 q2 hg
 ·obtain ⟨r1,r2,r3,r4,r5⟩:=h.reg c hc
  exact ⟨fun hk => l1 _ _ (r1 hk),fun hk => by rw [l3]; exact r2 hk,fun hk => by rw [l5]; exact r3 hk,fun hk => by rw [l6]; exact r4 hk,fun hk => by rw [l4]; exact r5 hk⟩
end Go.And
namespace Go.And
def No : Nat→Nat→Prop:=fun _ _ => False
section
variable {S : Syst} {done : List C} {a b : St} {gc gp gl : Nat→Nat→Prop} {pend : List Nat}
theorem Inv.edge (h : Inv S done a gc gp gl pend) {i t : Nat} (hi : i < S.N) (ht : t < S.N) (hs : ∀ x,Pts S i x→Pts S t x) (hp : ∀ x,a.p i x = true→a.p t x = true) :
  Inv S done { a with cp:=upd a.cp i (a.cp i ++ [t]) } gc gp gl pend:=by
 have hm : ∀ j u,u ∈ upd a.cp i (a.cp i ++ [t]) j ↔ (u ∈ a.cp j ∨ (j = i∧u = t)):=by
  intro j u
  by_cases e : j = i
  ·subst e; simp [upd]
  ·simp [upd,e]
 refine ⟨h.fsub,h.snd,fun j u hu => ?_,fun j u hu x hx hf hg => ?_,h.ptS,h.ptC,h.ldS,fun j c hc y hy hf hg => (hm _ _).2 (.inl (h.ldC j c hc y hy hf hg)),h.srS,fun j c hc y hy hf hg => (hm _ _).2 (.inl (h.srC j c hc y hy hf hg)),fun c hc => ?_,h.qf,h.qt,h.nd,h.lt⟩
 ·rcases (hm j u).1 hu with h1 | ⟨rfl,rfl⟩
  ·exact h.cpS j u h1
  ·exact ⟨hi,ht,hs⟩
 ·rcases (hm j u).1 hu with h1 | ⟨rfl,rfl⟩
  ·exact h.cpC j u h1 x hx hf hg
  ·exact hp x hx
 ·obtain ⟨r1,r2,r3,r4,r5⟩:=h.reg c hc
  exact ⟨r1,fun hk => (hm _ _).2 (.inl (r2 hk)),r3,r4,r5⟩
theorem Join.parts {i t : Nat} (h : Join i t a b) : ∃ m,Put t (a.p i) a m∧b = { m with cp:=upd m.cp i (m.cp i ++ [t]) }:=by
 rcases h with ⟨h1,rfl⟩ | ⟨h1,rfl⟩
 ·exact ⟨a,.inl ⟨h1,rfl⟩,rfl⟩
 ·exact ⟨_,.inr ⟨h1,rfl⟩,rfl⟩
theorem Inv.join (h : Inv S done a gc gp gl pend) {i t : Nat} (hi : i < S.N) (ht : t < S.N) (hs : ∀ x,Pts S i x→Pts S t x) (hj : Join i t a b) : Inv S done b gc gp gl pend:=by
 obtain ⟨m,hm,rfl⟩:=hj.parts
 have h1:=h.put ht (fun x hx => hs x (h.snd i x hx)) hm
 refine h1.edge hi ht hs fun x hx => ?_
 by_cases e : i = t
 ·subst e; exact hx
 ·rw [hm.other e] at hx; exact hm.le.2.1 x hx
theorem Join.le {i t : Nat} (h : Join i t a b) : (∀ j x,a.p j x = true→b.p j x = true)∧(∀ j u,u ∈ a.cp j→u ∈ b.cp j)∧t ∈ b.cp i∧b.pt = a.pt∧b.ld = a.ld∧b.sr = a.sr:=by
 obtain ⟨m,hm,rfl⟩:=h.parts
 obtain ⟨l1, -,l3,l4,l5,l6⟩:=hm.le
 refine ⟨l1,fun j u hu => ?_,by simp [upd],l4,l5,l6⟩
 by_cases e : j = i
 ·subst e; simp [upd,l3,hu]
 ·simp [upd,e,l3,hu]
theorem Join.new {i t : Nat} (h : Join i t a b) (j x : Nat) (hp : b.p j x = true) (hf : b.f j x = false) : a.p j x = true∧a.f j x = false:=by
 obtain ⟨m,hm,rfl⟩:=h.parts
 exact hm.new j x hp hf
theorem Join.reg {i t : Nat} (h : Join i t a b) (l s : Nat→List C) : Join i t { a with ld:=l,sr:=s } { b with ld:=l,sr:=s }:=by
 rcases h with ⟨h1,rfl⟩ | ⟨h1,rfl⟩
 ·exact .inl ⟨h1,rfl⟩
 ·exact .inr ⟨h1,rfl⟩
def Joins : List (Nat × Nat)→St→St→Prop
 | [],a,b => b = a
 | e :: r,a,b => ∃ m,Join e.1 e.2 a m∧Joins r m b
def Puts : List (Nat × (Nat→Bool))→St→St→Prop
 | [],a,b => b = a
 | e :: r,a,b => ∃ m,Put e.1 e.2 a m∧Puts r m b
theorem Joins.snoc : ∀ {l : List (Nat × Nat)} {e : Nat × Nat} {a m b : St},Joins l a m→Join e.1 e.2 m b→Joins (l ++ [e]) a b
 | [],e,a,m,b,h,hj => by cases h; exact ⟨b,hj,rfl⟩
 | x :: l,e,a,m,b,⟨m',h1,h2⟩,hj => ⟨m',h1,Joins.snoc h2 hj⟩
theorem Puts.snoc : ∀ {l : List (Nat × (Nat→Bool))} {e : Nat × (Nat→Bool)} {a m b : St},Puts l a m→Put e.1 e.2 m b→Puts (l ++ [e]) a b
 | [],e,a,m,b,h,hj => by cases h; exact ⟨b,hj,rfl⟩
 | x :: l,e,a,m,b,⟨m',h1,h2⟩,hj => ⟨m',h1,Puts.snoc h2 hj⟩
theorem Joins.le : ∀ {l : List (Nat × Nat)} {a b : St},Joins l a b→(∀ j x,a.p j x = true→b.p j x = true)∧(∀ j u,u ∈ a.cp j→u ∈ b.cp j)∧(∀ e ∈ l,e.2 ∈ b.cp e.1)∧b.pt = a.pt∧b.ld = a.ld∧b.sr = a.sr
 | [],a,b,h => by cases h; exact ⟨fun _ _ h => h,fun _ _ h => h,fun e he => (by cases he),rfl,rfl,rfl⟩
 | e :: l,a,b,⟨m,h1,h2⟩ => by
   obtain ⟨a1,a2,a3,a4,a5,a6⟩:=h1.le
   obtain ⟨b1,b2,b3,b4,b5,b6⟩:=Joins.le h2
   refine ⟨fun j x h => b1 j x (a1 j x h),fun j u h => b2 j u (a2 j u h),fun d hd => ?_,b4.trans a4,b5.trans a5,b6.trans a6⟩
   rcases List.mem_cons.1 hd with rfl | hd
   ·exact b2 _ _ a3
   ·exact b3 d hd
theorem Joins.new : ∀ {l : List (Nat × Nat)} {a b : St},Joins l a b→∀ j x,b.p j x = true→b.f j x = false→a.p j x = true∧a.f j x = false
 | [],a,b,h,j,x,h1,h2 => by cases h; exact ⟨h1,h2⟩
 | e :: l,a,b,⟨m,h1,h2⟩,j,x,hp,hf => by
   obtain ⟨q1,q2⟩:=Joins.new h2 j x hp hf
   exact h1.new j x q1 q2
theorem Joins.reg : ∀ {l : List (Nat × Nat)} {a b : St},Joins l a b→∀ (u s : Nat→List C),Joins l { a with ld:=u,sr:=s } { b with ld:=u,sr:=s }
 | [],a,b,h,u,s => by cases h; rfl
 | e :: l,a,b,⟨m,h1,h2⟩,u,s => ⟨_,h1.reg u s,Joins.reg h2 u s⟩
theorem Inv.joins : ∀ {l : List (Nat × Nat)} {a b : St},Inv S done a gc gp gl pend→(∀ e ∈ l,e.1 < S.N∧e.2 < S.N∧∀ x,Pts S e.1 x→Pts S e.2 x)→Joins l a b→Inv S done b gc gp gl pend
 | [],a,b,h,_,hj => by cases hj; exact h
 | e :: l,a,b,h,hl,⟨m,h1,h2⟩ => by
   obtain ⟨q1,q2,q3⟩:=hl e (by simp)
   exact Inv.joins (h.join q1 q2 q3 h1) (fun d hd => hl d (by simp [hd])) h2
theorem Puts.le : ∀ {l : List (Nat × (Nat→Bool))} {a b : St},Puts l a b→(∀ j x,a.p j x = true→b.p j x = true)∧(∀ e ∈ l, ∀ x,e.2 x = true→b.p e.1 x = true)∧b.cp = a.cp∧b.pt = a.pt∧b.ld = a.ld∧b.sr = a.sr
 | [],a,b,h => by cases h; exact ⟨fun _ _ h => h,fun e he => (by cases he),rfl,rfl,rfl,rfl⟩
 | e :: l,a,b,⟨m,h1,h2⟩ => by
   obtain ⟨a1,a2,a3,a4,a5,a6⟩:=h1.le
   obtain ⟨b1,b2,b3,b4,b5,b6⟩:=Puts.le h2
   refine ⟨fun j x h => b1 j x (a1 j x h),fun d hd x hx => ?_,b3.trans a3,b4.trans a4,b5.trans a5,b6.trans a6⟩
   rcases List.mem_cons.1 hd with rfl | hd
   ·exact b1 _ _ (a2 x hx)
   ·exact b2 d hd x hx
theorem Inv.puts : ∀ {l : List (Nat × (Nat→Bool))} {a b : St},Inv S done a gc gp gl pend→(∀ e ∈ l,e.1 < S.N∧∀ x,e.2 x = true→Pts S e.1 x)→Puts l a b→Inv S done b gc gp gl pend
 | [],a,b,h,_,hj => by cases hj; exact h
 | e :: l,a,b,h,hl,⟨m,h1,h2⟩ => by
   obtain ⟨q1,q2⟩:=hl e (by simp)
   exact Inv.puts (h.put q1 q2 h1) (fun d hd => hl d (by simp [hd])) h2
theorem Inv.start (S : Syst) : Inv S [] ⟨fun _ _ => false,fun _ _ => false,fun _ => [],fun _ => [],fun _ => [],fun _ => [],fun _ => false, []⟩ No No No []:=by
 refine ⟨?_, ?_, ?_, ?_, ?_, ?_, ?_, ?_, ?_, ?_, ?_, ?_, ?_, ?_, ?_⟩ <;> simp
theorem Inv.regs (h : Inv S done a gc gp gl pend) {c : C} (hr : (c.k = 1→a.p c.b c.a = true)∧(c.k = 2→c.b ∈ a.cp c.a)∧(c.k = 3→∃ d ∈ a.ld c.a,d.b = c.b∧d.f = c.f)∧(c.k = 4→∃ d ∈ a.sr c.b,d.a = c.a∧d.f = c.f)∧(c.k = 5→∃ e ∈ a.pt c.a,e.1 = c.b∧∀ x,x ∈ c.s→e.2 x = true)) :
  Inv S (done ++ [c]) a gc gp gl pend :=
 ⟨h.fsub,h.snd,h.cpS,h.cpC,h.ptS,h.ptC,h.ldS,h.ldC,h.srS,h.srC,fun d hd => by
  rcases List.mem_append.1 hd with h1 | h1
  ·exact h.reg d h1
  ·simp at h1; subst h1; exact hr,h.qf,h.qt,h.nd,h.lt⟩
theorem Inv.again (h : Inv S done a gc gp gl pend) {c d : C} (hd : d ∈ done) (hk : c.k = d.k) (ha : c.a = d.a) (hb : c.b = d.b) (hf : c.f = d.f) (h5 : c.k ≠ 5) : Inv S (done ++ [c]) a gc gp gl pend:=by
 obtain ⟨r1,r2,r3,r4,r5⟩:=h.reg d hd
 refine h.regs ⟨fun k => ?_,fun k => ?_,fun k => ?_,fun k => ?_,fun k => absurd k h5⟩
 ·rw [ha,hb]; exact r1 (by omega)
 ·rw [ha,hb]; exact r2 (by omega)
 ·rw [ha,hb,hf]; exact r3 (by omega)
 ·rw [ha,hb,hf]; exact r4 (by omega)
theorem vN {i : Nat} (h : i < S.vars) : i < S.N:=by unfold Syst.N; omega
theorem Inv.addr (h : Inv S done a gc gp gl pend) (hS : S.Ok) {c : C} (hc : c ∈ S.cons) (hk : c.k = 1) {s : Nat→Bool} (hs : ∀ x,s x = true ↔ x = c.a) (hp : Put c.b s a b) : Inv S (done ++ [c]) b gc gp gl pend:=by
 refine (h.put (vN (hS c hc).b) (fun x hx => ?_) hp).regs ⟨fun _ => hp.le.2.1 _ ((hs _).2 rfl),fun k => by omega,fun k => by omega,fun k => by omega,fun k => by omega⟩
 rw [hs] at hx; subst hx; exact (pts_shut S c hc).1 hk
theorem Inv.copy (h : Inv S done a gc gp gl pend) (hS : S.Ok) {c : C} (hc : c ∈ S.cons) (hk : c.k = 2) (hj : Join c.a c.b a b) : Inv S (done ++ [c]) b gc gp gl pend:=by
 have ok:=hS c hc
 have ha:=ok.a
 rw [if_neg (by omega)] at ha
 exact (h.join (vN ha) (vN ok.b) ((pts_shut S c hc).2.1 hk) hj).regs ⟨fun k => by omega,fun _ => hj.le.2.2.1,fun k => by omega,fun k => by omega,fun k => by omega⟩
theorem Inv.load (h : Inv S done a gc gp gl pend) (hS : S.Ok) {c : C} (hc : c ∈ S.cons) (hk : c.k = 3) {L : List Nat} (hL : ∀ y,a.p c.a y = true→y ∈ L) (hL2 : ∀ y ∈ L,a.p c.a y = true)
  (hj : Joins (L.map fun y => (S.cell y c.f,c.b)) { a with ld:=upd a.ld c.a (a.ld c.a ++ [c]) } b) : Inv S (done ++ [c]) b gc gp gl pend:=by
 have ok:=hS c hc
 have hj2:=hj.reg a.ld a.sr
 have e1 : ({ { a with ld:=upd a.ld c.a (a.ld c.a ++ [c]) } with ld:=a.ld,sr:=a.sr } : St) = a:=rfl
 rw [e1] at hj2
 have hsys : ∀ y,Pts S c.a y→∀ x,Pts S (S.cell y c.f) x→Pts S c.b x:=(pts_shut S c hc).2.2.1 hk
 have h1:=h.joins (fun e he => by
  obtain ⟨y,hy,rfl⟩:=List.mem_map.1 he
  have hp:=h.snd _ _ (hL2 y hy)
  exact ⟨Syst.cell_lt (pts_bound hS hp).2 (ok.f (.inl hk)),vN ok.b,hsys y hp⟩) hj2
 obtain ⟨l1,l2,l3,l4,l5,l6⟩:=hj2.le
 have hn:=hj2.new
 have hld : b.ld = upd a.ld c.a (a.ld c.a ++ [c]):=hj.le.2.2.2.2.1
 have hm : ∀ j d,d ∈ b.ld j ↔ (d ∈ a.ld j ∨ (j = c.a∧d = c)):=by
  intro j d
  rw [hld]
  by_cases e : j = c.a
  ·subst e; simp [upd]
  ·simp [upd,e]
 have hsr : b.sr = a.sr:=hj.le.2.2.2.2.2
 have h2 : Inv S done b gc gp gl pend:=by
  refine ⟨h1.fsub,h1.snd,h1.cpS,h1.cpC,h1.ptS,h1.ptC,fun j d hd => ?_,fun j d hd y hy hf hg => ?_,fun j d hd => h.srS j d (by rwa [hsr] at hd),fun j d hd y hy hf hg => h1.srC j d (by rw [hsr] at hd; exact hd) y hy hf hg,fun d hd => ?_,h1.qf,h1.qt,h1.nd,h1.lt⟩
  ·rcases (hm j d).1 hd with q | ⟨rfl,rfl⟩
   ·exact h.ldS j d q
   ·exact ⟨hc,hk,rfl⟩
  ·rcases (hm j d).1 hd with q | ⟨rfl,rfl⟩
   ·exact h1.ldC j d q y hy hf hg
   ·have:=hn d.a y hy hf
    exact l3 _ (List.mem_map.2 ⟨y,hL y this.1,rfl⟩)
  ·obtain ⟨r1,r2,r3,r4,r5⟩:=h1.reg d hd
   refine ⟨r1,r2,fun k => ?_,fun k => by rw [hsr]; exact r4 k,r5⟩
   obtain ⟨e,he,he2⟩:=r3 k
   exact ⟨e,(hm _ _).2 (.inl he),he2⟩
 exact h2.regs ⟨fun k => by omega,fun k => by omega,fun _ => ⟨c,(hm _ _).2 (.inr ⟨rfl,rfl⟩),rfl,rfl⟩,fun k => by omega,fun k => by omega⟩
theorem Inv.store (h : Inv S done a gc gp gl pend) (hS : S.Ok) {c : C} (hc : c ∈ S.cons) (hk : c.k = 4) {L : List Nat} (hL : ∀ y,a.p c.b y = true→y ∈ L) (hL2 : ∀ y ∈ L,a.p c.b y = true)
  (hj : Joins (L.map fun y => (c.a,S.cell y c.f)) { a with sr:=upd a.sr c.b (a.sr c.b ++ [c]) } b) : Inv S (done ++ [c]) b gc gp gl pend:=by
 have ok:=hS c hc
 have ha:=ok.a
 rw [if_neg (by omega)] at ha
 have hj2:=hj.reg a.ld a.sr
 have e1 : ({ { a with sr:=upd a.sr c.b (a.sr c.b ++ [c]) } with ld:=a.ld,sr:=a.sr } : St) = a:=rfl
 rw [e1] at hj2
 have hsys : ∀ y,Pts S c.b y→∀ x,Pts S c.a x→Pts S (S.cell y c.f) x:=(pts_shut S c hc).2.2.2.1 hk
 have h1:=h.joins (fun e he => by
  obtain ⟨y,hy,rfl⟩:=List.mem_map.1 he
  have hp:=h.snd _ _ (hL2 y hy)
  exact ⟨vN ha,Syst.cell_lt (pts_bound hS hp).2 (ok.f (.inr hk)),hsys y hp⟩) hj2
 obtain ⟨l1,l2,l3,l4,l5,l6⟩:=hj2.le
 have hn:=hj2.new
 have hsr : b.sr = upd a.sr c.b (a.sr c.b ++ [c]):=hj.le.2.2.2.2.2
 have hm : ∀ j d,d ∈ b.sr j ↔ (d ∈ a.sr j ∨ (j = c.b∧d = c)):=by
  intro j d
  rw [hsr]
  by_cases e : j = c.b
  ·subst e; simp [upd]
  ·simp [upd,e]
 have hld : b.ld = a.ld:=hj.le.2.2.2.2.1
 have h2 : Inv S done b gc gp gl pend:=by
  refine ⟨h1.fsub,h1.snd,h1.cpS,h1.cpC,h1.ptS,h1.ptC,fun j d hd => h.ldS j d (by rwa [hld] at hd),fun j d hd y hy hf hg => h1.ldC j d (by rw [hld] at hd; exact hd) y hy hf hg,fun j d hd => ?_,fun j d hd y hy hf hg => ?_,fun d hd => ?_,h1.qf,h1.qt,h1.nd,h1.lt⟩
  ·rcases (hm j d).1 hd with q | ⟨rfl,rfl⟩
   ·exact h.srS j d q
   ·exact ⟨hc,hk,rfl⟩
  ·rcases (hm j d).1 hd with q | ⟨rfl,rfl⟩
   ·exact h1.srC j d q y hy hf hg
   ·have:=hn d.b y hy hf
    exact l3 _ (List.mem_map.2 ⟨y,hL y this.1,rfl⟩)
  ·obtain ⟨r1,r2,r3,r4,r5⟩:=h1.reg d hd
   refine ⟨r1,r2,fun k => by rw [hld]; exact r3 k,fun k => ?_,r5⟩
   obtain ⟨e,he,he2⟩:=r4 k
   exact ⟨e,(hm _ _).2 (.inl he),he2⟩
 exact h2.regs ⟨fun k => by omega,fun k => by omega,fun k => by omega,fun _ => ⟨c,(hm _ _).2 (.inr ⟨rfl,rfl⟩),rfl,rfl⟩,fun k => by omega⟩
theorem Inv.filter (h : Inv S done a gc gp gl pend) (hS : S.Ok) {c : C} (hc : c ∈ S.cons) (hk : c.k = 5) {s : Nat→Bool} (hs : ∀ x,s x = true ↔ x ∈ c.s)
  (hp : Put c.b (fun x => a.p c.a x && s x) { a with pt:=upd a.pt c.a (a.pt c.a ++ [(c.b,s)]) } b) : Inv S (done ++ [c]) b gc gp gl pend:=by
 have ok:=hS c hc
 have ha:=ok.a
 rw [if_neg (by omega)] at ha
 obtain ⟨m,hm,rfl⟩ : ∃ m,Put c.b (fun x => a.p c.a x && s x) a m∧b = { m with pt:=upd m.pt c.a (m.pt c.a ++ [(c.b,s)]) }:=by
  rcases hp with ⟨h1,rfl⟩ | ⟨h1,rfl⟩
  ·exact ⟨a,.inl ⟨h1,rfl⟩,rfl⟩
  ·exact ⟨_,.inr ⟨h1,rfl⟩,rfl⟩
 have hsys : ∀ x,Pts S c.a x→x ∈ c.s→Pts S c.b x:=(pts_shut S c hc).2.2.2.2 hk
 have h1:=h.put (vN ok.b) (fun x hx => by
  simp only [Bool.and_eq_true] at hx
  exact hsys x (h.snd _ _ hx.1) ((hs x).1 hx.2)) hm
 have hmm : ∀ j e,e ∈ upd m.pt c.a (m.pt c.a ++ [(c.b,s)]) j ↔ (e ∈ m.pt j ∨ (j = c.a∧e = (c.b,s))):=by
  intro j e
  by_cases q : j = c.a
  ·subst q; simp [upd]
  ·simp [upd,q]
 have h2 : Inv S done { m with pt:=upd m.pt c.a (m.pt c.a ++ [(c.b,s)]) } gc gp gl pend:=by
  refine ⟨h1.fsub,h1.snd,h1.cpS,h1.cpC,fun j e he => ?_,fun j e he x hx hf hg hex => ?_,h1.ldS,h1.ldC,h1.srS,h1.srC,fun d hd => ?_,h1.qf,h1.qt,h1.nd,h1.lt⟩
  ·rcases (hmm j e).1 he with q | ⟨rfl,rfl⟩
   ·exact h1.ptS j e q
   ·exact ⟨ha,ok.b,fun x hx hsx => hsys x hx ((hs x).1 hsx)⟩
  ·rcases (hmm j e).1 he with q | ⟨rfl,rfl⟩
   ·exact h1.ptC j e q x hx hf hg hex
   ·have:=(hm.new c.a x hx hf).1
    exact hm.le.2.1 x (by simp [this]; exact hex)
  ·obtain ⟨r1,r2,r3,r4,r5⟩:=h1.reg d hd
   refine ⟨r1,r2,r3,r4,fun k => ?_⟩
   obtain ⟨e,he,he2⟩:=r5 k
   exact ⟨e,(hmm _ _).2 (.inl he),he2⟩
 exact h2.regs ⟨fun k => by omega,fun k => by omega,fun k => by omega,fun k => by omega,fun _ => ⟨(c.b,s),(hmm _ _).2 (.inr ⟨rfl,rfl⟩),rfl,fun x hx => (hs x).2 hx⟩⟩
end
end Go.And
namespace Go.And
def Visit (S : Syst) (node : Nat) (L : List Nat) (a b : St) : Prop :=
 ∃ m1,Puts ((a.cp node).map fun t => (t,a.f node)) { a with f:=upd a.f node (fun _ => false),q:=upd a.q node false } m1 ∧
  ((S.vars ≤ node∧b = m1) ∨ (node < S.vars∧∃ m2,Puts ((a.pt node).map fun e => (e.1,fun x => a.f node x && e.2 x)) m1 m2 ∧
    Joins (L.flatMap fun y => ((a.ld node).map fun c => (S.cell y c.f,c.b)) ++ ((a.sr node).map fun c => (c.a,S.cell y c.f))) m2 b))
section
variable {S : Syst} {done : List C} {a b : St} {pend : List Nat}
theorem Inv.visit {node : Nat} {L : List Nat} (h : Inv S done a No No No (node :: pend)) (hS : S.Ok) (hL : ∀ y,a.f node y = true ↔ y ∈ L) (hV : Visit S node L a b) : Inv S done b No No No pend:=by
 obtain ⟨m1,hp1,hrest⟩:=hV
 have g : ∀ i x : Nat,(i = node∧a.f node x = true) ∨ ¬ (i = node∧a.f node x = true):=fun i x => Classical.em _
 have hnN : node < S.N:=h.lt node (by simp)
 have hnot : node ∉ a.todo ++ pend:=by
  have:=h.nd
  rw [List.nodup_append,List.nodup_cons] at this
  intro hm
  rcases List.mem_append.1 hm with h1 | h1
  ·exact this.2.2 node h1 node (by simp) rfl
  ·exact this.2.1.1 h1
 have h0 : Inv S done { a with f:=upd a.f node (fun _ => false),q:=upd a.q node false } (fun i x => i = node∧a.f node x = true) (fun i x => i = node∧a.f node x = true) (fun i x => i = node∧a.f node x = true) pend:=by
  have hf : ∀ i x,upd a.f node (fun _ => false) i x = false→¬ (i = node∧a.f node x = true)→a.f i x = false:=by
   intro i x h1 h2
   by_cases e : i = node
   ·subst e
    cases hx : a.f i x
    ·rfl
    ·exact absurd ⟨rfl,hx⟩ h2
   ·rwa [upd_other _ _ _ e] at h1
  refine ⟨fun i x hx => ?_,h.snd,h.cpS,fun i t ht x hx h1 h2 => h.cpC i t ht x hx (hf i x h1 h2) (fun k => k),h.ptS,fun i e he x hx h1 h2 => h.ptC i e he x hx (hf i x h1 h2) (fun k => k),h.ldS,
   fun i c hc y hy h1 h2 => h.ldC i c hc y hy (hf i y h1 h2) (fun k => k),h.srS,fun i c hc y hy h1 h2 => h.srC i c hc y hy (hf i y h1 h2) (fun k => k),h.reg,fun i x hx => ?_,fun i => ?_, ?_,fun i hi => h.lt i ?_⟩
  ·by_cases e : i = node
   ·subst e; simp [upd] at hx
   ·simp only [upd_other _ _ _ e] at hx; exact h.fsub i x hx
  ·by_cases e : i = node
   ·subst e; simp [upd] at hx
   ·simp only [upd_other _ _ _ e] at hx ⊢; exact h.qf i x hx
  ·by_cases e : i = node
   ·subst e; simp only [upd_same]; constructor
    ·intro k; cases k
    ·intro k; exact absurd k hnot
   ·simp only [upd_other _ _ _ e]
    rw [h.qt i]
    simp [e]
  ·have:=h.nd
   rw [List.nodup_append,List.nodup_cons] at this
   rw [List.nodup_append]
   exact ⟨this.1,this.2.1.2,fun x hx y hy => this.2.2 x hx y (by simp [hy])⟩
  ·rcases List.mem_append.1 hi with h1 | h1
   ·exact List.mem_append.2 (.inl h1)
   ·exact List.mem_append.2 (.inr (by simp [h1]))
 have h1:=h0.puts (fun e he => by
  obtain ⟨t,ht,rfl⟩:=List.mem_map.1 he
  obtain ⟨c1,c2,c3⟩:=h.cpS node t ht
  exact ⟨c2,fun x hx => c3 x (h.snd _ _ (h.fsub _ _ hx))⟩) hp1
 obtain ⟨l1,l2,l3,l4,l5,l6⟩:=hp1.le
 have h1c : Inv S done m1 No (fun i x => i = node∧a.f node x = true) (fun i x => i = node∧a.f node x = true) pend:=by
  refine ⟨h1.fsub,h1.snd,h1.cpS,fun i t ht x hx hf _ => ?_,h1.ptS,h1.ptC,h1.ldS,h1.ldC,h1.srS,h1.srC,h1.reg,h1.qf,h1.qt,h1.nd,h1.lt⟩
  rcases g i x with hg | hg
  ·obtain ⟨rfl,hx2⟩:=hg
   rw [l3] at ht
   exact l2 (t,a.f i) (List.mem_map.2 ⟨t,ht,rfl⟩) x hx2
  ·exact h1.cpC i t ht x hx hf hg
 rcases hrest with ⟨hn,rfl⟩ | ⟨hn,m2,hp2,hj⟩
 ·refine ⟨h1c.fsub,h1c.snd,h1c.cpS,h1c.cpC,h1c.ptS,fun i e he x hx hf _ => ?_,h1c.ldS,fun i c hc y hy hf _ => ?_,h1c.srS,fun i c hc y hy hf _ => ?_,h1c.reg,h1c.qf,h1c.qt,h1c.nd,h1c.lt⟩
  ·refine h1c.ptC i e he x hx hf fun ⟨k,_⟩ => ?_
   have:=(h1c.ptS i e he).1; omega
  ·refine h1c.ldC i c hc y hy hf fun ⟨k,_⟩ => ?_
   obtain ⟨q1,q2,q3⟩:=h1c.ldS i c hc
   have:=(hS c q1).a
   rw [if_neg (by omega)] at this; omega
  ·refine h1c.srC i c hc y hy hf fun ⟨k,_⟩ => ?_
   obtain ⟨q1,q2,q3⟩:=h1c.srS i c hc
   have:=(hS c q1).b; omega
 ·have h2:=h1c.puts (fun e he => by
   obtain ⟨d,hd,rfl⟩:=List.mem_map.1 he
   obtain ⟨c1,c2,c3⟩:=h.ptS node d hd
   exact ⟨vN c2,fun x hx => by
    simp only [Bool.and_eq_true] at hx
    exact c3 x (h.snd _ _ (h.fsub _ _ hx.1)) hx.2⟩) hp2
  obtain ⟨k1,k2,k3,k4,k5,k6⟩:=hp2.le
  have h2p : Inv S done m2 No No (fun i x => i = node∧a.f node x = true) pend:=by
   refine ⟨h2.fsub,h2.snd,h2.cpS,h2.cpC,h2.ptS,fun i e he x hx hf _ hex => ?_,h2.ldS,h2.ldC,h2.srS,h2.srC,h2.reg,h2.qf,h2.qt,h2.nd,h2.lt⟩
   rcases g i x with hg | hg
   ·obtain ⟨rfl,hx2⟩:=hg
    have he2 : e ∈ a.pt i:=by rw [k4,l4] at he; exact he
    exact k2 (e.1,fun x => a.f i x && e.2 x) (List.mem_map.2 ⟨e,he2,rfl⟩) x (by simp [hx2,hex])
   ·exact h2.ptC i e he x hx hf hg hex
  have hPts : ∀ y ∈ L,Pts S node y:=fun y hy => h.snd _ _ (h.fsub _ _ ((hL y).2 hy))
  have h3:=h2p.joins (fun e he => by
   obtain ⟨y,hy,he2⟩:=List.mem_flatMap.1 he
   have hyP:=hPts y hy
   have hyb:=(pts_bound hS hyP).2
   rcases List.mem_append.1 he2 with he3 | he3
   ·obtain ⟨c,hc,rfl⟩:=List.mem_map.1 he3
    obtain ⟨q1,q2,q3⟩:=h.ldS node c hc
    subst q3
    exact ⟨Syst.cell_lt hyb ((hS c q1).f (.inl q2)),vN (hS c q1).b,(pts_shut S c q1).2.2.1 q2 y hyP⟩
   ·obtain ⟨c,hc,rfl⟩:=List.mem_map.1 he3
    obtain ⟨q1,q2,q3⟩:=h.srS node c hc
    subst q3
    have ha:=(hS c q1).a
    rw [if_neg (by omega)] at ha
    exact ⟨vN ha,Syst.cell_lt hyb ((hS c q1).f (.inr q2)),(pts_shut S c q1).2.2.2.1 q2 y hyP⟩) hj
  obtain ⟨j1,j2,j3,j4,j5,j6⟩:=hj.le
  refine ⟨h3.fsub,h3.snd,h3.cpS,h3.cpC,h3.ptS,h3.ptC,h3.ldS,fun i c hc y hy hf _ => ?_,h3.srS,fun i c hc y hy hf _ => ?_,h3.reg,h3.qf,h3.qt,h3.nd,h3.lt⟩
  ·rcases g i y with hg | hg
   ·obtain ⟨rfl,hy2⟩:=hg
    have hc2 : c ∈ a.ld i:=by rw [j5,k5,l5] at hc; exact hc
    exact j3 (S.cell y c.f,c.b) (List.mem_flatMap.2 ⟨y,(hL y).1 hy2,List.mem_append.2 (.inl (List.mem_map.2 ⟨c,hc2,rfl⟩))⟩)
   ·exact h3.ldC i c hc y hy hf hg
  ·rcases g i y with hg | hg
   ·obtain ⟨rfl,hy2⟩:=hg
    have hc2 : c ∈ a.sr i:=by rw [j6,k6,l6] at hc; exact hc
    exact j3 (c.a,S.cell y c.f) (List.mem_flatMap.2 ⟨y,(hL y).1 hy2,List.mem_append.2 (.inr (List.mem_map.2 ⟨c,hc2,rfl⟩))⟩)
   ·exact h3.srC i c hc y hy hf hg
theorem Inv.fin (h : Inv S S.cons a No No No []) (ht : a.todo = []) : ∀ i x,a.p i x = true ↔ Pts S i x:=by
 have hf : ∀ i x,a.f i x = false:=fun i x => by
  cases hx : a.f i x
  ·rfl
  ·have:=(h.qt i).1 (h.qf i x hx)
   rw [ht] at this; cases this
 refine fun i x => ⟨h.snd i x,fun hx => hx.least (p:=fun i x => a.p i x = true) fun c hc => ?_⟩
 obtain ⟨r1,r2,r3,r4,r5⟩:=h.reg c hc
 refine ⟨r1,fun k x hx => h.cpC _ _ (r2 k) x hx (hf _ _) (fun k => k),fun k y hy x hx => ?_,fun k y hy x hx => ?_,fun k x hx hs => ?_⟩
 ·obtain ⟨d,hd,d1,d2⟩:=r3 k
  have:=h.ldC _ d hd y hy (hf _ _) (fun k => k)
  rw [d1,d2] at this
  exact h.cpC _ _ this x hx (hf _ _) (fun k => k)
 ·obtain ⟨d,hd,d1,d2⟩:=r4 k
  have:=h.srC _ d hd y hy (hf _ _) (fun k => k)
  rw [d1,d2] at this
  exact h.cpC _ _ this x hx (hf _ _) (fun k => k)
 ·obtain ⟨e,he,e1,e2⟩:=r5 k
  have:=h.ptC _ e he x hx (hf _ _) (fun k => k) (e2 x hs)
  rwa [e1] at this
end
theorem sum_le {α : Type} (g h : α→Nat) : ∀ (l : List α),(∀ x ∈ l,g x ≤ h x)→(l.map g).sum ≤ (l.map h).sum
 | [],_ => Nat.le_refl _
 | x :: l,hl => by
   have:=sum_le g h l fun y hy => hl y (by simp [hy])
   have:=hl x (by simp)
   simp; omega
theorem sum_lt {α : Type} (g h : α→Nat) : ∀ (l : List α),(∀ x ∈ l,g x ≤ h x)→(∃ x ∈ l,g x < h x)→(l.map g).sum < (l.map h).sum
 | [],_,⟨x,hx,_⟩ => by cases hx
 | y :: l,hl,⟨x,hx,hlt⟩ => by
   rcases List.mem_cons.1 hx with rfl | hx
   ·have:=sum_le g h l fun y hy => hl y (by simp [hy])
    simp; omega
   ·have:=sum_lt g h l (fun y hy => hl y (by simp [hy])) ⟨x,hx,hlt⟩
    have:=hl y (by simp)
    simp; omega
theorem filter_le (p q : Nat→Bool) : ∀ (l : List Nat),(∀ x ∈ l,p x = true→q x = true)→(l.filter p).length ≤ (l.filter q).length
 | [],_ => Nat.le_refl _
 | x :: l,h => by
   have:=filter_le p q l fun y hy => h y (by simp [hy])
   have h1:=h x (by simp)
   cases hp : p x <;> cases hq : q x <;> simp [hp,hq] <;> first | omega | (rw [hp,hq] at h1; simp at h1)
theorem filter_lt (p q : Nat→Bool) : ∀ (l : List Nat),(∀ x ∈ l,p x = true→q x = true)→(∃ x ∈ l,p x = false∧q x = true)→(l.filter p).length < (l.filter q).length
 | [],_,⟨x,hx,_⟩ => by cases hx
 | y :: l,h,⟨x,hx,h1,h2⟩ => by
   rcases List.mem_cons.1 hx with rfl | hx
   ·have:=filter_le p q l fun y hy => h y (by simp [hy])
    simp [h1,h2]; omega
   ·have:=filter_lt p q l (fun y hy => h y (by simp [hy])) ⟨x,hx,h1,h2⟩
    have h3:=h y (by simp)
    cases hp : p y <;> cases hq : q y <;> simp [hp,hq] <;> first | omega | (rw [hp,hq] at h3; simp at h3)
def card (n : Nat) (p : Nat→Bool) : Nat:=((List.range n).filter p).length
theorem card_le (n : Nat) (p : Nat→Bool) : card n p ≤ n:=by unfold card; exact Nat.le_trans (List.length_filter_le _ _) (by simp)
def mass (S : Syst) (st : St) : Nat:=((List.range S.N).map fun i => card S.sites (st.p i)).sum
theorem mass_le (S : Syst) (st : St) : mass S st ≤ S.N * S.sites:=by
 have h:=sum_le (fun i => card S.sites (st.p i)) (fun _ => S.sites) (List.range S.N) fun i _ => card_le _ _
 have e : ((List.range S.N).map fun _ => S.sites).sum = S.N * S.sites:=by
  rw [List.map_const',List.sum_replicate_nat]; simp
 rw [e] at h; exact h
theorem Put.mass {S : Syst} {i : Nat} {s : Nat→Bool} {a b : St} (h : Put i s a b) (hi : i < S.N) (hs : ∀ x,s x = true→x < S.sites) : b.todo.length + Go.And.mass S a ≤ a.todo.length + Go.And.mass S b∧Go.And.mass S a ≤ Go.And.mass S b:=by
 have hle:=h.le.1
 have h1 : Go.And.mass S a ≤ Go.And.mass S b:=sum_le _ _ _ fun j _ => filter_le _ _ _ fun x _ => hle j x
 refine ⟨?_,h1⟩
 rcases h with ⟨-,rfl⟩ | ⟨⟨x,hx1,hx2⟩,hb⟩
 ·exact Nat.le_refl _
 ·have h2 : Go.And.mass S a < Go.And.mass S b:=by
   refine sum_lt _ _ _ (fun j _ => filter_le _ _ _ fun x _ => hle j x) ⟨i,List.mem_range.2 hi,filter_lt _ _ _ (fun x _ => hle i x) ⟨x,List.mem_range.2 (hs x hx1),hx2, ?_⟩⟩
   rw [hb]; simp [upd,hx1,hx2]
  have h3 : b.todo.length ≤ a.todo.length + 1:=by
   rw [hb]; show (if a.q i = true then a.todo else a.todo ++ [i]).length ≤ _
   split <;> simp
  omega
theorem Join.mass {S : Syst} {i t : Nat} {a b : St} (h : Join i t a b) (ht : t < S.N) (hs : ∀ x,a.p i x = true→x < S.sites) : b.todo.length + Go.And.mass S a ≤ a.todo.length + Go.And.mass S b∧Go.And.mass S a ≤ Go.And.mass S b:=by
 obtain ⟨m,hm,rfl⟩:=h.parts
 exact hm.mass ht hs
theorem Join.len {i t : Nat} {a b : St} (h : Join i t a b) (j : Nat) : (b.cp j).length ≤ (a.cp j).length + 1:=by
 obtain ⟨m,hm,rfl⟩:=h.parts
 show (upd m.cp i (m.cp i ++ [t]) j).length ≤ _
 rw [hm.le.2.2.1]
 by_cases e : j = i
 ·subst e; simp [upd]
 ·simp [upd,e]
theorem Put.todo {i : Nat} {s : Nat→Bool} {a b : St} (h : Put i s a b) : b.todo.length ≤ a.todo.length + 1:=by
 rcases h with ⟨-,rfl⟩ | ⟨-,rfl⟩
 ·omega
 ·show (if a.q i = true then a.todo else a.todo ++ [i]).length ≤ _
  split <;> simp
theorem Join.todo {i t : Nat} {a b : St} (h : Join i t a b) : b.todo.length ≤ a.todo.length + 1:=by
 obtain ⟨m,hm,rfl⟩:=h.parts
 exact hm.todo
theorem Joins.todo : ∀ {l : List (Nat × Nat)} {a b : St},Joins l a b→b.todo.length ≤ a.todo.length + l.length
 | [],a,b,h => by cases h; simp
 | e :: l,a,b,⟨m,h1,h2⟩ => by
   have:=h1.todo
   have:=Joins.todo h2
   simp; omega
theorem Joins.len : ∀ {l : List (Nat × Nat)} {a b : St},Joins l a b→∀ j,(b.cp j).length ≤ (a.cp j).length + l.length
 | [],a,b,h,j => by cases h; simp
 | e :: l,a,b,⟨m,h1,h2⟩,j => by
   have:=h1.len j
   have:=Joins.len h2 j
   simp; omega
theorem Join.bnd {i t n : Nat} {a b : St} (h : Join i t a b) (hb : ∀ j x,a.p j x = true→x < n) : ∀ j x,b.p j x = true→x < n:=by
 obtain ⟨m,hm,rfl⟩:=h.parts
 intro j x hx
 rcases hm with ⟨-,rfl⟩ | ⟨-,rfl⟩
 ·exact hb j x hx
 ·by_cases e : j = t
  ·subst e
   simp only [upd_same] at hx
   cases h1 : a.p j x
   ·simp only [h1,Bool.not_false,Bool.and_true,Bool.false_or] at hx; exact hb i x hx
   ·exact hb j x h1
  ·simp only [upd_other _ _ _ e] at hx; exact hb j x hx
end Go.And
end
section
namespace Go.Dfl
theorem wp_gen {P : Program} {c : Code} {Q : Exit→Act→World→Prop} {a : Act} {w : World} (p : World→Prop) (hw : p w) (h : ∀ W,p W→Code.wp P c Q a W) : Code.wp P c Q a w:=h w hw
theorem Lst.grown {α : Type} [Inhabited α] {f : α→Value} {w w' : World} {v : Value} {l : List α} {row : Option Nat} (h : Lst f w v l) (hg : w.grownBy w' row) (hne : 0 < l.length→∀ k,v.ownBlock = some k→row ≠ some k) : Lst f w' v l:=by
 obtain ⟨a,cap,rfl,h1,h2,h3⟩:=h
 refine ⟨a,cap,rfl,h1,h2,fun i hi => ?_⟩
 obtain ⟨g1,g2,g3⟩:=h3 i hi
 have hr : row ≠ some (blk a):=hne (by omega) (blk a) (by rw [g1]; rfl)
 have hb:=hg.block (blk a) g2 (Ne.symm hr)
 exact ⟨g1,Nat.lt_of_lt_of_le g2 hg.size,fun j hj => by rw [World.cell?_of_block (a:=⟨blk a,ofs a + i * 1 + j,none⟩) hb]; exact g3 j hj⟩
end Go.Dfl
namespace Go.Proofs.YtgblfjccccdidaaGreat
open Go.RowKit Go.Dfl Go.And
theorem sBits2 : SliceOf Tryz.prog 63 66 (.slice none 0 0) 1 24:=⟨Tryz.underlying63,info_parts (P:=Tryz.prog) (e:=66) (by kernel_rfl)⟩
theorem sInt2 : SliceOf Tryz.prog 27 32 (.slice none 0 0) 1 24:=⟨Tryz.underlying27,info_parts (P:=Tryz.prog) (e:=32) (by kernel_rfl)⟩
theorem sPart2 : SliceOf Tryz.prog 100 132 (.slice none 0 0) 1 24:=⟨Tryz.underlying100,info_parts (P:=Tryz.prog) (e:=132) (by kernel_rfl)⟩
theorem sPart : SliceOf Tryz.prog 132 134 (.agg #[.int .i64 0,.slice none 0 0]) 2 32:=⟨Tryz.underlying132,info_parts (P:=Tryz.prog) (e:=134) (by kernel_rfl)⟩
theorem sCon2 : SliceOf Tryz.prog 101 22 (.slice none 0 0) 1 24:=⟨Tryz.underlying101,info_parts (P:=Tryz.prog) (e:=22) (by kernel_rfl)⟩
theorem sCon : SliceOf Tryz.prog 22 48 (.agg #[.int .i64 0,.int .i64 0,.int .i64 0,.int .i64 0,.slice none 0 0]) 5 56:=⟨Tryz.underlying22,info_parts (P:=Tryz.prog) (e:=48) (by kernel_rfl)⟩
theorem sBool : SliceOf Tryz.prog 81 4 (.bool false) 1 1:=⟨Tryz.underlying81,info_parts (P:=Tryz.prog) (e:=4) (by kernel_rfl)⟩
structure RC where
 k : Int
 a : Int
 b : Int
 f : Int
 sa : Option Addr
 sn : Nat
 sc : Nat
instance : Inhabited RC:=⟨⟨0,0,0,0,none,0,0⟩⟩
instance : Inhabited C:=⟨⟨0,0,0,0, []⟩⟩
def RC.set (c : RC) : Value:=.slice c.sa c.sn c.sc
def RC.vals (c : RC) : List Value:=[.int .i64 c.k,.int .i64 c.a,.int .i64 c.b,.int .i64 c.f,.slice c.sa c.sn c.sc]
def elC : El RC:=⟨5,RC.vals,fun _ => rfl,fun x v hv => by simp [RC.vals] at hv; rcases hv with rfl | rfl | rfl | rfl | rfl <;> rfl,by omega⟩
structure RP where
 to : Int
 sa : Option Addr
 sn : Nat
 sc : Nat
instance : Inhabited RP:=⟨⟨0,none,0,0⟩⟩
def RP.set (c : RP) : Value:=.slice c.sa c.sn c.sc
def RP.vals (c : RP) : List Value:=[.int .i64 c.to,.slice c.sa c.sn c.sc]
def elP : El RP:=⟨2,RP.vals,fun _ => rfl,fun x v hv => by simp [RP.vals] at hv; rcases hv with rfl | rfl <;> rfl,by omega⟩
abbrev IInt (w : World) (base : Nat) (v : Value) (l : List Int) : Prop:=OwnI w base 3 v l
abbrev ICon (w : World) (base : Nat) (v : Value) (l : List RC) : Prop:=OwnE elC w base 48 v l
abbrev IPart (w : World) (base : Nat) (v : Value) (l : List RP) : Prop:=OwnE elP w base 134 v l
theorem kInt : Kind IInt:=Kind.own _ _
theorem kCon : Kind ICon:=Kind.ownE _ _
theorem kPart : Kind IPart:=Kind.ownE _ _
def IsS (rl : Nat→Nat) (W : World) (v : Value) (p : Nat→Bool) : Prop :=
 ∃ r,Words W v r∧Wds r∧r.length ≤ 1024∧(∀ x,hasN r x = p x)∧∀ k,v.ownBlock = some k→0 < r.length→rl k = 0
structure Stp (rl rl' : Nat→Nat) (X : Nat) (W W' : World) (row : Option Nat) : Prop where
 grown : W.grownBy W' row
 part : ∀ k,row = some k→rl k = X
 pos : X ≠ 0 ∨ row = none
 same : ∀ k,k < W.heap.size→rl' k = rl k
section
variable {rl rl' : Nat→Nat} {X : Nat} {W W' : World} {row : Option Nat}
theorem Stp.far (h : Stp rl rl' X W W' row) {v : Value} {Y : Nat} (hv : ∀ k,v.ownBlock = some k→rl k = Y) (hne : X ≠ Y) : v.ownBlock = none ∨ v.ownBlock ≠ row:=by
 cases hk : v.ownBlock with
 | none => exact .inl rfl
 | some k => exact .inr fun e => hne (by rw [← h.part k e.symm,hv k hk])
theorem Words.lt {w : World} {v : Value} {r : List Nat} (h : Words w v r) (h0 : 0 < r.length) : ∀ k,v.ownBlock = some k→k < w.heap.size:=by
 obtain ⟨a,cap,rfl,h1,h2,h3⟩:=h
 intro k hk
 obtain ⟨g1,g2, -⟩:=h3 0 h0
 rw [g1] at hk
 simp [Value.ownBlock] at hk
 omega
theorem IsS.step {v : Value} {p : Nat→Bool} (h : IsS rl W v p) (hs : Stp rl rl' X W W' row) : IsS rl' W' v p:=by
 obtain ⟨r,h1,h2,h3,h4,h5⟩:=h
 refine ⟨r,h1.grown hs.grown fun h0 k hk e => ?_,h2,h3,h4,fun k hk h0 => ?_⟩
 ·have:=hs.part k e
  rw [h5 k hk h0] at this
  rcases hs.pos with q | q
  ·exact q this.symm
  ·rw [q] at e; cases e
 ·rw [hs.same k (Words.lt h1 h0 k hk)]; exact h5 k hk h0
theorem IsS.nil (rl : Nat→Nat) (W : World) : IsS rl W (.slice none 0 0) (fun _ => false) :=
 ⟨[],Lst.nil _ _,fun i => by rw [nth_out _ _ (by simp)]; exact W64.zero,by simp,fun x => hasN_out _ _ (by simp),fun k hk => by simp [Value.ownBlock] at hk⟩
structure SetsC (N : Nat) (rl : Nat→Nat) (B X : Nat) (W : World) (v : Value) (xs : List Value) (p : Nat→Nat→Bool) : Prop where
 own : Own (fun x : Value => x) W B 66 v xs
 role : ∀ k,v.ownBlock = some k→rl k = X
 len : xs.length = N
 mean : ∀ i,i < N→IsS rl W (nth xs i) (p i)
structure CpC (N : Nat) (rl : Nat→Nat) (B : Nat) (W : World) (v : Value) (vs : List Value) (ll : List (List Int)) (cp : Nat→List Nat) : Prop where
 own : OwnN IInt W B 32 v vs ll
 role : ∀ k,Foot v vs k→rl k = 4
 len : ll.length = N
 mean : ∀ i,i < N→nth ll i = (cp i).map fun x : Nat => (x : Int)
def PtRel (rl : Nat→Nat) (W : World) (l : List RP) (m : List (Nat × (Nat→Bool))) : Prop:=l.length = m.length∧∀ j,j < l.length→(nth l j).to = ((nth m j).1 : Int)∧IsS rl W (nth l j).set (nth m j).2
structure PtC (n : Nat) (rl : Nat→Nat) (B : Nat) (W : World) (v : Value) (vs : List Value) (ll : List (List RP)) (pt : Nat→List (Nat × (Nat→Bool))) : Prop where
 own : OwnN IPart W B 132 v vs ll
 role : ∀ k,Foot v vs k→rl k = 5
 len : ll.length = n
 mean : ∀ i,i < n→PtRel rl W (nth ll i) (pt i)
def LdRel (l : List RC) (m : List C) : Prop:=l.length = m.length∧∀ j,j < l.length→(nth l j).k = ((nth m j).k : Int)∧(nth l j).a = ((nth m j).a : Int)∧(nth l j).b = ((nth m j).b : Int)∧(nth l j).f = ((nth m j).f : Int)
structure LdC (n : Nat) (rl : Nat→Nat) (B X : Nat) (W : World) (v : Value) (vs : List Value) (ll : List (List RC)) (ld : Nat→List C) : Prop where
 own : OwnN ICon W B 22 v vs ll
 role : ∀ k,Foot v vs k→rl k = X
 len : ll.length = n
 mean : ∀ i,i < n→LdRel (nth ll i) (ld i)
structure QC (N : Nat) (rl : Nat→Nat) (B : Nat) (W : World) (v : Value) (ql : List Bool) (q : Nat→Bool) : Prop where
 own : Own Value.bool W B 4 v ql
 role : ∀ k,v.ownBlock = some k→rl k = 8
 len : ql.length = N
 mean : ∀ i,i < N→nth ql i = q i
structure TdC (rl : Nat→Nat) (B : Nat) (W : World) (v : Value) (todo : List Nat) : Prop where
 own : OwnI W B 3 v (todo.map fun x : Nat => (x : Int))
 role : ∀ k,v.ownBlock = some k→rl k = 9
theorem SetsC.step {N B Y : Nat} {v : Value} {xs : List Value} {p : Nat→Nat→Bool} (h : SetsC N rl B Y W v xs p) (hs : Stp rl rl' X W W' row) (hne : X ≠ Y) : SetsC N rl' B Y W' v xs p :=
 ⟨h.own.grown hs.grown (hs.far h.role hne),fun k hk => by rw [hs.same k (h.own.lt k hk).2]; exact h.role k hk,h.len,fun i hi => (h.mean i hi).step hs⟩
theorem nfoot {Y : Nat} {v : Value} {vs : List Value} (hr : ∀ k,Foot v vs k→rl k = Y) (hs : Stp rl rl' X W W' row) (hne : X ≠ Y) : ∀ k,row = some k→¬ Foot v vs k :=
 fun k hk hf => hne (by rw [← hs.part k hk,hr k hf])
theorem CpC.step {N B : Nat} {v : Value} {vs : List Value} {ll : List (List Int)} {cp : Nat→List Nat} (h : CpC N rl B W v vs ll cp) (hs : Stp rl rl' X W W' row) (hne : X ≠ 4) : CpC N rl' B W' v vs ll cp :=
 ⟨h.own.grown kInt hs.grown (nfoot h.role hs hne),fun k hk => by rw [hs.same k (h.own.foot kInt k hk).2]; exact h.role k hk,h.len,h.mean⟩
theorem PtRel.step {l : List RP} {m : List (Nat × (Nat→Bool))} (h : PtRel rl W l m) (hs : Stp rl rl' X W W' row) : PtRel rl' W' l m:=⟨h.1,fun j hj => ⟨(h.2 j hj).1,(h.2 j hj).2.step hs⟩⟩
theorem PtC.step {n B : Nat} {v : Value} {vs : List Value} {ll : List (List RP)} {pt : Nat→List (Nat × (Nat→Bool))} (h : PtC n rl B W v vs ll pt) (hs : Stp rl rl' X W W' row) (hne : X ≠ 5) : PtC n rl' B W' v vs ll pt :=
 ⟨h.own.grown kPart hs.grown (nfoot h.role hs hne),fun k hk => by rw [hs.same k (h.own.foot kPart k hk).2]; exact h.role k hk,h.len,fun i hi => (h.mean i hi).step hs⟩
theorem LdC.step {n B Y : Nat} {v : Value} {vs : List Value} {ll : List (List RC)} {ld : Nat→List C} (h : LdC n rl B Y W v vs ll ld) (hs : Stp rl rl' X W W' row) (hne : X ≠ Y) : LdC n rl' B Y W' v vs ll ld :=
 ⟨h.own.grown kCon hs.grown (nfoot h.role hs hne),fun k hk => by rw [hs.same k (h.own.foot kCon k hk).2]; exact h.role k hk,h.len,h.mean⟩
theorem QC.step {N B : Nat} {v : Value} {ql : List Bool} {q : Nat→Bool} (h : QC N rl B W v ql q) (hs : Stp rl rl' X W W' row) (hne : X ≠ 8) : QC N rl' B W' v ql q :=
 ⟨h.own.grown hs.grown (hs.far h.role hne),fun k hk => by rw [hs.same k (h.own.lt k hk).2]; exact h.role k hk,h.len,h.mean⟩
theorem TdC.step {B : Nat} {v : Value} {td : List Nat} (h : TdC rl B W v td) (hs : Stp rl rl' X W W' row) (hne : X ≠ 9) : TdC rl' B W' v td :=
 ⟨h.own.grown hs.grown (hs.far h.role hne),fun k hk => by rw [hs.same k (h.own.lt k hk).2]; exact h.role k hk⟩
end
structure Vals where
 cons : Value
 sets : Value
 fresh : Value
 cp : Value
 pt : Value
 ld : Value
 sr : Value
 q : Value
 todo : Value
 xs : List Value
 ys : List Value
 cvs : List Value
 pvs : List Value
 lvs : List Value
 svs : List Value
 cll : List (List Int)
 pll : List (List RP)
 lll : List (List RC)
 sll : List (List RC)
 ql : List Bool
def Vals.cells (V : Vals) (S : Syst) : Array Value:=#[.int .i64 S.vars,.int .i64 S.sites,.int .i64 S.fields,V.cons,V.sets,V.fresh,V.cp,V.pt,V.ld,V.sr,V.q,V.todo]
structure MemX (X : Nat) (S : Syst) (w0 : World) (sv : Nat) (rl : Nat→Nat) (V : Vals) (st : St) (W : World) : Prop where
 box : X ≠ 1→W.heap[sv]? = some (.cells (V.cells S) 103 (0,0))
 rbox : rl sv = 1
 lbox : w0.heap.size ≤ sv∧sv < W.heap.size
 sets : X ≠ 2→SetsC S.N rl w0.heap.size 2 W V.sets V.xs st.p
 fresh : X ≠ 3→SetsC S.N rl w0.heap.size 3 W V.fresh V.ys st.f
 cp : X ≠ 4→CpC S.N rl w0.heap.size W V.cp V.cvs V.cll st.cp
 pt : X ≠ 5→PtC S.vars rl w0.heap.size W V.pt V.pvs V.pll st.pt
 ld : X ≠ 6→LdC S.vars rl w0.heap.size 6 W V.ld V.lvs V.lll st.ld
 sr : X ≠ 7→LdC S.vars rl w0.heap.size 7 W V.sr V.svs V.sll st.sr
 q : X ≠ 8→QC S.N rl w0.heap.size W V.q V.ql st.q
 todo : X ≠ 9→TdC rl w0.heap.size W V.todo st.todo
 fr : ∀ k,W.heap.size ≤ k→rl k = 0
 bel : Below w0.heap.size w0 W
 low : ∀ k,rl k ≠ 0→w0.heap.size ≤ k
abbrev Mem:=MemX 0
section
variable {S : Syst} {w0 : World} {sv : Nat} {rl rl' : Nat→Nat} {V : Vals} {st : St} {W W' : World} {row : Option Nat} {X : Nat}
theorem Mem.step (h : Mem S w0 sv rl V st W) (hs : Stp rl rl' X W W' row) (hX : X ≠ 0) (hfr : ∀ k,W'.heap.size ≤ k→rl' k = 0) (hlow : ∀ k,rl' k ≠ 0→w0.heap.size ≤ k) : MemX X S w0 sv rl' V st W':=by
 have hb:=h.lbox
 refine ⟨fun hx => ?_, ?_,⟨hb.1,Nat.lt_of_lt_of_le hb.2 hs.grown.size⟩,fun hx => (h.sets (by omega)).step hs hx,fun hx => (h.fresh (by omega)).step hs hx,fun hx => (h.cp (by omega)).step hs hx,fun hx => (h.pt (by omega)).step hs hx,fun hx => (h.ld (by omega)).step hs hx,
  fun hx => (h.sr (by omega)).step hs hx,fun hx => (h.q (by omega)).step hs hx,fun hx => (h.todo (by omega)).step hs hx,hfr, ?_,hlow⟩
 ·rw [hs.grown.block sv hb.2 fun e => hx (by rw [← hs.part sv e.symm,h.rbox])]; exact h.box (by omega)
 ·rw [hs.same sv hb.2]; exact h.rbox
 ·refine h.bel.grown hs.grown h.bel.size fun k hk => h.low k ?_
  rw [hs.part k hk]; exact hX
theorem Mem.keep (h : Mem S w0 sv rl V st W) (hg : W.grownBy W' none) : Mem S w0 sv rl V st W':=by
 have hs : Stp rl rl 99 W W' none:=⟨hg,by simp,.inr rfl,fun _ _ => rfl⟩
 have h1:=h.step hs (by omega) (fun k hk => h.fr k (Nat.le_trans hg.size hk)) h.low
 exact ⟨fun _ => h1.box (by omega),h1.rbox,h1.lbox,fun _ => h1.sets (by omega),fun _ => h1.fresh (by omega),fun _ => h1.cp (by omega),fun _ => h1.pt (by omega),fun _ => h1.ld (by omega),fun _ => h1.sr (by omega),fun _ => h1.q (by omega),fun _ => h1.todo (by omega),h1.fr,h1.bel,h1.low⟩
end
end Go.Proofs.YtgblfjccccdidaaGreat
end
section
namespace Go.Proofs.YtgblfjccccdidaaGreat
open Go.RowKit Go.Dfl Go.And
structure Ext (rl rl' : Nat→Nat) (W W' : World) : Prop where
 size : W.heap.size ≤ W'.heap.size
 same : ∀ k,k < W.heap.size→(rl k = 0 ∨ 10 ≤ rl k)→W'.heap[k]? = W.heap[k]?∧rl' k = rl k
theorem Ext.refl (rl : Nat→Nat) (W : World) : Ext rl rl W W:=⟨Nat.le_refl _,fun _ _ _ => ⟨rfl,rfl⟩⟩
theorem Ext.trans {r1 r2 r3 : Nat→Nat} {A B C : World} (h : Ext r1 r2 A B) (k : Ext r2 r3 B C) : Ext r1 r3 A C:=by
 refine ⟨Nat.le_trans h.size k.size,fun n hn hr => ?_⟩
 obtain ⟨a1,a2⟩:=h.same n hn hr
 obtain ⟨b1,b2⟩:=k.same n (Nat.lt_of_lt_of_le hn h.size) (by rw [a2]; exact hr)
 exact ⟨b1.trans a1,b2.trans a2⟩
theorem Ext.grown {rl : Nat→Nat} {W W' : World} (h : W.grownBy W' none) : Ext rl rl W W':=⟨h.size,fun k hk _ => ⟨h.block k hk (by simp),rfl⟩⟩
theorem Stp.ext {rl rl' : Nat→Nat} {X : Nat} {W W' : World} {row : Option Nat} (h : Stp rl rl' X W W' row) (hX : 1 ≤ X∧X ≤ 9) : Ext rl rl' W W' :=
 ⟨h.grown.size,fun k hk hr => ⟨h.grown.block k hk fun e => by have:=h.part k e.symm; omega,h.same k hk⟩⟩
theorem lst_ext {α : Type} [Inhabited α] {f : α→Value} {rl rl' : Nat→Nat} {W W' : World} {v : Value} {l : List α} (h : Lst f W v l) (he : Ext rl rl' W W') (hr : 0 < l.length→∀ k,v.ownBlock = some k→rl k = 0 ∨ 10 ≤ rl k) : Lst f W' v l:=by
 obtain ⟨a,cap,rfl,h1,h2,h3⟩:=h
 refine ⟨a,cap,rfl,h1,h2,fun i hi => ?_⟩
 obtain ⟨g1,g2,g3⟩:=h3 i hi
 have hb:=(he.same (blk a) g2 (hr (by omega) (blk a) (by rw [g1]; rfl))).1
 exact ⟨g1,Nat.lt_of_lt_of_le g2 he.size,fun j hj => by rw [World.cell?_of_block (a:=⟨blk a,ofs a + i * 1 + j,none⟩) hb]; exact g3 j hj⟩
theorem IsS.ex {rl rl' : Nat→Nat} {W W' : World} {v : Value} {p : Nat→Bool} (h : IsS rl W v p) (he : Ext rl rl' W W') : IsS rl' W' v p:=by
 obtain ⟨r,h1,h2,h3,h4,h5⟩:=h
 refine ⟨r,lst_ext h1 he fun h0 k hk => .inl (h5 k hk h0),h2,h3,h4,fun k hk h0 => ?_⟩
 rw [(he.same k (Words.lt h1 h0 k hk) (.inl (h5 k hk h0))).2]; exact h5 k hk h0
theorem own_blk {f : Value→Value} {W : World} {B : Nat} {e : TypeId} {a : Option Addr} {n c : Nat} {xs : List Value} (h : Own f W B e (.slice a n c) xs) {i : Nat} (hi : i < xs.length) : (Value.slice a n c).ownBlock = some (blk a):=by
 obtain ⟨a2,c2,he, -, -,h3⟩:=h.lst
 simp at he
 obtain ⟨rfl, -, -⟩:=he
 rw [(h3 i hi).1]; rfl
theorem ownB_blk {W : World} {B : Nat} {e : TypeId} {a : Option Addr} {n c : Nat} {xs : List Bool} (h : Own Value.bool W B e (.slice a n c) xs) {i : Nat} (hi : i < xs.length) : (Value.slice a n c).ownBlock = some (blk a):=by
 obtain ⟨a2,c2,he, -, -,h3⟩:=h.lst
 simp at he
 obtain ⟨rfl, -, -⟩:=he
 rw [(h3 i hi).1]; rfl
theorem stp_set {rl : Nat→Nat} {X : Nat} {W : World} {p : Addr} {v : Value} (hX : X ≠ 0) (hp : rl p.block = X) : Stp rl rl X W (W.setCell p v) (some p.block) :=
 ⟨grownBy_setCell _ _ _,fun k hk => by simp at hk; rw [← hk]; exact hp,.inl hX,fun _ _ => rfl⟩
def rol (rl : Nat→Nat) (X : Nat) (v : Value) : Nat→Nat:=fun k => if v.ownBlock = some k then X else rl k
theorem stp_app {rl : Nat→Nat} {X : Nat} {W W1 : World} {v v' : Value} (hg : W.grownBy W1 v.ownBlock) (hX : X ≠ 0) (hv : ∀ k,v.ownBlock = some k→rl k = X) (hl : v'.ownBlock = v.ownBlock ∨ v'.ownBlock = some W.heap.size) : Stp rl (rol rl X v') X W W1 v.ownBlock:=by
 refine ⟨hg,hv,.inl hX,fun k hk => ?_⟩
 unfold rol
 by_cases e : v'.ownBlock = some k
 ·rw [if_pos e]
  rcases hl with q | q
  ·rw [q] at e; exact (hv k e).symm
  ·rw [q] at e; simp at e; omega
 ·rw [if_neg e]
theorem rol_fr {rl : Nat→Nat} {X : Nat} {W W1 : World} {v' : Value} (h : ∀ k,W.heap.size ≤ k→rl k = 0) (hs : W.heap.size ≤ W1.heap.size) (hv : ∀ k,v'.ownBlock = some k→k < W1.heap.size) : ∀ k,W1.heap.size ≤ k→rol rl X v' k = 0:=by
 intro k hk
 unfold rol
 rw [if_neg fun e => by have:=hv k e; omega]
 exact h k (by omega)
theorem rol_low {rl : Nat→Nat} {X B : Nat} {v' : Value} (h : ∀ k,rl k ≠ 0→B ≤ k) (hv : ∀ k,v'.ownBlock = some k→B ≤ k) : ∀ k,rol rl X v' k ≠ 0→B ≤ k:=by
 intro k hk
 unfold rol at hk
 by_cases e : v'.ownBlock = some k
 ·exact hv k e
 ·rw [if_neg e] at hk; exact h k hk
section
variable {S : Syst} {w0 : World} {sv : Nat} {rl : Nat→Nat} {V : Vals} {st : St} {W : World}
theorem SetsC.set {N B X : Nat} {a : Option Addr} {n c : Nat} {xs : List Value} {p : Nat→Nat→Bool} (h : SetsC N rl B X W (.slice a n c) xs p) (hX : X ≠ 0) {i : Nat} (hi : i < N) {v : Value} {s : Nat→Bool} (hv : IsS rl W v s) :
  Stp rl rl X W (W.setCell ⟨blk a,ofs a + i,none⟩ v) (some (blk a))∧SetsC N rl B X (W.setCell ⟨blk a,ofs a + i,none⟩ v) (.slice a n c) (xs.set i v) (upd p i s):=by
 have hil : i < xs.length:=by rw [h.len]; exact hi
 have hs : Stp rl rl X W (W.setCell ⟨blk a,ofs a + i,none⟩ v) (some (blk a)):=stp_set (p:=⟨blk a,ofs a + i,none⟩) hX (h.role _ (own_blk h.own hil))
 refine ⟨hs,⟨h.own.set i v,h.role,by simp [h.len],fun j hj => ?_⟩⟩
 rw [nth_set]
 by_cases e : i = j
 ·subst e; rw [if_pos ⟨rfl,hil⟩,upd_same]; exact hv.step hs
 ·rw [if_neg (by omega),upd_other _ _ _ (Ne.symm e)]; exact (h.mean j hj).step hs
theorem Mem.setSets {a : Option Addr} {n c : Nat} (h : Mem S w0 sv rl V st W) (ha : V.sets = .slice a n c) {i : Nat} (hi : i < S.N) {v : Value} {s : Nat→Bool} (hv : IsS rl W v s) :
  Mem S w0 sv rl { V with xs:=V.xs.set i v } { st with p:=upd st.p i s } (W.setCell ⟨blk a,ofs a + i,none⟩ v)∧Ext rl rl W (W.setCell ⟨blk a,ofs a + i,none⟩ v):=by
 have h2:=h.sets (by omega)
 rw [ha] at h2
 obtain ⟨hs,hc⟩:=h2.set (by omega) hi hv
 have h1:=h.step hs (by omega) (fun k hk => h.fr k (by simpa using hk)) h.low
 exact ⟨⟨fun _ => h1.box (by omega),h1.rbox,h1.lbox,fun _ => by rw [ha]; exact hc,fun _ => h1.fresh (by omega),fun _ => h1.cp (by omega),fun _ => h1.pt (by omega),fun _ => h1.ld (by omega),fun _ => h1.sr (by omega),fun _ => h1.q (by omega),fun _ => h1.todo (by omega),h1.fr,h1.bel,h1.low⟩,hs.ext (by omega)⟩
theorem Mem.setFresh {a : Option Addr} {n c : Nat} (h : Mem S w0 sv rl V st W) (ha : V.fresh = .slice a n c) {i : Nat} (hi : i < S.N) {v : Value} {s : Nat→Bool} (hv : IsS rl W v s) :
  Mem S w0 sv rl { V with ys:=V.ys.set i v } { st with f:=upd st.f i s } (W.setCell ⟨blk a,ofs a + i,none⟩ v)∧Ext rl rl W (W.setCell ⟨blk a,ofs a + i,none⟩ v):=by
 have h2:=h.fresh (by omega)
 rw [ha] at h2
 obtain ⟨hs,hc⟩:=h2.set (by omega) hi hv
 have h1:=h.step hs (by omega) (fun k hk => h.fr k (by simpa using hk)) h.low
 exact ⟨⟨fun _ => h1.box (by omega),h1.rbox,h1.lbox,fun _ => h1.sets (by omega),fun _ => by rw [ha]; exact hc,fun _ => h1.cp (by omega),fun _ => h1.pt (by omega),fun _ => h1.ld (by omega),fun _ => h1.sr (by omega),fun _ => h1.q (by omega),fun _ => h1.todo (by omega),h1.fr,h1.bel,h1.low⟩,hs.ext (by omega)⟩
theorem Mem.setQ {a : Option Addr} {n c : Nat} (h : Mem S w0 sv rl V st W) (ha : V.q = .slice a n c) {i : Nat} (hi : i < S.N) (b : Bool) :
  Mem S w0 sv rl { V with ql:=V.ql.set i b } { st with q:=upd st.q i b } (W.setCell ⟨blk a,ofs a + i,none⟩ (.bool b))∧Ext rl rl W (W.setCell ⟨blk a,ofs a + i,none⟩ (.bool b)):=by
 have h2:=h.q (by omega)
 rw [ha] at h2
 have hil : i < V.ql.length:=by rw [h2.len]; exact hi
 have hs : Stp rl rl 8 W (W.setCell ⟨blk a,ofs a + i,none⟩ (.bool b)) (some (blk a)):=stp_set (p:=⟨blk a,ofs a + i,none⟩) (by omega) (h2.role _ (ownB_blk h2.own hil))
 have h1:=h.step hs (by omega) (fun k hk => h.fr k (by simpa using hk)) h.low
 refine ⟨⟨fun _ => h1.box (by omega),h1.rbox,h1.lbox,fun _ => h1.sets (by omega),fun _ => h1.fresh (by omega),fun _ => h1.cp (by omega),fun _ => h1.pt (by omega),fun _ => h1.ld (by omega),fun _ => h1.sr (by omega),fun _ => ?_,fun _ => h1.todo (by omega),h1.fr,h1.bel,h1.low⟩,hs.ext (by omega)⟩
 rw [ha]
 refine ⟨h2.own.set i b,h2.role,by simp [h2.len],fun j hj => ?_⟩
 show nth (V.ql.set i b) j = upd st.q i b j
 rw [nth_set]
 by_cases e : i = j
 ·subst e; rw [if_pos ⟨rfl,hil⟩,upd_same]
 ·rw [if_neg (by omega),upd_other _ _ _ (Ne.symm e)]; exact h2.mean j hj
theorem box_set {W : World} {sv j : Nat} {cs : Array Value} {t : TypeId} {v : Value} (h : W.heap[sv]? = some (.cells cs t (0,0))) : (W.setCell ⟨sv,j,none⟩ v).heap[sv]? = some (.cells (cs.setIfInBounds j v) t (0,0)):=by
 simp [World.setCell,Array.getElem?_modify,h]
theorem Mem.pushTodo (h : Mem S w0 sv rl V st W) {W1 : World} {v' : Value} {i : Nat} (hg : W.grownBy W1 V.todo.ownBlock) (ho : OwnI W1 w0.heap.size 3 v' ((st.todo.map fun x : Nat => (x : Int)) ++ [(i : Int)])) (hl : v'.ownBlock = V.todo.ownBlock ∨ v'.ownBlock = some W.heap.size) :
  ∃ rl',Mem S w0 sv rl' { V with todo:=v' } { st with todo:=st.todo ++ [i] } (W1.setCell ⟨sv,11,none⟩ v')∧Ext rl rl' W (W1.setCell ⟨sv,11,none⟩ v'):=by
 have h2:=h.todo (by omega)
 have hs:=stp_app hg (X:=9) (by omega) h2.role hl
 have h1:=h.step hs (by omega) (rol_fr h.fr hg.size fun k hk => (ho.lt k hk).2) (rol_low h.low fun k hk => (ho.lt k hk).1)
 have hs2 : Stp (rol rl 9 v') (rol rl 9 v') 1 W1 (W1.setCell ⟨sv,11,none⟩ v') (some sv):=stp_set (p:=⟨sv,11,none⟩) (by omega) h1.rbox
 refine ⟨rol rl 9 v', ?_,(hs.ext (by omega)).trans (hs2.ext (by omega))⟩
 refine ⟨fun _ => ?_,h1.rbox,⟨h1.lbox.1,by simpa using h1.lbox.2⟩,fun _ => (h1.sets (by omega)).step hs2 (by omega),fun _ => (h1.fresh (by omega)).step hs2 (by omega),fun _ => (h1.cp (by omega)).step hs2 (by omega),fun _ => (h1.pt (by omega)).step hs2 (by omega),fun _ => (h1.ld (by omega)).step hs2 (by omega),fun _ => (h1.sr (by omega)).step hs2 (by omega),fun _ => (h1.q (by omega)).step hs2 (by omega),fun _ => ?_,fun k hk => h1.fr k (by simpa using hk),h1.bel.setCell h1.lbox.1 _,h1.low⟩
 ·rw [box_set (h1.box (by omega))]; rfl
 ·have ht : TdC (rol rl 9 v') w0.heap.size W1 v' (st.todo ++ [i]):=⟨by simpa using ho,fun k hk => by unfold rol; rw [if_pos hk]⟩
  exact ht.step hs2 (by omega)
theorem Mem.clearTodo (h : Mem S w0 sv rl V st W) :
  ∃ rl',Mem S w0 sv rl' { V with todo:=.slice none 0 0 } { st with todo:=[] } (W.setCell ⟨sv,11,none⟩ (.slice none 0 0))∧Ext rl rl' W (W.setCell ⟨sv,11,none⟩ (.slice none 0 0))∧Ints (W.setCell ⟨sv,11,none⟩ (.slice none 0 0)) V.todo (st.todo.map fun x : Nat => (x : Int))∧∀ k,V.todo.ownBlock = some k→rl' k = 10:=by
 have h2:=h.todo (by omega)
 have hs : Stp rl rl 1 W (W.setCell ⟨sv,11,none⟩ (.slice none 0 0)) (some sv):=stp_set (p:=⟨sv,11,none⟩) (by omega) h.rbox
 have h1:=h.step hs (by omega) (fun k hk => h.fr k (by simpa using hk)) h.low
 have hr : ∀ k Y,Y ≠ 9→rl k = Y→rol rl 10 V.todo k = Y:=fun k Y hY hk => by
  unfold rol
  rw [if_neg fun e => hY (by rw [← hk,h2.role k e])]; exact hk
 have hI : ∀ {v : Value} {p : Nat→Bool} {W : World},IsS rl W v p→IsS (rol rl 10 V.todo) W v p:=fun ⟨r,q1,q2,q3,q4,q5⟩ => ⟨r,q1,q2,q3,q4,fun k hk h0 => hr k 0 (by omega) (q5 k hk h0)⟩
 refine ⟨rol rl 10 V.todo,⟨fun _ => ?_,hr sv 1 (by omega) h.rbox,h1.lbox,fun _ => ?_,fun _ => ?_,fun _ => ?_,fun _ => ?_,fun _ => ?_,fun _ => ?_,fun _ => ?_,fun _ => ⟨by simpa using Own.nil _ _ _ _,fun k hk => by simp [Value.ownBlock] at hk⟩,fun k hk => ?_,h1.bel,fun k hk => ?_⟩, ?_, ?_,fun k hk => by unfold rol; rw [if_pos hk]⟩
 ·rw [box_set (h.box (by omega))]; rfl
 ·have:=h1.sets (by omega); exact ⟨this.own,fun k hk => hr k 2 (by omega) (this.role k hk),this.len,fun i hi => hI (this.mean i hi)⟩
 ·have:=h1.fresh (by omega); exact ⟨this.own,fun k hk => hr k 3 (by omega) (this.role k hk),this.len,fun i hi => hI (this.mean i hi)⟩
 ·have:=h1.cp (by omega); exact ⟨this.own,fun k hk => hr k 4 (by omega) (this.role k hk),this.len,this.mean⟩
 ·have:=h1.pt (by omega); exact ⟨this.own,fun k hk => hr k 5 (by omega) (this.role k hk),this.len,fun i hi => ⟨(this.mean i hi).1,fun j hj => ⟨((this.mean i hi).2 j hj).1,hI ((this.mean i hi).2 j hj).2⟩⟩⟩
 ·have:=h1.ld (by omega); exact ⟨this.own,fun k hk => hr k 6 (by omega) (this.role k hk),this.len,this.mean⟩
 ·have:=h1.sr (by omega); exact ⟨this.own,fun k hk => hr k 7 (by omega) (this.role k hk),this.len,this.mean⟩
 ·have:=h1.q (by omega); exact ⟨this.own,fun k hk => hr k 8 (by omega) (this.role k hk),this.len,this.mean⟩
 ·exact hr k 0 (by omega) (h1.fr k hk)
 ·unfold rol at hk
  by_cases e : V.todo.ownBlock = some k
  ·exact (h2.own.lt k e).1
  ·rw [if_neg e] at hk; exact h.low k hk
 ·refine ⟨hs.grown.size,fun k hk hor => ⟨(hs.ext (by omega)).same k hk hor |>.1, ?_⟩⟩
  rcases hor with e | e
  ·rw [e]; exact hr k 0 (by omega) e
  ·exact hr k (rl k) (by omega) rfl
 ·exact (h2.own.grown hs.grown (hs.far h2.role (by omega))).lst
theorem rol_keep {rl : Nat→Nat} {X : Nat} {u : Value} {k : Nat} (h : rl k = X) : rol rl X u k = X:=by
 unfold rol; split
 ·rfl
 ·exact h
theorem foot_set {v u : Value} {vs : List Value} {i k : Nat} (h : Foot v (vs.set i u) k) : Foot v vs k ∨ u.ownBlock = some k:=by
 rcases h with h | ⟨j,hj,h⟩
 ·exact .inl (.inl h)
 ·rw [nth_set] at h
  by_cases e : i = j∧i < vs.length
  ·rw [if_pos e] at h; exact .inr h
  ·rw [if_neg e] at h; exact .inl (.inr ⟨j,by simpa using hj,h⟩)
theorem PtRel.snoc {l : List RP} {m : List (Nat × (Nat→Bool))} (h : PtRel rl W l m) {x : RP} {e : Nat × (Nat→Bool)} (h1 : x.to = (e.1 : Int)) (h2 : IsS rl W x.set e.2) : PtRel rl W (l ++ [x]) (m ++ [e]):=by
 refine ⟨by simp [h.1],fun j hj => ?_⟩
 simp at hj
 have hl:=h.1
 rcases Nat.lt_or_ge j l.length with q | q
 ·rw [nth_append,if_pos q,nth_append,if_pos (by omega)]; exact h.2 j q
 ·obtain rfl : j = l.length:=by omega
  rw [nth_append,if_neg (by omega),nth_append,if_neg (by omega),hl,Nat.sub_self]; exact ⟨h1,h2⟩
theorem LdRel.snoc {l : List RC} {m : List C} (h : LdRel l m) {x : RC} {e : C} (h1 : x.k = (e.k : Int)∧x.a = (e.a : Int)∧x.b = (e.b : Int)∧x.f = (e.f : Int)) : LdRel (l ++ [x]) (m ++ [e]):=by
 refine ⟨by simp [h.1],fun j hj => ?_⟩
 simp at hj
 have hl:=h.1
 rcases Nat.lt_or_ge j l.length with q | q
 ·rw [nth_append,if_pos q,nth_append,if_pos (by omega)]; exact h.2 j q
 ·obtain rfl : j = l.length:=by omega
  rw [nth_append,if_neg (by omega),nth_append,if_neg (by omega),hl,Nat.sub_self]; exact h1
theorem Mem.putCp {a : Option Addr} {n c : Nat} (h : Mem S w0 sv rl V st W) (ha : V.cp = .slice a n c) {i : Nat} (hi : i < S.N) {W1 : World} {u : Value} {x : Int} {y : Nat} (hg : W.grownBy W1 (nth V.cvs i).ownBlock) (ho : IInt W1 w0.heap.size u (nth V.cll i ++ [x]))
  (hl : u.ownBlock = (nth V.cvs i).ownBlock ∨ u.ownBlock = some W.heap.size) (hxy : x = (y : Int)) :
  ∃ rl',Mem S w0 sv rl' { V with cvs:=V.cvs.set i u,cll:=V.cll.set i (nth V.cll i ++ [x]) } { st with cp:=upd st.cp i (st.cp i ++ [y]) } (W1.setCell ⟨blk a,ofs a + i,none⟩ u)∧Ext rl rl' W (W1.setCell ⟨blk a,ofs a + i,none⟩ u):=by
 have h2:=h.cp (by omega)
 rw [ha] at h2
 have hil : i < V.cll.length:=by rw [h2.len]; exact hi
 have hiv : i < V.cvs.length:=by rw [h2.own.len]; exact hil
 have hs:=stp_app hg (X:=4) (by omega) (fun k hk => h2.role k (.inr ⟨i,hiv,hk⟩)) hl
 have hou:=kInt.lt ho
 have h1:=h.step hs (by omega) (rol_fr h.fr hg.size fun k hk => (hou k hk).2) (rol_low h.low fun k hk => (hou k hk).1)
 have hob:=own_blk h2.own.out hiv
 have hs2 : Stp (rol rl 4 u) (rol rl 4 u) 4 W1 (W1.setCell ⟨blk a,ofs a + i,none⟩ u) (some (blk a)):=stp_set (p:=⟨blk a,ofs a + i,none⟩) (by omega) (rol_keep (h2.role _ (.inl hob)))
 have hput:=h2.own.put kInt hil hg ho (fun k hk => by
  rcases hl with e | e
  ·left; rw [← e]; exact hk
  ·right; rw [e] at hk; simp at hk; omega)
 refine ⟨rol rl 4 u, ?_,(hs.ext (by omega)).trans (hs2.ext (by omega))⟩
 refine ⟨fun _ => by rw [hs2.grown.block sv h1.lbox.2 (fun e => by have:=hs2.part sv e.symm; rw [h1.rbox] at this; omega)]; exact h1.box (by omega),h1.rbox,⟨h1.lbox.1,by simpa using h1.lbox.2⟩,fun _ => (h1.sets (by omega)).step hs2 (by omega),fun _ => (h1.fresh (by omega)).step hs2 (by omega),fun _ => ?_,fun _ => (h1.pt (by omega)).step hs2 (by omega),fun _ => (h1.ld (by omega)).step hs2 (by omega),fun _ => (h1.sr (by omega)).step hs2 (by omega),fun _ => (h1.q (by omega)).step hs2 (by omega),fun _ => (h1.todo (by omega)).step hs2 (by omega),fun k hk => h1.fr k (by simpa using hk),h1.bel.setCell (h2.own.out.lt _ hob).1 _,h1.low⟩
 show CpC S.N (rol rl 4 u) w0.heap.size _ V.cp (V.cvs.set i u) (V.cll.set i (nth V.cll i ++ [x])) (upd st.cp i (st.cp i ++ [y]))
 rw [ha]
 refine ⟨hput,fun k hk => ?_,by simp [h2.len],fun j hj => ?_⟩
 ·rcases foot_set hk with e | e
  ·exact rol_keep (h2.role k e)
  ·unfold rol; rw [if_pos e]
 ·rw [nth_set]
  by_cases e : i = j
  ·subst e; rw [if_pos ⟨rfl,hil⟩,upd_same]; rw [h2.mean i hi,hxy]; simp
  ·rw [if_neg (by omega),upd_other _ _ _ (Ne.symm e)]; exact h2.mean j hj
theorem Mem.putPt {a : Option Addr} {n c : Nat} (h : Mem S w0 sv rl V st W) (ha : V.pt = .slice a n c) {i : Nat} (hi : i < S.vars) {W1 : World} {u : Value} {x : RP} {y : Nat × (Nat→Bool)} (hg : W.grownBy W1 (nth V.pvs i).ownBlock) (ho : IPart W1 w0.heap.size u (nth V.pll i ++ [x]))
  (hl : u.ownBlock = (nth V.pvs i).ownBlock ∨ u.ownBlock = some W.heap.size) (hxy : x.to = (y.1 : Int)∧IsS rl W x.set y.2) :
  ∃ rl',Mem S w0 sv rl' { V with pvs:=V.pvs.set i u,pll:=V.pll.set i (nth V.pll i ++ [x]) } { st with pt:=upd st.pt i (st.pt i ++ [y]) } (W1.setCell ⟨blk a,ofs a + i,none⟩ u)∧Ext rl rl' W (W1.setCell ⟨blk a,ofs a + i,none⟩ u):=by
 have h2:=h.pt (by omega)
 rw [ha] at h2
 have hil : i < V.pll.length:=by rw [h2.len]; exact hi
 have hiv : i < V.pvs.length:=by rw [h2.own.len]; exact hil
 have hs:=stp_app hg (X:=5) (by omega) (fun k hk => h2.role k (.inr ⟨i,hiv,hk⟩)) hl
 have hou:=kPart.lt ho
 have h1:=h.step hs (by omega) (rol_fr h.fr hg.size fun k hk => (hou k hk).2) (rol_low h.low fun k hk => (hou k hk).1)
 have hob:=own_blk h2.own.out hiv
 have hs2 : Stp (rol rl 5 u) (rol rl 5 u) 5 W1 (W1.setCell ⟨blk a,ofs a + i,none⟩ u) (some (blk a)):=stp_set (p:=⟨blk a,ofs a + i,none⟩) (by omega) (rol_keep (h2.role _ (.inl hob)))
 have hput:=h2.own.put kPart hil hg ho (fun k hk => by
  rcases hl with e | e
  ·left; rw [← e]; exact hk
  ·right; rw [e] at hk; simp at hk; omega)
 refine ⟨rol rl 5 u, ?_,(hs.ext (by omega)).trans (hs2.ext (by omega))⟩
 refine ⟨fun _ => by rw [hs2.grown.block sv h1.lbox.2 (fun e => by have:=hs2.part sv e.symm; rw [h1.rbox] at this; omega)]; exact h1.box (by omega),h1.rbox,⟨h1.lbox.1,by simpa using h1.lbox.2⟩,fun _ => (h1.sets (by omega)).step hs2 (by omega),fun _ => (h1.fresh (by omega)).step hs2 (by omega),fun _ => (h1.cp (by omega)).step hs2 (by omega),fun _ => ?_,fun _ => (h1.ld (by omega)).step hs2 (by omega),fun _ => (h1.sr (by omega)).step hs2 (by omega),fun _ => (h1.q (by omega)).step hs2 (by omega),fun _ => (h1.todo (by omega)).step hs2 (by omega),fun k hk => h1.fr k (by simpa using hk),h1.bel.setCell (h2.own.out.lt _ hob).1 _,h1.low⟩
 show PtC S.vars (rol rl 5 u) w0.heap.size _ V.pt (V.pvs.set i u) (V.pll.set i (nth V.pll i ++ [x])) (upd st.pt i (st.pt i ++ [y]))
 rw [ha]
 refine ⟨hput,fun k hk => ?_,by simp [h2.len],fun j hj => ?_⟩
 ·rcases foot_set hk with e | e
  ·exact rol_keep (h2.role k e)
  ·unfold rol; rw [if_pos e]
 ·rw [nth_set]
  by_cases e : i = j
  ·subst e; rw [if_pos ⟨rfl,hil⟩,upd_same]; exact (((h2.mean i hi).step hs).step hs2).snoc hxy.1 ((hxy.2.step hs).step hs2)
  ·rw [if_neg (by omega),upd_other _ _ _ (Ne.symm e)]; exact ((h2.mean j hj).step hs).step hs2
theorem Mem.putLd {a : Option Addr} {n c : Nat} (h : Mem S w0 sv rl V st W) (ha : V.ld = .slice a n c) {i : Nat} (hi : i < S.vars) {W1 : World} {u : Value} {x : RC} {y : C} (hg : W.grownBy W1 (nth V.lvs i).ownBlock) (ho : ICon W1 w0.heap.size u (nth V.lll i ++ [x]))
  (hl : u.ownBlock = (nth V.lvs i).ownBlock ∨ u.ownBlock = some W.heap.size) (hxy : x.k = (y.k : Int)∧x.a = (y.a : Int)∧x.b = (y.b : Int)∧x.f = (y.f : Int)) :
  ∃ rl',Mem S w0 sv rl' { V with lvs:=V.lvs.set i u,lll:=V.lll.set i (nth V.lll i ++ [x]) } { st with ld:=upd st.ld i (st.ld i ++ [y]) } (W1.setCell ⟨blk a,ofs a + i,none⟩ u)∧Ext rl rl' W (W1.setCell ⟨blk a,ofs a + i,none⟩ u):=by
 have h2:=h.ld (by omega)
 rw [ha] at h2
 have hil : i < V.lll.length:=by rw [h2.len]; exact hi
 have hiv : i < V.lvs.length:=by rw [h2.own.len]; exact hil
 have hs:=stp_app hg (X:=6) (by omega) (fun k hk => h2.role k (.inr ⟨i,hiv,hk⟩)) hl
 have hou:=kCon.lt ho
 have h1:=h.step hs (by omega) (rol_fr h.fr hg.size fun k hk => (hou k hk).2) (rol_low h.low fun k hk => (hou k hk).1)
 have hob:=own_blk h2.own.out hiv
 have hs2 : Stp (rol rl 6 u) (rol rl 6 u) 6 W1 (W1.setCell ⟨blk a,ofs a + i,none⟩ u) (some (blk a)):=stp_set (p:=⟨blk a,ofs a + i,none⟩) (by omega) (rol_keep (h2.role _ (.inl hob)))
 have hput:=h2.own.put kCon hil hg ho (fun k hk => by
  rcases hl with e | e
  ·left; rw [← e]; exact hk
  ·right; rw [e] at hk; simp at hk; omega)
 refine ⟨rol rl 6 u, ?_,(hs.ext (by omega)).trans (hs2.ext (by omega))⟩
 refine ⟨fun _ => by rw [hs2.grown.block sv h1.lbox.2 (fun e => by have:=hs2.part sv e.symm; rw [h1.rbox] at this; omega)]; exact h1.box (by omega),h1.rbox,⟨h1.lbox.1,by simpa using h1.lbox.2⟩,fun _ => (h1.sets (by omega)).step hs2 (by omega),fun _ => (h1.fresh (by omega)).step hs2 (by omega),fun _ => (h1.cp (by omega)).step hs2 (by omega),fun _ => (h1.pt (by omega)).step hs2 (by omega),fun _ => ?_,fun _ => (h1.sr (by omega)).step hs2 (by omega),fun _ => (h1.q (by omega)).step hs2 (by omega),fun _ => (h1.todo (by omega)).step hs2 (by omega),fun k hk => h1.fr k (by simpa using hk),h1.bel.setCell (h2.own.out.lt _ hob).1 _,h1.low⟩
 show LdC S.vars (rol rl 6 u) w0.heap.size 6 _ V.ld (V.lvs.set i u) (V.lll.set i (nth V.lll i ++ [x])) (upd st.ld i (st.ld i ++ [y]))
 rw [ha]
 refine ⟨hput,fun k hk => ?_,by simp [h2.len],fun j hj => ?_⟩
 ·rcases foot_set hk with e | e
  ·exact rol_keep (h2.role k e)
  ·unfold rol; rw [if_pos e]
 ·rw [nth_set]
  by_cases e : i = j
  ·subst e; rw [if_pos ⟨rfl,hil⟩,upd_same]; exact (h2.mean i hi).snoc hxy
  ·rw [if_neg (by omega),upd_other _ _ _ (Ne.symm e)]; exact h2.mean j hj
theorem Mem.putSr {a : Option Addr} {n c : Nat} (h : Mem S w0 sv rl V st W) (ha : V.sr = .slice a n c) {i : Nat} (hi : i < S.vars) {W1 : World} {u : Value} {x : RC} {y : C} (hg : W.grownBy W1 (nth V.svs i).ownBlock) (ho : ICon W1 w0.heap.size u (nth V.sll i ++ [x]))
  (hl : u.ownBlock = (nth V.svs i).ownBlock ∨ u.ownBlock = some W.heap.size) (hxy : x.k = (y.k : Int)∧x.a = (y.a : Int)∧x.b = (y.b : Int)∧x.f = (y.f : Int)) :
  ∃ rl',Mem S w0 sv rl' { V with svs:=V.svs.set i u,sll:=V.sll.set i (nth V.sll i ++ [x]) } { st with sr:=upd st.sr i (st.sr i ++ [y]) } (W1.setCell ⟨blk a,ofs a + i,none⟩ u)∧Ext rl rl' W (W1.setCell ⟨blk a,ofs a + i,none⟩ u):=by
 have h2:=h.sr (by omega)
 rw [ha] at h2
 have hil : i < V.sll.length:=by rw [h2.len]; exact hi
 have hiv : i < V.svs.length:=by rw [h2.own.len]; exact hil
 have hs:=stp_app hg (X:=7) (by omega) (fun k hk => h2.role k (.inr ⟨i,hiv,hk⟩)) hl
 have hou:=kCon.lt ho
 have h1:=h.step hs (by omega) (rol_fr h.fr hg.size fun k hk => (hou k hk).2) (rol_low h.low fun k hk => (hou k hk).1)
 have hob:=own_blk h2.own.out hiv
 have hs2 : Stp (rol rl 7 u) (rol rl 7 u) 7 W1 (W1.setCell ⟨blk a,ofs a + i,none⟩ u) (some (blk a)):=stp_set (p:=⟨blk a,ofs a + i,none⟩) (by omega) (rol_keep (h2.role _ (.inl hob)))
 have hput:=h2.own.put kCon hil hg ho (fun k hk => by
  rcases hl with e | e
  ·left; rw [← e]; exact hk
  ·right; rw [e] at hk; simp at hk; omega)
 refine ⟨rol rl 7 u, ?_,(hs.ext (by omega)).trans (hs2.ext (by omega))⟩
 refine ⟨fun _ => by rw [hs2.grown.block sv h1.lbox.2 (fun e => by have:=hs2.part sv e.symm; rw [h1.rbox] at this; omega)]; exact h1.box (by omega),h1.rbox,⟨h1.lbox.1,by simpa using h1.lbox.2⟩,fun _ => (h1.sets (by omega)).step hs2 (by omega),fun _ => (h1.fresh (by omega)).step hs2 (by omega),fun _ => (h1.cp (by omega)).step hs2 (by omega),fun _ => (h1.pt (by omega)).step hs2 (by omega),fun _ => (h1.ld (by omega)).step hs2 (by omega),fun _ => ?_,fun _ => (h1.q (by omega)).step hs2 (by omega),fun _ => (h1.todo (by omega)).step hs2 (by omega),fun k hk => h1.fr k (by simpa using hk),h1.bel.setCell (h2.own.out.lt _ hob).1 _,h1.low⟩
 show LdC S.vars (rol rl 7 u) w0.heap.size 7 _ V.sr (V.svs.set i u) (V.sll.set i (nth V.sll i ++ [x])) (upd st.sr i (st.sr i ++ [y]))
 rw [ha]
 refine ⟨hput,fun k hk => ?_,by simp [h2.len],fun j hj => ?_⟩
 ·rcases foot_set hk with e | e
  ·exact rol_keep (h2.role k e)
  ·unfold rol; rw [if_pos e]
 ·rw [nth_set]
  by_cases e : i = j
  ·subst e; rw [if_pos ⟨rfl,hil⟩,upd_same]; exact (h2.mean i hi).snoc hxy
  ·rw [if_neg (by omega),upd_other _ _ _ (Ne.symm e)]; exact h2.mean j hj
end
end Go.Proofs.YtgblfjccccdidaaGreat
end
section
namespace Go.Proofs.YtgblfjccccdidaaGreat
open Go.RowKit Go.Dfl Go.And
section
variable {rl : Nat→Nat} {W : World} {v u : Value} {s p : Nat→Bool}
def MakesS (rl : Nat→Nat) (s : Nat→Bool) (W : World) (e : Ending) (W' : World) : Prop:=∃ a n c,e = .returned (.slice a n c)∧IsS rl W' (.slice a n c) s∧Below W.heap.size W W'
theorem makesS {q : Nat→Bool} {n : Nat} {e : Ending} {W' : World} (h : SetPost q n W e W') (hn : n ≤ 1024) (hfr : ∀ k,W.heap.size ≤ k→rl k = 0) (hq : ∀ x,q x = s x) : MakesS rl s W e W':=by
 obtain ⟨v,r,rfl,⟨h1,h2⟩,h3,h4,h5,h6,h7⟩:=h
 obtain ⟨a,c,rfl, -⟩:=h1.out1 sBits
 refine ⟨a,_,c,rfl,⟨r,h1,h3,by omega,fun x => (h6 x).trans (hq x),fun k hk h0 => hfr k ?_⟩,h7⟩
 obtain ⟨g1, -⟩:=h2 a _ c rfl h0
 cases a with
 | none => simp [Value.ownBlock] at hk
 | some ad => simp [Value.ownBlock] at hk; simp [blk] at g1; omega
theorem Within_S (h : IsS rl W v s) (h' : IsS rl W u p) : Calls Tryz.prog 98 #[v,u] W (fun e W' => ∃ b,e = .returned (.bool b)∧(b = true ↔ ∀ x,s x = true→p x = true)∧Qt W W'):=by
 obtain ⟨r,a1,a2,a3,a4,a5⟩:=h
 obtain ⟨r',b1,b2,b3,b4,b5⟩:=h'
 refine (Within_any v u r r' W a1 b1 a2 b2).mono fun e W' ⟨he,hq⟩ => ⟨_,he, ?_,hq⟩
 rw [within_iff]
 simp only [a4,b4]
theorem Union_S (h : IsS rl W v s) (h' : IsS rl W u p) (hfr : ∀ k,W.heap.size ≤ k→rl k = 0) : Calls Tryz.prog 118 #[v,u] W (MakesS rl (fun x => s x || p x) W):=by
 obtain ⟨r,a1,a2,a3,a4,a5⟩:=h
 obtain ⟨r',b1,b2,b3,b4,b5⟩:=h'
 refine (Union_any v u r r' W a1 b1 a2 b2 1024 (by omega) a3 b3).mono fun e W' hh => makesS hh (by omega) hfr fun x => ?_
 simp only [a4,b4]
theorem Minus_S (h : IsS rl W v s) (h' : IsS rl W u p) (hfr : ∀ k,W.heap.size ≤ k→rl k = 0) : Calls Tryz.prog 117 #[v,u] W (MakesS rl (fun x => s x && !p x) W):=by
 obtain ⟨r,a1,a2,a3,a4,a5⟩:=h
 obtain ⟨r',b1,b2,b3,b4,b5⟩:=h'
 refine (Minus_any v u r r' W a1 b1 a2 b2 (by omega)).mono fun e W' hh => makesS hh a3 hfr fun x => ?_
 simp only [a4,b4]
theorem Both_S (h : IsS rl W v s) (h' : IsS rl W u p) (hfr : ∀ k,W.heap.size ≤ k→rl k = 0) : Calls Tryz.prog 94 #[v,u] W (MakesS rl (fun x => s x && p x) W):=by
 obtain ⟨r,a1,a2,a3,a4,a5⟩:=h
 obtain ⟨r',b1,b2,b3,b4,b5⟩:=h'
 refine (Both_any v u r r' W a1 b1 a2 b2 1024 (by omega) a3).mono fun e W' hh => makesS hh (by omega) hfr fun x => ?_
 simp only [a4,b4]
end
section
variable {S : Syst} {w0 : World} {sv : Nat} {rl : Nat→Nat} {V : Vals} {st : St} {W : World}
theorem Mem.fld (h : Mem S w0 sv rl V st W) (j : Nat) {v : Value} (hj : (V.cells S)[j]? = some v) : W.cell? ⟨sv,j,none⟩ = some v∧W.frozen? ⟨sv,j,none⟩ = false:=by
 have:=h.box (by omega)
 exact ⟨by simp [World.cell?,this,hj],by simp [World.frozen?,this]⟩
theorem Mem.todoBox (h : Mem S w0 sv rl V st W) {W1 : World} (hg : W.grownBy W1 V.todo.ownBlock) : W1.cell? ⟨sv,11,none⟩ = some V.todo∧W1.frozen? ⟨sv,11,none⟩ = false:=by
 have hb:=hg.block sv h.lbox.2 fun e => by have:=(h.todo (by omega)).role sv e.symm; rw [h.rbox] at this; omega
 obtain ⟨q1,q2⟩:=h.fld 11 (v:=V.todo) rfl
 exact ⟨by rw [World.cell?_of_block (a:=⟨sv,11,none⟩) hb]; exact q1,by rw [World.frozen?_of_block (a:=⟨sv,11,none⟩) hb]; exact q2⟩
theorem Mem.svNe (h : Mem S w0 sv rl V st W) {k : Nat} {X : Nat} (hk : rl k = X) (hX : X ≠ 1) : sv ≠ k:=fun e => hX (by rw [← hk, ← e,h.rbox])
theorem Mem.qBlk {a : Option Addr} {c : Nat} (h : Mem S w0 sv rl V st W) (ha : V.q = .slice a S.N c) {i : Nat} (hi : i < S.N) : sv ≠ blk a:=by
 have hS:=h.q (by omega)
 rw [ha] at hS
 exact h.svNe (hS.role _ (ownB_blk hS.own (i:=i) (by rw [hS.len]; exact hi))) (by omega)
theorem Mem.setsV (h : Mem S w0 sv rl V st W) : ∃ a c,V.sets = .slice a S.N c:=(h.sets (by omega)).own.shape (h.sets (by omega)).len
theorem Mem.setsIx {a : Option Addr} {c : Nat} (h : Mem S w0 sv rl V st W) (ha : V.sets = .slice a S.N c) {i : Nat} (hi : i < S.N) (W' : World) : (Instr.indexAt 63 (.slice a S.N c) (.int .i64 (i : Int))).run Tryz.prog W' = .ok (.pointer (some ⟨blk a,ofs a + i,none⟩)) W':=by
 have hS:=h.sets (by omega)
 rw [ha] at hS
 obtain ⟨a2,c2,he, -,hidx, -⟩:=hS.own.lst.out1 sBits2
 simp at he
 obtain ⟨rfl,hlen,rfl⟩:=he
 rw [← hlen] at hidx
 have:=hidx .i64 (i : Int) (by omega) (by omega) W'
 simpa using this
theorem Mem.setsAt {a : Option Addr} {c : Nat} (h : Mem S w0 sv rl V st W) (ha : V.sets = .slice a S.N c) {i : Nat} (hi : i < S.N) : W.cell? ⟨sv,4,none⟩ = some (.slice a S.N c)∧W.cell? ⟨blk a,ofs a + i,none⟩ = some (nth V.xs i)∧W.frozen? ⟨blk a,ofs a + i,none⟩ = false:=by
 have hS:=h.sets (by omega)
 refine ⟨(h.fld 4 (by rw [← ha]; rfl)).1, ?_⟩
 rw [ha] at hS
 have hl:=hS.len
 obtain ⟨a2,c2,he, -, -,hcell, -⟩:=hS.own.lst.out1 sBits2
 simp at he
 obtain ⟨rfl,hlen,rfl⟩:=he
 exact ⟨hcell i (by omega),hS.own.frozen (by omega) _⟩
theorem Mem.freshV (h : Mem S w0 sv rl V st W) : ∃ a c,V.fresh = .slice a S.N c:=(h.fresh (by omega)).own.shape (h.fresh (by omega)).len
theorem Mem.freshIx {a : Option Addr} {c : Nat} (h : Mem S w0 sv rl V st W) (ha : V.fresh = .slice a S.N c) {i : Nat} (hi : i < S.N) (W' : World) : (Instr.indexAt 63 (.slice a S.N c) (.int .i64 (i : Int))).run Tryz.prog W' = .ok (.pointer (some ⟨blk a,ofs a + i,none⟩)) W':=by
 have hS:=h.fresh (by omega)
 rw [ha] at hS
 obtain ⟨a2,c2,he, -,hidx, -⟩:=hS.own.lst.out1 sBits2
 simp at he
 obtain ⟨rfl,hlen,rfl⟩:=he
 rw [← hlen] at hidx
 have:=hidx .i64 (i : Int) (by omega) (by omega) W'
 simpa using this
theorem Mem.freshAt {a : Option Addr} {c : Nat} (h : Mem S w0 sv rl V st W) (ha : V.fresh = .slice a S.N c) {i : Nat} (hi : i < S.N) : W.cell? ⟨sv,5,none⟩ = some (.slice a S.N c)∧W.cell? ⟨blk a,ofs a + i,none⟩ = some (nth V.ys i)∧W.frozen? ⟨blk a,ofs a + i,none⟩ = false:=by
 have hS:=h.fresh (by omega)
 refine ⟨(h.fld 5 (by rw [← ha]; rfl)).1, ?_⟩
 rw [ha] at hS
 have hl:=hS.len
 obtain ⟨a2,c2,he, -, -,hcell, -⟩:=hS.own.lst.out1 sBits2
 simp at he
 obtain ⟨rfl,hlen,rfl⟩:=he
 exact ⟨hcell i (by omega),hS.own.frozen (by omega) _⟩
theorem Mem.qV (h : Mem S w0 sv rl V st W) : ∃ a c,V.q = .slice a S.N c:=(h.q (by omega)).own.shape (h.q (by omega)).len
theorem Mem.qIx {a : Option Addr} {c : Nat} (h : Mem S w0 sv rl V st W) (ha : V.q = .slice a S.N c) {i : Nat} (hi : i < S.N) (W' : World) : (Instr.indexAt 81 (.slice a S.N c) (.int .i64 (i : Int))).run Tryz.prog W' = .ok (.pointer (some ⟨blk a,ofs a + i,none⟩)) W':=by
 have hS:=h.q (by omega)
 rw [ha] at hS
 obtain ⟨a2,c2,he, -,hidx, -⟩:=hS.own.lst.out1 sBool
 simp at he
 obtain ⟨rfl,hlen,rfl⟩:=he
 rw [← hlen] at hidx
 have:=hidx .i64 (i : Int) (by omega) (by omega) W'
 simpa using this
theorem Mem.qAt {a : Option Addr} {c : Nat} (h : Mem S w0 sv rl V st W) (ha : V.q = .slice a S.N c) {i : Nat} (hi : i < S.N) : W.cell? ⟨sv,10,none⟩ = some (.slice a S.N c)∧W.cell? ⟨blk a,ofs a + i,none⟩ = some (.bool (nth V.ql i))∧W.frozen? ⟨blk a,ofs a + i,none⟩ = false:=by
 have hS:=h.q (by omega)
 refine ⟨(h.fld 10 (by rw [← ha]; rfl)).1, ?_⟩
 rw [ha] at hS
 have hl:=hS.len
 obtain ⟨a2,c2,he, -, -,hcell, -⟩:=hS.own.lst.out1 sBool
 simp at he
 obtain ⟨rfl,hlen,rfl⟩:=he
 exact ⟨hcell i (by omega),hS.own.frozen (by omega) _⟩
theorem Mem.cpV (h : Mem S w0 sv rl V st W) : ∃ a c,V.cp = .slice a S.N c:=(h.cp (by omega)).own.out.shape ((h.cp (by omega)).own.len.trans (h.cp (by omega)).len)
theorem Mem.cpIx {a : Option Addr} {c : Nat} (h : Mem S w0 sv rl V st W) (ha : V.cp = .slice a S.N c) {i : Nat} (hi : i < S.N) (W' : World) : (Instr.indexAt 27 (.slice a S.N c) (.int .i64 (i : Int))).run Tryz.prog W' = .ok (.pointer (some ⟨blk a,ofs a + i,none⟩)) W':=by
 have hS:=h.cp (by omega)
 rw [ha] at hS
 obtain ⟨a2,c2,he, -,hidx, -⟩:=hS.own.out.lst.out1 sInt2
 simp at he
 obtain ⟨rfl,hlen,rfl⟩:=he
 rw [← hlen] at hidx
 have:=hidx .i64 (i : Int) (by omega) (by omega) W'
 simpa using this
theorem Mem.cpAt {a : Option Addr} {c : Nat} (h : Mem S w0 sv rl V st W) (ha : V.cp = .slice a S.N c) {i : Nat} (hi : i < S.N) : W.cell? ⟨sv,6,none⟩ = some (.slice a S.N c)∧W.cell? ⟨blk a,ofs a + i,none⟩ = some (nth V.cvs i)∧W.frozen? ⟨blk a,ofs a + i,none⟩ = false:=by
 have hS:=h.cp (by omega)
 refine ⟨(h.fld 6 (by rw [← ha]; rfl)).1, ?_⟩
 rw [ha] at hS
 have hl:=hS.own.len.trans hS.len
 obtain ⟨a2,c2,he, -, -,hcell, -⟩:=hS.own.out.lst.out1 sInt2
 simp at he
 obtain ⟨rfl,hlen,rfl⟩:=he
 exact ⟨hcell i (by omega),hS.own.out.frozen (by omega) _⟩
theorem Mem.ptV (h : Mem S w0 sv rl V st W) : ∃ a c,V.pt = .slice a S.vars c:=(h.pt (by omega)).own.out.shape ((h.pt (by omega)).own.len.trans (h.pt (by omega)).len)
theorem Mem.ptIx {a : Option Addr} {c : Nat} (h : Mem S w0 sv rl V st W) (ha : V.pt = .slice a S.vars c) {i : Nat} (hi : i < S.vars) (W' : World) : (Instr.indexAt 100 (.slice a S.vars c) (.int .i64 (i : Int))).run Tryz.prog W' = .ok (.pointer (some ⟨blk a,ofs a + i,none⟩)) W':=by
 have hS:=h.pt (by omega)
 rw [ha] at hS
 obtain ⟨a2,c2,he, -,hidx, -⟩:=hS.own.out.lst.out1 sPart2
 simp at he
 obtain ⟨rfl,hlen,rfl⟩:=he
 rw [← hlen] at hidx
 have:=hidx .i64 (i : Int) (by omega) (by omega) W'
 simpa using this
theorem Mem.ptAt {a : Option Addr} {c : Nat} (h : Mem S w0 sv rl V st W) (ha : V.pt = .slice a S.vars c) {i : Nat} (hi : i < S.vars) : W.cell? ⟨sv,7,none⟩ = some (.slice a S.vars c)∧W.cell? ⟨blk a,ofs a + i,none⟩ = some (nth V.pvs i)∧W.frozen? ⟨blk a,ofs a + i,none⟩ = false:=by
 have hS:=h.pt (by omega)
 refine ⟨(h.fld 7 (by rw [← ha]; rfl)).1, ?_⟩
 rw [ha] at hS
 have hl:=hS.own.len.trans hS.len
 obtain ⟨a2,c2,he, -, -,hcell, -⟩:=hS.own.out.lst.out1 sPart2
 simp at he
 obtain ⟨rfl,hlen,rfl⟩:=he
 exact ⟨hcell i (by omega),hS.own.out.frozen (by omega) _⟩
theorem Mem.ldV (h : Mem S w0 sv rl V st W) : ∃ a c,V.ld = .slice a S.vars c:=(h.ld (by omega)).own.out.shape ((h.ld (by omega)).own.len.trans (h.ld (by omega)).len)
theorem Mem.ldIx {a : Option Addr} {c : Nat} (h : Mem S w0 sv rl V st W) (ha : V.ld = .slice a S.vars c) {i : Nat} (hi : i < S.vars) (W' : World) : (Instr.indexAt 101 (.slice a S.vars c) (.int .i64 (i : Int))).run Tryz.prog W' = .ok (.pointer (some ⟨blk a,ofs a + i,none⟩)) W':=by
 have hS:=h.ld (by omega)
 rw [ha] at hS
 obtain ⟨a2,c2,he, -,hidx, -⟩:=hS.own.out.lst.out1 sCon2
 simp at he
 obtain ⟨rfl,hlen,rfl⟩:=he
 rw [← hlen] at hidx
 have:=hidx .i64 (i : Int) (by omega) (by omega) W'
 simpa using this
theorem Mem.ldAt {a : Option Addr} {c : Nat} (h : Mem S w0 sv rl V st W) (ha : V.ld = .slice a S.vars c) {i : Nat} (hi : i < S.vars) : W.cell? ⟨sv,8,none⟩ = some (.slice a S.vars c)∧W.cell? ⟨blk a,ofs a + i,none⟩ = some (nth V.lvs i)∧W.frozen? ⟨blk a,ofs a + i,none⟩ = false:=by
 have hS:=h.ld (by omega)
 refine ⟨(h.fld 8 (by rw [← ha]; rfl)).1, ?_⟩
 rw [ha] at hS
 have hl:=hS.own.len.trans hS.len
 obtain ⟨a2,c2,he, -, -,hcell, -⟩:=hS.own.out.lst.out1 sCon2
 simp at he
 obtain ⟨rfl,hlen,rfl⟩:=he
 exact ⟨hcell i (by omega),hS.own.out.frozen (by omega) _⟩
theorem Mem.srV (h : Mem S w0 sv rl V st W) : ∃ a c,V.sr = .slice a S.vars c:=(h.sr (by omega)).own.out.shape ((h.sr (by omega)).own.len.trans (h.sr (by omega)).len)
theorem Mem.srIx {a : Option Addr} {c : Nat} (h : Mem S w0 sv rl V st W) (ha : V.sr = .slice a S.vars c) {i : Nat} (hi : i < S.vars) (W' : World) : (Instr.indexAt 101 (.slice a S.vars c) (.int .i64 (i : Int))).run Tryz.prog W' = .ok (.pointer (some ⟨blk a,ofs a + i,none⟩)) W':=by
 have hS:=h.sr (by omega)
 rw [ha] at hS
 obtain ⟨a2,c2,he, -,hidx, -⟩:=hS.own.out.lst.out1 sCon2
 simp at he
 obtain ⟨rfl,hlen,rfl⟩:=he
 rw [← hlen] at hidx
 have:=hidx .i64 (i : Int) (by omega) (by omega) W'
 simpa using this
theorem Mem.srAt {a : Option Addr} {c : Nat} (h : Mem S w0 sv rl V st W) (ha : V.sr = .slice a S.vars c) {i : Nat} (hi : i < S.vars) : W.cell? ⟨sv,9,none⟩ = some (.slice a S.vars c)∧W.cell? ⟨blk a,ofs a + i,none⟩ = some (nth V.svs i)∧W.frozen? ⟨blk a,ofs a + i,none⟩ = false:=by
 have hS:=h.sr (by omega)
 refine ⟨(h.fld 9 (by rw [← ha]; rfl)).1, ?_⟩
 rw [ha] at hS
 have hl:=hS.own.len.trans hS.len
 obtain ⟨a2,c2,he, -, -,hcell, -⟩:=hS.own.out.lst.out1 sCon2
 simp at he
 obtain ⟨rfl,hlen,rfl⟩:=he
 exact ⟨hcell i (by omega),hS.own.out.frozen (by omega) _⟩
end
def DoesP (R : St→St→Prop) (S : Syst) (w0 : World) (sv : Nat) (rl : Nat→Nat) (st : St) (W : World) (e : Ending) (W' : World) : Prop :=
 ∃ v rl' V' st',e = .returned v∧R st st'∧Mem S w0 sv rl' V' st' W'∧Ext rl rl' W W'
def DoesV (K : Vals→Vals→Prop) (R : St→St→Prop) (S : Syst) (w0 : World) (sv : Nat) (rl : Nat→Nat) (V : Vals) (st : St) (W : World) (e : Ending) (W' : World) : Prop :=
 ∃ v rl' V' st',e = .returned v∧R st st'∧Mem S w0 sv rl' V' st' W'∧Ext rl rl' W W'∧K V V'
theorem DoesV.weak {K : Vals→Vals→Prop} {R : St→St→Prop} {S : Syst} {w0 : World} {sv : Nat} {rl : Nat→Nat} {V : Vals} {st : St} {W : World} {e : Ending} {W' : World} (h : DoesV K R S w0 sv rl V st W e W') : DoesP R S w0 sv rl st W e W':=by
 obtain ⟨v,rl',V',st',h1,h2,h3,h4, -⟩:=h
 exact ⟨v,rl',V',st',h1,h2,h3,h4⟩
def KJ (V V' : Vals) : Prop:=V'.pvs = V.pvs∧V'.lvs = V.lvs∧V'.svs = V.svs
def KP (V V' : Vals) : Prop:=V'.cvs = V.cvs∧KJ V V'
theorem KP.refl (V : Vals) : KP V V:=⟨rfl,rfl,rfl,rfl⟩
theorem KJ.refl (V : Vals) : KJ V V:=⟨rfl,rfl,rfl⟩
theorem KJ.trans {V1 V2 V3 : Vals} (h : KJ V1 V2) (k : KJ V2 V3) : KJ V1 V3:=⟨k.1.trans h.1,k.2.1.trans h.2.1,k.2.2.trans h.2.2⟩
theorem KP.trans {V1 V2 V3 : Vals} (h : KP V1 V2) (k : KP V2 V3) : KP V1 V3:=⟨k.1.trans h.1,h.2.trans k.2⟩
theorem cells2_keep {W1 W2 : World} {row : Option Nat} {a b : Addr} {x y : Value} (h : W1.cell? a = some x∧W1.cell? b = some y) (hg : W1.grownBy W2 row) (ha : some a.block ≠ row) (hb : some b.block ≠ row) :
  W2.cell? a = some x∧W2.cell? b = some y:=⟨hg.cell h.1 ha,hg.cell h.2 hb⟩
set_option maxHeartbeats 3200000 in
set_option maxRecDepth 100000 in
theorem put_anyV {S : Syst} {w0 : World} {sv : Nat} {rl : Nat→Nat} {V : Vals} {st : St} {W : World} (h : Mem S w0 sv rl V st W) (node : Nat) (hn : node < S.N) (_hN : S.N ≤ 1000000) (ht : st.todo.length ≤ 1000000) {a : Option Addr} {n c : Nat} {s : Nat→Bool} (hv : IsS rl W (.slice a n c) s) :
  Calls Tryz.prog 91 #[.pointer (some ⟨sv,0,none⟩),.int .i64 node,.slice a n c] W (DoesV KP (Put node s) S w0 sv rl V st W):=by
 obtain ⟨ra,rc,hra⟩:=h.setsV
 obtain ⟨fa,fc,hfa⟩:=h.freshV
 obtain ⟨qa,qc,hqa⟩:=h.qV
 have i1:=h.setsIx hra hn
 have i2:=h.freshIx hfa hn
 have i3:=h.qIx hqa hn
 obtain ⟨c4,cS, -⟩:=h.setsAt hra hn
 have HM:=Lib.hid (And.intro h (And.intro hv (And.intro hra (And.intro hfa hqa))))
 clear h hv hra hfa hqa
 go_enter Tryz.func91,Tryz.ntmps91
 go_wp2_with fail
 refine (Within_S HM.out.2.1 ((HM.out.1.sets (by omega)).mean node hn)).mono ?_
 rintro e W1 ⟨b,rfl,hb,q1⟩
 have m1:=HM.out.1.keep (grownBy_qt q1)
 have e1 : Ext rl rl W W1:=Ext.grown (grownBy_qt q1)
 cases b
 ·have hno : ¬ ∀ x,s x = true→st.p node x = true:=fun hh => by have:=hb.2 hh; cases this
  clear c4 cS
  obtain ⟨c4,cS, -⟩:=m1.setsAt HM.out.2.2.1 hn
  have H1:=Lib.hid (And.intro m1 (And.intro e1 hno))
  clear m1 e1 hno hb q1
  go_wp2_with fail
  refine (Minus_S (HM.out.2.1.ex H1.out.2.1) ((H1.out.1.sets (by omega)).mean node hn) H1.out.1.fr).mono ?_
  rintro e W2 ⟨a2,n2,c2,rfl,s2,q2⟩
  have m2:=H1.out.1.keep (grownBy_below q2)
  have e2:=H1.out.2.1.trans (Ext.grown (grownBy_below q2))
  clear c4 cS q2
  obtain ⟨c4,cS,fS⟩:=m2.setsAt HM.out.2.2.1 hn
  have H2:=Lib.hid (And.intro m2 (And.intro e2 s2))
  clear m2 e2 s2
  go_wp2_with fail
  refine wp_region_mix [0,1,2,3,4,5,6,7,8,9,10,11,12] [13,14,15] (fun w' => w'.cell? ⟨sv,4,none⟩ = some (.slice ra S.N rc)∧w'.cell? ⟨blk ra,ofs ra + node,none⟩ = some (nth V.xs node)) (by kernel_rfl) (by kernel_rfl) (by kernel_rfl) ⟨c4,cS⟩ ?_
  repeat (
   refine wpHeads_cons (v:=?_) rfl (Or.inl ⟨by rfl, ?_⟩) ?_
   rotate_left
   ·(intro W hW; go_simp; try with_reducible rfl)
   simp only [Act.put,List.setIfInBounds_toArray])
  refine wpHeads_nil ?_
  refine wpTails_cons rfl ?_
  go_wp2_with fail
  have m3:=H2.out.1.keep (grownBy_drew0 _)
  refine (Union_S (rl:=rl) ((m3.sets (by omega)).mean node hn) (H2.out.2.2.ex (Ext.grown (grownBy_drew0 _))) m3.fr).mono ?_
  rintro e W3 ⟨a3,n3,c3,rfl,s3,q3⟩
  have m4:=m3.keep (grownBy_below q3)
  have e4:=H2.out.2.1.trans ((Ext.grown (rl:=rl) (grownBy_drew0 _)).trans (Ext.grown (grownBy_below q3)))
  have s4:=(H2.out.2.2.ex (Ext.grown (rl:=rl) (grownBy_drew0 _))).ex (Ext.grown (grownBy_below q3))
  obtain ⟨k4,kS,kF⟩:=m4.setsAt HM.out.2.2.1 hn
  clear c4 cS fS q3 m3
  go_wp2_with fail
  refine tail_mk ⟨k4,kS⟩ ?_
  refine wpTails_cons rfl ?_
  go_wp2_with fail
  refine tail_mk ⟨k4,kS⟩ ?_
  refine wpTails_one rfl ?_
  have m5:=m4.setSets HM.out.2.2.1 hn s3
  have HQ:=Lib.hid (And.intro m5.1 (And.intro (e4.trans m5.2) (s4.ex m5.2)))
  clear m5 m4 e4 s3 s4
  go_wp2_with fail
  refine thenQ_mk ?_
  refine K_gen (fun Z => Mem S w0 sv rl { V with xs:=V.xs.set node (.slice a3 n3 c3) } { st with p:=upd st.p node (fun x => st.p node x || (s x && !st.p node x)) } Z∧Ext rl rl W Z∧IsS rl Z (.slice a2 n2 c2) (fun x => s x && !st.p node x)) HQ.out ?_
  intro W5 h5
  clear H2 HQ k4 kS kF
  have H2:=Lib.hid h5
  obtain ⟨c4,cS,fS⟩:=h5.1.freshAt (i:=node) HM.out.2.2.2.1 hn
  obtain ⟨v3,hv3⟩ : ∃ v3,v3 = Value.slice a3 n3 c3:=⟨_,rfl⟩
  clear h5
  go_wp2_with fail
  rw [← hv3] at H2
  clear hv3 W3
  refine wp_region_mix [0,1,2,3,4,5,6,7,8,9,10,11,12] [13,14,15] (fun w' => w'.cell? ⟨sv,5,none⟩ = some (.slice fa S.N fc)∧w'.cell? ⟨blk fa,ofs fa + node,none⟩ = some (nth V.ys node)) (by kernel_rfl) (by kernel_rfl) (by kernel_rfl) ⟨c4,cS⟩ ?_
  repeat (
   refine wpHeads_cons (v:=?_) rfl (Or.inl ⟨by rfl, ?_⟩) ?_
   rotate_left
   ·(intro W hW; go_simp; try with_reducible rfl)
   simp only [Act.put,List.setIfInBounds_toArray])
  refine wpHeads_nil ?_
  refine wpTails_cons rfl ?_
  go_wp2_with fail
  have m3:=H2.out.1.keep (grownBy_drew0 _)
  refine (Union_S (rl:=rl) ((m3.fresh (by omega)).mean node hn) (H2.out.2.2.ex (Ext.grown (grownBy_drew0 _))) m3.fr).mono ?_
  rintro e W3 ⟨a3,n3,c3,rfl,s3,q3⟩
  have m4:=m3.keep (grownBy_below q3)
  have e4:=H2.out.2.1.trans ((Ext.grown (rl:=rl) (grownBy_drew0 _)).trans (Ext.grown (grownBy_below q3)))
  have s4:=(H2.out.2.2.ex (Ext.grown (rl:=rl) (grownBy_drew0 _))).ex (Ext.grown (grownBy_below q3))
  obtain ⟨k4,kS,kF⟩:=m4.freshAt HM.out.2.2.2.1 hn
  clear c4 cS fS q3 m3
  go_wp2_with fail
  refine tail_mk ⟨k4,kS⟩ ?_
  refine wpTails_cons rfl ?_
  go_wp2_with fail
  refine tail_mk ⟨k4,kS⟩ ?_
  refine wpTails_one rfl ?_
  have m5:=m4.setFresh HM.out.2.2.2.1 hn s3
  have HQ:=Lib.hid (And.intro m5.1 (And.intro (e4.trans m5.2) (s4.ex m5.2)))
  clear m5 m4 e4 s3 s4
  go_wp2_with fail
  refine thenQ_mk ?_
  refine K_gen (fun Z => Mem S w0 sv rl { V with xs:=V.xs.set node v3,ys:=V.ys.set node (.slice a3 n3 c3) } { st with p:=upd st.p node (fun x => st.p node x || (s x && !st.p node x)),f:=upd st.f node (fun x => st.f node x || (s x && !st.p node x)) } Z∧Ext rl rl W Z∧IsS rl Z (.slice a2 n2 c2) (fun x => s x && !st.p node x)) HQ.out ?_
  intro W6 h6
  clear H2 HQ k4 kS kF
  obtain ⟨c5,cQ,fQ⟩:=h6.1.qAt (i:=node) HM.out.2.2.2.2 hn
  have hqm:=((h6.1.q (by omega)).mean node hn)
  have H6:=Lib.hid h6
  clear h6
  obtain ⟨ta,tc,hta⟩:=(H6.out.1.todo (by omega)).own.shape (n:=st.todo.length) (by simp)
  have hta' : V.todo = .slice ta st.todo.length tc:=hta
  have c11:=(H6.out.1.fld 11 (v:=.slice ta st.todo.length tc) (by rw [← hta]; rfl)).1
  have hne:=H6.out.1.qBlk (i:=node) HM.out.2.2.2.2 hn
  have hne2:=Ne.symm hne
  have hno : ∃ x,s x = true∧st.p node x = false:=by
   have:=H1.out.2.2
   false_or_by_contra
   rename_i hh
   apply this
   intro x hx
   cases hp : st.p node x
   ·exact absurd ⟨x,hx,hp⟩ hh
   ·rfl
  have HT:=Lib.hid (And.intro hta' hno)
  clear hta hta' hno
  cases hq : nth V.ql node
  ·rw [hq] at cQ
   have hqq : st.q node = false:=by rw [← hq]; exact hqm.symm
   have HQQ:=Lib.hid hqq
   have m7:=H6.out.1.setQ (i:=node) HM.out.2.2.2.2 hn true
   have m8:=m7.1.keep (grownBy_alloc _ (.cells #[.int .i64 (node : Int)] 3))
   have e8:=H6.out.2.1.trans (m7.2.trans (Ext.grown (rl:=rl) (grownBy_alloc _ (.cells #[.int .i64 (node : Int)] 3))))
   have hsz:=m7.1.bel.size
   have H8:=Lib.hid (And.intro m8 e8)
   have hsz9 : w0.heap.size ≤ W6.heap.size:=H6.out.1.bel.size
   clear m7 m8 e8 hqm hqq hsz
   go_wp2_with (at_builtin; refine wp_appendS (f:=Value.int .i64) sInt rfl rfl _ _ rfl w0.heap.size (.slice ta st.todo.length tc) (st.todo.map fun x : Nat => (x : Int)) rfl (.slice (some ⟨W6.heap.size,0,none⟩) 1 1) [(node : Int)] rfl (by have:=(H8.out.1.todo (by omega)).own; dsimp only at this; rw [HT.out.1] at this; exact this) (src_one _ (cell_at1 (by simp))) (fun _ _ => rfl) (by simp; omega) (by omega) (by simp; omega) ?_; intro v76 W8 o76 g76 l76; obtain ⟨s76,c76,rfl⟩:=o76.shape (n:=st.todo.length + 1) (by simp); have g76' : World.grownBy _ W8 V.todo.ownBlock:=(by rw [HT.out.1]; exact g76); obtain ⟨b11,f11⟩:=H8.out.1.todoBox g76')
   have m9:=H8.out.1.pushTodo g76' o76 (by dsimp only; rw [HT.out.1]; exact l76)
   go_end0
   obtain ⟨rl',m10,e10⟩:=m9
   refine ⟨_,rl',_,_,rfl,.inr ⟨HT.out.2, ?_⟩,m10,H8.out.2.trans e10,rfl,rfl,rfl,rfl⟩
   simp only [HQQ.out]
   rfl
  ·rw [hq] at cQ
   have hqq : st.q node = true:=by rw [← hq]; exact hqm.symm
   have HQQ:=Lib.hid hqq
   clear hqm hqq
   go_wp2_with fail
   go_end0
   refine ⟨_,rl,_,_,rfl,.inr ⟨HT.out.2, ?_⟩,H6.out.1,H6.out.2.1,rfl,rfl,rfl,rfl⟩
   have : upd st.q node true = st.q:=by
    funext j
    by_cases e : j = node
    ·subst e; rw [upd_same,HQQ.out]
    ·rw [upd_other _ _ _ e]
   simp only [HQQ.out,this,if_true]
 ·have hyes:=hb.1 rfl
  have H1:=Lib.hid (And.intro m1 (And.intro e1 hyes))
  clear m1 e1 hyes hb
  go_wp2_with fail
  go_end0
  exact ⟨_,rl,V,st,rfl,.inl ⟨H1.out.2.2,rfl⟩,H1.out.1,H1.out.2.1,KP.refl _⟩
theorem put_any {S : Syst} {w0 : World} {sv : Nat} {rl : Nat→Nat} {V : Vals} {st : St} {W : World} (h : Mem S w0 sv rl V st W) (node : Nat) (hn : node < S.N) (hN : S.N ≤ 1000000) (ht : st.todo.length ≤ 1000000) {a : Option Addr} {n c : Nat} {s : Nat→Bool} (hv : IsS rl W (.slice a n c) s) :
  Calls Tryz.prog 91 #[.pointer (some ⟨sv,0,none⟩),.int .i64 node,.slice a n c] W (DoesP (Put node s) S w0 sv rl st W) :=
 (put_anyV h node hn hN ht hv).mono fun _ _ hh => hh.weak
end Go.Proofs.YtgblfjccccdidaaGreat
end
section
namespace Go.Proofs.YtgblfjccccdidaaGreat
open Go.RowKit Go.Dfl Go.And
theorem IsS.slice {rl : Nat→Nat} {W : World} {v : Value} {p : Nat→Bool} (h : IsS rl W v p) : ∃ a n c,v = .slice a n c:=by
 obtain ⟨r,h1, -⟩:=h
 obtain ⟨a,c,h2, -⟩:=h1.out1 sBits
 exact ⟨a,_,c,h2⟩
set_option maxHeartbeats 3200000 in
set_option maxRecDepth 100000 in
theorem join_anyV {S : Syst} {w0 : World} {sv : Nat} {rl : Nat→Nat} {V : Vals} {st : St} {W : World} (h : Mem S w0 sv rl V st W) (i t : Nat) (hi : i < S.N) (ht : t < S.N) (hN : S.N ≤ 1000000) (htd : st.todo.length ≤ 1000000) (hcp : (st.cp i).length ≤ 100000000) :
  Calls Tryz.prog 92 #[.pointer (some ⟨sv,0,none⟩),.int .i64 i,.int .i64 t] W (DoesV KJ (Join i t) S w0 sv rl V st W):=by
 obtain ⟨ca,cc,hca⟩:=h.cpV
 have i1:=h.cpIx hca hi
 obtain ⟨c6,cS,fS⟩:=h.cpAt hca hi
 have hC:=h.cp (by omega)
 have hbc : some sv ≠ (nth V.cvs i).ownBlock:=fun e => by
  have:=hC.role sv (.inr ⟨i,by rw [hC.own.len,hC.len]; exact hi,e.symm⟩)
  rw [h.rbox] at this; omega
 have hbo : some (blk ca) ≠ (nth V.cvs i).ownBlock:=fun e => by
  have hC2:=hC
  rw [hca] at hC2
  exact hC2.own.apart i (by rw [hC2.len]; exact hi) (blk ca) e.symm (own_blk hC2.own.out (i:=i) (by rw [hC2.own.len,hC2.len]; exact hi))
 have hlen : (nth V.cll i).length ≤ 100000000:=by rw [hC.mean i hi]; simpa using hcp
 have HB:=Lib.hid (And.intro hbc (And.intro hbo hlen))
 have hsz:=h.bel.size
 have HM:=Lib.hid (And.intro h hca)
 clear h hca hC hbc hbo hlen
 go_enter Tryz.func92,Tryz.ntmps92
 go_wp2_with fail
 refine wp_region_mix [0,1,2,3,4,5,6,7,8,9,10,11,12] [13,14,15,16] (fun w' => w'.cell? ⟨sv,6,none⟩ = some (.slice ca S.N cc)∧w'.cell? ⟨blk ca,ofs ca + i,none⟩ = some (nth V.cvs i)) (by kernel_rfl) (by kernel_rfl) (by kernel_rfl) ⟨c6,cS⟩ ?_
 repeat (
  refine wpHeads_cons (v:=?_) rfl (Or.inl ⟨by rfl, ?_⟩) ?_
  rotate_left
  ·(intro W hW; go_simp; try with_reducible rfl)
  simp only [Act.put,List.setIfInBounds_toArray])
 refine wpHeads_nil ?_
 refine wpTails_cons rfl ?_
 go_wp2_with fail
 have m2:=(HM.out.1.keep (grownBy_drew0 _)).keep (grownBy_alloc _ (.cells #[.int .i64 (t : Int)] 3))
 have e2:=(Ext.grown (rl:=rl) (grownBy_drew0 W)).trans (Ext.grown (grownBy_alloc W.drew (.cells #[.int .i64 (t : Int)] 3)))
 refine tail_mk (cells2_keep ⟨c6,cS⟩ (grownBy_trans (grownBy_drew0 _) (grownBy_alloc _ _)) (by simp) (by simp)) ?_
 refine wpTails_cons rfl ?_
 have HM2:=Lib.hid (And.intro m2 e2)
 clear m2 e2
 refine wp_appendS (f:=Value.int .i64) sInt rfl rfl _ _ rfl w0.heap.size (nth V.cvs i) (nth V.cll i) rfl (.slice (some ⟨W.heap.size,0,none⟩) 1 1) [(t : Int)] rfl ((HM2.out.1.cp (by omega)).own.inn i (by rw [(HM2.out.1.cp (by omega)).len]; exact hi)) (src_one _ (cell_at1 (by simp))) (fun _ _ => rfl) (by have:=HB.out.2.2; simp; omega) (by omega) (by simp; omega) ?_
 intro v31 w31 o31 g31 l31
 obtain ⟨s31,c31,rfl⟩:=o31.shape (n:=(nth V.cll i).length + 1) (by simp)
 have hS31:=cells2_keep ⟨c6,cS⟩ (grownBy_trans (grownBy_widen (grownBy_trans (grownBy_drew0 _) (grownBy_alloc _ _))) g31) HB.out.1 HB.out.2.1
 refine tail_mk hS31 ?_
 refine wpTails_cons rfl ?_
 go_wp2_with fail
 refine tail_mk hS31 ?_
 refine wpTails_one rfl ?_
 have hc31:=hS31.2
 have hf31 : w31.frozen? ⟨blk ca,ofs ca + i,none⟩ = false:=by
  have hC2:=HM2.out.1.cp (by omega)
  rw [HM.out.2] at hC2
  exact (hC2.own.outAt (by rw [hC2.len]; exact hi) g31).frozen (by rw [hC2.own.len,hC2.len]; omega) _
 have hput:=HM2.out.1.putCp HM.out.2 hi (y:=t) g31 o31 l31 rfl
 clear hS31 o31 g31 l31 c6 cS fS
 obtain ⟨rl',m3,e3⟩:=hput
 have HM3:=Lib.hid (And.intro m3 (HM2.out.2.trans e3))
 clear m3 e3 HM2
 go_wp2_with fail
 refine thenQ_mk ?_
 refine K_gen (fun Z => Mem S w0 sv rl' { V with cvs:=V.cvs.set i (.slice s31 ((nth V.cll i).length + 1) c31),cll:=V.cll.set i (nth V.cll i ++ [(t : Int)]) } { st with cp:=upd st.cp i (st.cp i ++ [t]) } Z∧Ext rl rl' W Z) HM3.out ?_
 intro W4 h4
 obtain ⟨ra,rc,hra⟩:=h4.1.setsV
 have i2:=h4.1.setsIx hra hi
 obtain ⟨c4,cS4, -⟩:=h4.1.setsAt hra hi
 have hset:=(h4.1.sets (by omega)).mean i hi
 obtain ⟨a5,n5,c5,hv5⟩:=hset.slice
 rw [hv5] at hset
 have hv5' : nth V.xs i = .slice a5 n5 c5:=hv5
 rw [hv5] at cS4
 have H4:=Lib.hid (And.intro h4 hset)
 clear h4 hset hc31 hf31 HM3 hv5 hra
 go_wp2_with fail
 refine (put_anyV H4.out.1.1 t ht hN htd H4.out.2).mono ?_
 rintro e W5 ⟨v5,rl5,V5,st5,rfl,hp,m5,e5,k5⟩
 have H5:=Lib.hid (And.intro hp (And.intro m5 (H4.out.1.2.trans e5)))
 clear hp m5 e5
 go_wp2_with fail
 go_end0
 exact ⟨_,rl5,V5,st5,rfl,H5.out.1,H5.out.2.1,H5.out.2.2,k5.2⟩
theorem join_any {S : Syst} {w0 : World} {sv : Nat} {rl : Nat→Nat} {V : Vals} {st : St} {W : World} (h : Mem S w0 sv rl V st W) (i t : Nat) (hi : i < S.N) (ht : t < S.N) (hN : S.N ≤ 1000000) (htd : st.todo.length ≤ 1000000) (hcp : (st.cp i).length ≤ 100000000) :
  Calls Tryz.prog 92 #[.pointer (some ⟨sv,0,none⟩),.int .i64 i,.int .i64 t] W (DoesP (Join i t) S w0 sv rl st W) :=
 (join_anyV h i t hi ht hN htd hcp).mono fun _ _ hh => hh.weak
def ListS (s : Nat→Bool) (W : World) (e : Ending) (W' : World) : Prop:=∃ (a : Option Addr) (c : Nat) (L : List Nat),e = .returned (.slice a L.length c)∧OwnI W' W.heap.size 3 (.slice a L.length c) (L.map fun x : Nat => (x : Int))∧(∀ y,s y = true ↔ y ∈ L)∧L.Pairwise (· < ·)∧L.length ≤ 65536∧Below W.heap.size W W'
theorem List_S {rl : Nat→Nat} {W : World} {v : Value} {s : Nat→Bool} (h : IsS rl W v s) : Calls Tryz.prog 42 #[v] W (ListS s W):=by
 obtain ⟨r,a1,a2,a3,a4,a5⟩:=h
 refine (List_any v r W a1 a2 (by omega)).mono ?_
 rintro e W' ⟨v',rfl,ho,hb⟩
 have hlen : ((List.range (64 * r.length)).filter (hasN r)).length ≤ 65536:=Nat.le_trans (List.length_filter_le _ _) (by simp; omega)
 have he : els r = ((List.range (64 * r.length)).filter (hasN r)).map fun x : Nat => (x : Int):=rfl
 rw [he] at ho
 obtain ⟨a,c,rfl⟩:=ho.shape (n:=((List.range (64 * r.length)).filter (hasN r)).length) (by simp)
 refine ⟨a,c,_,rfl,ho,fun y => ?_,List.pairwise_lt_range.filter _,hlen,hb⟩
 rw [List.mem_filter,List.mem_range,a4]
 constructor
 ·intro hy
  refine ⟨?_,hy⟩
  rcases Nat.lt_or_ge y (64 * r.length) with h1 | h1
  ·exact h1
  ·rw [← a4,hasN_out _ _ h1] at hy; cases hy
 ·exact fun h => h.2
set_option maxHeartbeats 800000 in
theorem cell_any (n1 n2 n3 y f : Nat) (v : Value) (W : World) (h1 : n1 ≤ 1000000) (h3 : n3 ≤ 1000000) (hy : y ≤ 1000000) (hf : f ≤ 1000000) :
  Calls Tryz.prog 93 #[.agg #[.int .i64 n1,.int .i64 n2,.int .i64 n3,v],.int .i64 y,.int .i64 f] W (fun e W' => e = .returned (.int .i64 ((n1 + y * n3 + f : Nat) : Int))∧Below W.heap.size W W'):=by
 have hm : (y : Int) * (n3 : Int) ≤ 1000000000000:=by
  have:=Nat.mul_le_mul hy h3
  have e : (y : Int) * (n3 : Int) = ((y * n3 : Nat) : Int):=by simp
  rw [e]; omega
 have hm0 : 0 ≤ (y : Int) * (n3 : Int):=by
  have e : (y : Int) * (n3 : Int) = ((y * n3 : Nat) : Int):=by simp
  rw [e]; omega
 go_enter Tryz.func93,Tryz.ntmps93
 go_wp2_with fail
 go_ret
 exact ⟨ret_int (by simp),(Below.refl _ _).alloc (Nat.le_refl _) _⟩
theorem lit_one {w : World} (x : Int) {t : TypeId} {B : Nat} (hB : B = w.heap.size) : Ints (w.alloc (.cells #[.int .i64 x] t)) (.slice (some ⟨B,0,none⟩) 1 1) [x]:=by
 subst hB
 refine ⟨some ⟨w.heap.size,0,none⟩,1,rfl,by simp,by unfold maxLen; omega,fun i hi => ⟨rfl,by simp [blk],fun j hj => ?_⟩⟩
 simp at hi
 obtain rfl : j = 0:=by omega
 obtain rfl : i = 0:=by omega
 simp only [blk,ofs]
 exact Go.Dfl.cell_alloc1 _ _ _
set_option maxHeartbeats 1600000 in
set_option maxRecDepth 100000 in
theorem addr_any {S : Syst} {w0 : World} {sv : Nat} {rl : Nat→Nat} {V : Vals} {st : St} {W : World} (h : Mem S w0 sv rl V st W) (k a b f : Nat) (sa : Option Addr) (sn sc : Nat) (hb : b < S.N) (ha : a < 65536) (hN : S.N ≤ 1000000) (htd : st.todo.length ≤ 1000000) :
  Calls Tryz.prog 63 #[.pointer (some ⟨sv,0,none⟩),.agg #[.int .i64 k,.int .i64 a,.int .i64 b,.int .i64 f,.slice sa sn sc]] W (DoesP (fun x y => ∃ s,(∀ z,s z = true ↔ z = a)∧Put b s x y) S w0 sv rl st W):=by
 have HM:=Lib.hid h
 clear h
 go_enter Tryz.func63,Tryz.ntmps63
 go_wp2_with fail
 refine (Of_any _ [(a : Int)] _ (lit_one _ (by simp))).mono ?_
 rintro e W1 (⟨hbad, -⟩ | ⟨-,v,r,rfl,hF,hW,hN2,hl,hp,hbe⟩)
 ·exfalso; simp [valB] at hbad; omega
 have g1 : W.grownBy W1 none:=grownBy_trans (grownBy_trans (grownBy_alloc _ _) (grownBy_alloc _ _)) (grownBy_below hbe)
 have m1:=HM.out.keep g1
 obtain ⟨a2,c2,rfl, -⟩:=hF.1.out1 sBits
 have hs : IsS rl W1 (.slice a2 r.length c2) (fun z => decide (z = a)):=by
  refine ⟨r,hF.1,hW,hl,fun x => ?_,fun k hk h0 => HM.out.fr k ?_⟩
  ·rw [hp]; simp; omega
  ·have:=(hF.2 a2 _ c2 rfl h0).1
   cases a2 with
   | none => simp [Value.ownBlock] at hk
   | some ad => simp [Value.ownBlock] at hk; simp [blk] at this; omega
 have cb : W1.cell? ⟨W.heap.size,2,none⟩ = some (.int .i64 (b : Int)):=by
  exact (grownBy_below hbe).cell ((grownBy_alloc _ _).cell (cells_new (cs:=[.int .i64 (k : Int),.int .i64 a,.int .i64 b,.int .i64 f,.slice sa sn sc]) rfl 2 _ rfl) (by simp)) (by simp)
 have H1:=Lib.hid (And.intro m1 (And.intro hs (Ext.grown (rl:=rl) g1)))
 clear m1 hs g1 hF hW hN2 hp hbe
 go_wp2_with fail
 refine (put_any H1.out.1 b hb hN htd H1.out.2.1).mono ?_
 rintro e W5 ⟨v5,rl5,V5,st5,rfl,hp,m5,e5⟩
 have H5:=Lib.hid (And.intro hp (And.intro m5 (H1.out.2.2.trans e5)))
 clear hp m5 e5
 go_wp2_with fail
 go_end0
 exact ⟨_,rl5,V5,st5,rfl,⟨_,fun z => by simp,H5.out.1⟩,H5.out.2.1,H5.out.2.2⟩
set_option maxHeartbeats 1600000 in
set_option maxRecDepth 100000 in
theorem copy_any {S : Syst} {w0 : World} {sv : Nat} {rl : Nat→Nat} {V : Vals} {st : St} {W : World} (h : Mem S w0 sv rl V st W) (k a b f : Nat) (sa : Option Addr) (sn sc : Nat) (ha : a < S.N) (hb : b < S.N) (hN : S.N ≤ 1000000) (htd : st.todo.length ≤ 1000000) (hcp : (st.cp a).length ≤ 100000000) :
  Calls Tryz.prog 64 #[.pointer (some ⟨sv,0,none⟩),.agg #[.int .i64 k,.int .i64 a,.int .i64 b,.int .i64 f,.slice sa sn sc]] W (DoesP (Join a b) S w0 sv rl st W):=by
 have HM:=Lib.hid h
 clear h
 go_enter Tryz.func64,Tryz.ntmps64
 go_wp2_with fail
 refine (join_any (HM.out.keep (grownBy_alloc _ _)) a b ha hb hN htd hcp).mono ?_
 rintro e W5 ⟨v5,rl5,V5,st5,rfl,hp,m5,e5⟩
 have H5:=Lib.hid (And.intro hp (And.intro m5 ((Ext.grown (rl:=rl) (grownBy_alloc _ _)).trans e5)))
 clear hp m5 e5
 go_wp2_with fail
 go_end0
 exact ⟨_,rl5,V5,st5,rfl,H5.out.1,H5.out.2.1,H5.out.2.2⟩
end Go.Proofs.YtgblfjccccdidaaGreat
end
section
namespace Go.Proofs.YtgblfjccccdidaaGreat
open Go.RowKit Go.Dfl Go.And
def BoxC (W : World) (bw : Nat) (k a b f : Nat) (sv : Value) : Prop :=
 W.cell? ⟨bw,0,none⟩ = some (.int .i64 (k : Int))∧W.cell? ⟨bw,1,none⟩ = some (.int .i64 (a : Int))∧W.cell? ⟨bw,2,none⟩ = some (.int .i64 (b : Int))∧W.cell? ⟨bw,3,none⟩ = some (.int .i64 (f : Int))∧W.cell? ⟨bw,4,none⟩ = some sv
theorem BoxC.grown {W W' : World} {bw k a b f : Nat} {v : Value} {row : Option Nat} (h : BoxC W bw k a b f v) (hg : W.grownBy W' row) (hne : some bw ≠ row) : BoxC W' bw k a b f v :=
 ⟨hg.cell h.1 hne,hg.cell h.2.1 hne,hg.cell h.2.2.1 hne,hg.cell h.2.2.2.1 hne,hg.cell h.2.2.2.2 hne⟩
theorem BoxC.new (W : World) (k a b f : Nat) (v : Value) (t : TypeId) : BoxC (W.alloc (.cells #[.int .i64 (k : Int),.int .i64 a,.int .i64 b,.int .i64 f,v] t)) W.heap.size k a b f v:=by
 have hc:=cells_new (W:=W) (cs:=[.int .i64 (k : Int),.int .i64 a,.int .i64 b,.int .i64 f,v]) (t:=t) rfl
 exact ⟨hc 0 _ rfl,hc 1 _ rfl,hc 2 _ rfl,hc 3 _ rfl,hc 4 _ rfl⟩
theorem BoxC.ext {W W' : World} {rl rl' : Nat→Nat} {bw k a b f : Nat} {v : Value} (h : BoxC W bw k a b f v) (he : Ext rl rl' W W') (hr : rl bw = 0) : BoxC W' bw k a b f v:=by
 have hlt:=World.block_lt_of_cell? W _ h.1
 have hb:=(he.same bw hlt (.inl hr)).1
 exact ⟨by rw [World.cell?_of_block (a:=⟨bw,0,none⟩) hb]; exact h.1,by rw [World.cell?_of_block (a:=⟨bw,1,none⟩) hb]; exact h.2.1,by rw [World.cell?_of_block (a:=⟨bw,2,none⟩) hb]; exact h.2.2.1,by rw [World.cell?_of_block (a:=⟨bw,3,none⟩) hb]; exact h.2.2.2.1,by rw [World.cell?_of_block (a:=⟨bw,4,none⟩) hb]; exact h.2.2.2.2⟩
theorem cell_is (S : Syst) (y f : Nat) (v : Value) (W : World) (h1 : S.vars ≤ 1000000) (h3 : S.fields ≤ 1000000) (hy : y ≤ 1000000) (hf : f ≤ 1000000) :
  ∃ n : Nat,n = S.cell y f∧Calls Tryz.prog 93 #[.agg #[.int .i64 S.vars,.int .i64 S.sites,.int .i64 S.fields,v],.int .i64 y,.int .i64 f] W (fun e W' => e = .returned (.int .i64 (n : Int))∧Below W.heap.size W W') :=
 ⟨_,rfl,cell_any S.vars S.sites S.fields y f v W h1 h3 hy hf⟩
theorem cells7_keep {W1 W2 : World} {row : Option Nat} {p q : Addr} {x y : Value} {bw k a b f : Nat} {v : Value} (h : W1.cell? p = some x∧W1.cell? q = some y∧BoxC W1 bw k a b f v) (hg : W1.grownBy W2 row) (hp : some p.block ≠ row) (hq : some q.block ≠ row) (hb : some bw ≠ row) :
  W2.cell? p = some x∧W2.cell? q = some y∧BoxC W2 bw k a b f v:=⟨hg.cell h.1 hp,hg.cell h.2.1 hq,h.2.2.grown hg hb⟩
set_option maxHeartbeats 6400000 in
set_option maxRecDepth 100000 in
theorem load_any {S : Syst} {w0 : World} {sv : Nat} {rl : Nat→Nat} {V : Vals} {st : St} {W : World} (h : Mem S w0 sv rl V st W) (c : C) (sa : Option Addr) (sn sc : Nat) (ha : c.a < S.vars) (hb : c.b < S.vars) (hf : c.f < S.fields) (hN : S.N ≤ 1000000) (hF : S.fields ≤ 1000000) (hSi : S.sites ≤ 1000000) (hV : S.vars ≤ 1000000) (htd : st.todo.length ≤ 500000) (hcp : ∀ i,(st.cp i).length ≤ 50000000) (hld : (st.ld c.a).length ≤ 1000000) (hbd : ∀ i x,st.p i x = true→x < S.sites) :
  Calls Tryz.prog 65 #[.pointer (some ⟨sv,0,none⟩),.agg #[.int .i64 c.k,.int .i64 c.a,.int .i64 c.b,.int .i64 c.f,.slice sa sn sc]] W
   (DoesP (fun x y => ∃ L : List Nat,L.Pairwise (· < ·)∧(∀ z,x.p c.a z = true ↔ z ∈ L)∧Joins (L.map fun z => (S.cell z c.f,c.b)) { x with ld:=upd x.ld c.a (x.ld c.a ++ [c]) } y) S w0 sv rl st W):=by
 have haN:=vN ha
 have hbN:=vN hb
 have HM0:=Lib.hid h
 have HA:=Lib.hid (And.intro hcp (And.intro hbd (And.intro hf hld)))
 clear h hcp hbd
 go_enter Tryz.func65,Tryz.ntmps65
 go_wp2_with fail
 refine wp_gen (fun Z => Mem S w0 sv rl V st Z∧Ext rl rl W Z∧BoxC Z W.heap.size c.k c.a c.b c.f (.slice sa sn sc)∧rl W.heap.size = 0) ⟨HM0.out.keep (grownBy_alloc _ _),Ext.grown (grownBy_alloc _ _),BoxC.new _ _ _ _ _ _ _,HM0.out.fr _ (Nat.le_refl _)⟩ ?_
 intro W1 h1
 obtain ⟨bw,hbw⟩ : ∃ bw,bw = W.heap.size:=⟨_,rfl⟩
 rw [← hbw] at h1 ⊢
 clear hbw
 obtain ⟨la,lc,hla⟩:=h1.1.ldV
 have i1:=h1.1.ldIx hla ha
 obtain ⟨c8,cL,fL⟩:=h1.1.ldAt hla ha
 obtain ⟨d0,d1,d2,d3,d4⟩:=h1.2.2.1
 have hC:=h1.1.ld (by omega)
 have hbs : some sv ≠ (nth V.lvs c.a).ownBlock:=fun e => by
  have:=hC.role sv (.inr ⟨c.a,by rw [hC.own.len,hC.len]; exact ha,e.symm⟩)
  rw [h1.1.rbox] at this; omega
 have hbo : some (blk la) ≠ (nth V.lvs c.a).ownBlock:=fun e => by
  have hC2:=hC
  rw [hla] at hC2
  exact hC2.own.apart c.a (by rw [hC2.len]; exact ha) (blk la) e.symm (own_blk hC2.own.out (i:=c.a) (by rw [hC2.own.len,hC2.len]; exact ha))
 have hbb : some bw ≠ (nth V.lvs c.a).ownBlock:=fun e => by
  have:=hC.role bw (.inr ⟨c.a,by rw [hC.own.len,hC.len]; exact ha,e.symm⟩)
  rw [h1.2.2.2] at this; omega
 have hlen : (nth V.lll c.a).length ≤ 1000000:=by rw [(hC.mean c.a ha).1]; exact HA.out.2.2.2
 have HB:=Lib.hid (And.intro hbs (And.intro hbo (And.intro hbb hlen)))
 have hsz:=h1.1.bel.size
 have HM:=Lib.hid (And.intro h1 hla)
 clear h1 hla hC hbs hbo hbb hlen
 refine wp_region_mix [0,1,2,3,4,5,6,7,8,9,10,11,12,13,14] [15,16,17,18] (fun w' => w'.cell? ⟨sv,8,none⟩ = some (.slice la S.vars lc)∧w'.cell? ⟨blk la,ofs la + c.a,none⟩ = some (nth V.lvs c.a)∧BoxC w' bw c.k c.a c.b c.f (.slice sa sn sc)) (by kernel_rfl) (by kernel_rfl) (by kernel_rfl) ⟨c8,cL,d0,d1,d2,d3,d4⟩ ?_
 repeat (
  refine wpHeads_cons (v:=?_) rfl (Or.inl ⟨by rfl, ?_⟩) ?_
  rotate_left
  ·(intro W hW; obtain ⟨q1,q2,q3,q4,q5,q6,q7⟩:=hW; go_simp; try with_reducible rfl)
  simp only [Act.put,List.setIfInBounds_toArray])
 refine wpHeads_nil ?_
 refine wpTails_cons rfl ?_
 go_wp2_with fail
 have g2 : W1.grownBy ((W1.alloc (.cells #[.int .i64 (c.k : Int),.int .i64 c.a,.int .i64 c.b,.int .i64 c.f,.slice sa sn sc] 48)).drew) none:=grownBy_trans (grownBy_alloc _ _) (grownBy_drew0 _)
 have m2:=HM.out.1.1.keep g2
 have e2:=HM.out.1.2.1.trans (Ext.grown (rl:=rl) g2)
 refine tail_mk (cells7_keep ⟨c8,cL,d0,d1,d2,d3,d4⟩ g2 (by simp) (by simp) (by simp)) ?_
 refine wpTails_cons rfl ?_
 have HM2:=Lib.hid (And.intro m2 (And.intro e2 g2))
 clear m2 e2 g2
 refine wp_appendE (E:=elC) sCon rfl rfl _ _ rfl (v:=nth V.lvs c.a) (l:=nth V.lll c.a) (base:=w0.heap.size) rfl W1.heap.size rfl ((HM2.out.1.ld (by omega)).own.inn c.a (by rw [(HM2.out.1.ld (by omega)).len]; exact ha)) ⟨c.k,c.a,c.b,c.f,sa,sn,sc⟩ (cells_new (W:=W1) (cs:=[.int .i64 (c.k : Int),.int .i64 c.a,.int .i64 c.b,.int .i64 c.f,.slice sa sn sc]) (t:=48) rfl) (by have:=HB.out.2.2.2; omega) (by have:=HB.out.2.2.2; omega) (by simp; omega) ?_
 intro v31 w31 o31 g31 l31
 obtain ⟨s31,c31,rfl⟩:=o31.shape (n:=(nth V.lll c.a).length + 1) (by simp)
 have hS31:=cells7_keep ⟨c8,cL,d0,d1,d2,d3,d4⟩ (grownBy_trans (grownBy_widen HM2.out.2.2) g31) HB.out.1 HB.out.2.1 HB.out.2.2.1
 refine tail_mk hS31 ?_
 refine wpTails_cons rfl ?_
 go_wp2_with fail
 refine tail_mk hS31 ?_
 refine wpTails_one rfl ?_
 have hc31:=hS31.2.1
 have hf31 : w31.frozen? ⟨blk la,ofs la + c.a,none⟩ = false:=by
  have hC2:=HM2.out.1.ld (by omega)
  rw [HM.out.2] at hC2
  exact (hC2.own.outAt (by rw [hC2.len]; exact ha) g31).frozen (by rw [hC2.own.len,hC2.len]; omega) _
 have hput:=HM2.out.1.putLd HM.out.2 ha (y:=c) g31 o31 l31 ⟨rfl,rfl,rfl,rfl⟩
 obtain ⟨rl',m3,e3⟩:=hput
 have hr0 : rl' bw = 0:=by
  have hlt:=World.block_lt_of_cell? W1 _ d0
  have:=((Ext.grown (rl:=rl) HM2.out.2.2).trans e3).same bw hlt (.inl HM.out.1.2.2.2)
  rw [this.2]; exact HM.out.1.2.2.2
 have hbx:=HM.out.1.2.2.1.ext ((Ext.grown (rl:=rl) HM2.out.2.2).trans e3) HM.out.1.2.2.2
 have HM3:=Lib.hid (And.intro m3 (And.intro (HM2.out.2.1.trans e3) (And.intro hbx hr0)))
 clear m3 e3 HM2 hS31 o31 g31 l31 c8 cL fL d0 d1 d2 d3 d4 hbx hr0
 go_wp2_with fail
 refine thenQ_mk ?_
 refine K_gen (fun Z => Mem S w0 sv rl' { V with lvs:=V.lvs.set c.a (.slice s31 ((nth V.lll c.a).length + 1) c31),lll:=V.lll.set c.a (nth V.lll c.a ++ [⟨c.k,c.a,c.b,c.f,sa,sn,sc⟩]) } { st with ld:=upd st.ld c.a (st.ld c.a ++ [c]) } Z∧Ext rl rl' W Z∧BoxC Z bw c.k c.a c.b c.f (.slice sa sn sc)∧rl' bw = 0) HM3.out ?_
 intro W4 h4
 obtain ⟨V4,hV4⟩ : ∃ V4,V4 = ({ V with lvs:=V.lvs.set c.a (.slice s31 ((nth V.lll c.a).length + 1) c31),lll:=V.lll.set c.a (nth V.lll c.a ++ [⟨c.k,c.a,c.b,c.f,sa,sn,sc⟩]) } : Vals):=⟨_,rfl⟩
 obtain ⟨st4,hst4⟩ : ∃ st4,st4 = ({ st with ld:=upd st.ld c.a (st.ld c.a ++ [c]) } : St):=⟨_,rfl⟩
 rw [← hV4, ← hst4] at h4
 obtain ⟨ra,rc,hra⟩:=h4.1.setsV
 have i2:=h4.1.setsIx hra haN
 obtain ⟨c4,cS, -⟩:=h4.1.setsAt hra haN
 have d1:=h4.2.2.1.2.1
 have hset:=(h4.1.sets (by omega)).mean c.a haN
 have H4:=Lib.hid (And.intro h4 (And.intro hset (And.intro hst4 hra)))
 clear h4 hset hc31 hf31 HM3 hV4 hst4 hra HM HB
 go_wp2_with fail
 refine wp_region_mixH [0,1,2,3,4,5,6,7,10] [8,9] (fun w' => w'.cell? ⟨sv,4,none⟩ = some (.slice ra S.N rc)∧w'.cell? ⟨blk ra,ofs ra + c.a,none⟩ = some (nth V4.xs c.a)∧w'.cell? ⟨bw,1,none⟩ = some (.int .i64 (c.a : Int))) (by kernel_rfl) (by kernel_rfl) (by kernel_rfl) ⟨c4,cS,d1⟩ ?_
 repeat (
  refine wpHeads_cons (v:=?_) rfl (Or.inl ⟨by rfl, ?_⟩) ?_
  rotate_left
  ·(intro W hW; go_simp; try with_reducible rfl)
  simp only [Act.put,List.setIfInBounds_toArray])
 refine wpHeads_nil ?_
 refine wpTailsH_cons rfl ?_
 go_wp2_with fail
 refine (List_S (H4.out.2.1.ex (Ext.grown (rl:=rl') (grownBy_drew0 _)))).mono ?_
 rintro e W5 ⟨a5,c5,L,rfl,o5,mL,pL,lL,q5⟩
 have g5 : W4.grownBy W5 none:=grownBy_trans (grownBy_drew0 _) (grownBy_below q5)
 go_wp2_with fail
 refine tail_mk ⟨g5.cell c4 (by simp),g5.cell cS (by simp),g5.cell d1 (by simp)⟩ ?_
 refine wpTailsH_cons rfl ?_
 go_wp2_with fail
 refine tail_mk ⟨g5.cell c4 (by simp),g5.cell cS (by simp),g5.cell d1 (by simp)⟩ ?_
 refine wpTailsH_nil ?_
 go_wp2_with fail
 have hr5 : ∀ k,(Value.slice a5 L.length c5).ownBlock = some k→rl' k = 0:=fun k hk => H4.out.1.1.fr k (by have:=(o5.lt k hk).1; simpa using this)
 have H5:=Lib.hid (And.intro (H4.out.1.1.keep g5) (And.intro (H4.out.1.2.1.trans (Ext.grown (rl:=rl') g5)) (And.intro (H4.out.1.2.2.1.ext (Ext.grown (rl:=rl') g5) H4.out.1.2.2.2) (And.intro H4.out.1.2.2.2 (And.intro o5.lst hr5)))))
 have HL:=Lib.hid (And.intro mL (And.intro H4.out.2.2.1 (HA.out.2.1)))
 have HPL:=Lib.hid pL
 clear pL
 have hix : ∀ (x : Int),0 ≤ x→x < L.length→∀ Z,(Instr.indexAt 32 (.slice a5 L.length c5) (.int .i64 x)).run Tryz.prog Z = .ok (.pointer (some ⟨blk a5,ofs a5 + x.toNat,none⟩)) Z:=by
  obtain ⟨a6,c6,he6, -,hidx6, -⟩:=o5.lst.out1 sInt
  simp only [Value.slice.injEq] at he6
  obtain ⟨rfl,he6,rfl⟩:=he6
  intro x h0 h1
  have:=hidx6 .i64 x h0 (by rw [← he6]; exact h1)
  rw [← he6] at this; exact this
 clear hr5 o5 mL q5 g5 H4 c4 cS d1 i2
 go_loopw [5,34] (fun _ x wr => ∃ (j : Nat) (rl2 : Nat→Nat) (V2 : Vals) (st2 : St),j ≤ L.length∧x = .int .i64 j∧Hid (Mem S w0 sv rl2 V2 st2 wr∧Ext rl' rl2 W5 wr∧Joins ((L.take j).map fun z => (S.cell z c.f,c.b)) st4 st2)) (fun _ x _ => L.length - (intOf x).toNat)
 case atStart => exact ⟨0,rl',V4,st4,by omega,rfl,H5.out.1,Ext.refl _ _,rfl⟩
 case round =>
  obtain ⟨j,rl2,V2,st2,hj,rfl,hh⟩:=hrel
  by_cases hlt : j < L.length
  ·have hyL : nth L j ∈ L:=nth_mem L j hlt
   have hyp:=(HL.out.1 _).2 hyL
   have hy : nth L j < S.sites:=HL.out.2.2 c.a _ (by have e:=HL.out.2.1; rw [e] at hyp; exact hyp)
   have hlst:=lst_ext H5.out.2.2.2.2.1 hh.out.2.1 (fun _ k hk => .inl (H5.out.2.2.2.2.2 k hk))
   have hcl : wr.cell? ⟨blk a5,ofs a5 + j,none⟩ = some (.int .i64 ((nth L j : Nat) : Int)):=by
    obtain ⟨a6,c6,he6, -, -,hcell6, -⟩:=hlst.out1 sInt
    simp only [Value.slice.injEq] at he6
    obtain ⟨rfl, -,rfl⟩:=he6
    have:=hcell6 j (by simpa using hlt)
    rw [this]; simp [nth,hlt]
   have hbx:=H5.out.2.2.1.ext hh.out.2.1 H5.out.2.2.2.1
   obtain ⟨-, -,d2,d3, -⟩:=hbx
   have b0:=(hh.out.1.fld 0 (v:=.int .i64 (S.vars : Int)) rfl).1
   have b1:=(hh.out.1.fld 1 (v:=.int .i64 (S.sites : Int)) rfl).1
   have b2:=(hh.out.1.fld 2 (v:=.int .i64 (S.fields : Int)) rfl).1
   have b3:=(hh.out.1.fld 3 (v:=V2.cons) rfl).1
   have htd2 : st2.todo.length ≤ 1000000:=by
    have:=hh.out.2.2.todo
    have e:=HL.out.2.1
    rw [e] at this
    simp at this; omega
   have hcp2 : (st2.cp (S.cell (nth L j) c.f)).length ≤ 100000000:=by
    have:=hh.out.2.2.len (S.cell (nth L j) c.f)
    have e:=HL.out.2.1
    rw [e] at this
    have h9:=HA.out.1 (S.cell (nth L j) c.f)
    simp at this; omega
   have hcN:=Syst.cell_lt hy HA.out.2.2.1
   have HK:=Lib.hid (And.intro htd2 (And.intro hcp2 hcN))
   have hyt : (L.take (j + 1)).map (fun z => (S.cell z c.f,c.b)) = (L.take j).map (fun z => (S.cell z c.f,c.b)) ++ [(S.cell (nth L j) c.f,c.b)]:=by rw [take_snoc _ _ hlt]; simp
   have HY:=Lib.hid (And.intro hyt trivial)
   clear hyt
   generalize nth L j = y at *
   clear hyp hyL hlst htd2 hcp2 hcN
   go_wp2_with fail
   refine wp_region_mix [0,1,2,3,4,5,6,7,9,10] [8,11] (fun w' => w'.cell? ⟨sv,0,none⟩ = some (.int .i64 (S.vars : Int))∧w'.cell? ⟨sv,1,none⟩ = some (.int .i64 (S.sites : Int))∧w'.cell? ⟨sv,2,none⟩ = some (.int .i64 (S.fields : Int))∧w'.cell? ⟨sv,3,none⟩ = some V2.cons∧w'.cell? ⟨bw,3,none⟩ = some (.int .i64 (c.f : Int))∧w'.cell? ⟨bw,2,none⟩ = some (.int .i64 (c.b : Int))) (by kernel_rfl) (by kernel_rfl) (by kernel_rfl) ⟨b0,b1,b2,b3,d3,d2⟩ ?_
   repeat (
    refine wpHeads_cons (v:=?_) rfl (Or.inl ⟨by rfl, ?_⟩) ?_
    rotate_left
    ·(intro W hW; go_simp; try with_reducible rfl)
    simp only [Act.put,List.setIfInBounds_toArray])
   refine wpHeads_nil ?_
   refine wpTails_cons rfl ?_
   go_wp2_with fail
   obtain ⟨nn,hnn,hcl7⟩:=cell_is S y c.f V2.cons (wr.drew) hV hF (by omega) (by omega)
   refine hcl7.mono ?_
   rintro e W7 ⟨rfl,q7⟩
   have g7 : wr.grownBy W7 none:=grownBy_trans (grownBy_drew0 _) (grownBy_below q7)
   go_wp2_with fail
   refine tail_mk ⟨g7.cell b0 (by simp),g7.cell b1 (by simp),g7.cell b2 (by simp),g7.cell b3 (by simp),g7.cell d3 (by simp),g7.cell d2 (by simp)⟩ ?_
   refine wpTails_one rfl ?_
   have HM7:=Lib.hid (And.intro (hh.out.1.keep g7) (And.intro (hh.out.2.1.trans (Ext.grown (rl:=rl2) g7)) hh.out.2.2))
   clear g7 q7 b0 b1 b2 b3 d2 d3 hh hcl
   subst hnn
   clear hcl7
   go_wp2_with fail
   refine (join_any HM7.out.1 (S.cell y c.f) c.b HK.out.2.2 hbN hN HK.out.1 HK.out.2.1).mono ?_
   rintro e W8 ⟨v8,rl8,V8,st8,rfl,hp,m8,e8⟩
   have H8:=Lib.hid (And.intro m8 (And.intro (HM7.out.2.1.trans e8) (Joins.snoc (e:=(S.cell y c.f,c.b)) HM7.out.2.2 hp)))
   clear hp m8 e8
   go_wp2_with fail
   refine thenQ_mk ?_
   go_wp2_with fail
   go_roundw
   case rel => exact ⟨j + 1,rl8,V8,st8,by omega,by go_num,H8.out.1,H8.out.2.1,by
    have h9:=H8.out.2.2
    rw [HY.out.1]; exact h9⟩
   case measure => simp [intOf]; omega
  ·obtain rfl : j = L.length:=by omega
   have HD:=Lib.hid hh.out
   clear hh
   go_wp2_with fail
   go_end0
   refine ⟨_,rl2,V2,st2,rfl,⟨L,HPL.out, ?_, ?_⟩,HD.out.1,H5.out.2.1.trans HD.out.2.1⟩
   ·intro z
    have h9:=HL.out.1 z
    rw [HL.out.2.1] at h9; exact h9
   ·have h9:=HD.out.2.2
    rw [List.take_length,HL.out.2.1] at h9; exact h9
end Go.Proofs.YtgblfjccccdidaaGreat
end
section
namespace Go.Proofs.YtgblfjccccdidaaGreat
open Go.RowKit Go.Dfl Go.And
set_option maxHeartbeats 6400000 in
set_option maxRecDepth 100000 in
theorem store_any {S : Syst} {w0 : World} {sv : Nat} {rl : Nat→Nat} {V : Vals} {st : St} {W : World} (h : Mem S w0 sv rl V st W) (c : C) (sa : Option Addr) (sn sc : Nat) (ha : c.b < S.vars) (hb : c.a < S.vars) (hf : c.f < S.fields) (hN : S.N ≤ 1000000) (hF : S.fields ≤ 1000000) (hSi : S.sites ≤ 1000000) (hV : S.vars ≤ 1000000) (htd : st.todo.length ≤ 500000) (hcp : ∀ i,(st.cp i).length ≤ 50000000) (hld : (st.sr c.b).length ≤ 1000000) (hbd : ∀ i x,st.p i x = true→x < S.sites) :
  Calls Tryz.prog 66 #[.pointer (some ⟨sv,0,none⟩),.agg #[.int .i64 c.k,.int .i64 c.a,.int .i64 c.b,.int .i64 c.f,.slice sa sn sc]] W
   (DoesP (fun x y => ∃ L : List Nat,L.Pairwise (· < ·)∧(∀ z,x.p c.b z = true ↔ z ∈ L)∧Joins (L.map fun z => (c.a,S.cell z c.f)) { x with sr:=upd x.sr c.b (x.sr c.b ++ [c]) } y) S w0 sv rl st W):=by
 have haN:=vN ha
 have hbN:=vN hb
 have HM0:=Lib.hid h
 have HA:=Lib.hid (And.intro hcp (And.intro hbd (And.intro hf hld)))
 clear h hcp hbd
 go_enter Tryz.func66,Tryz.ntmps66
 go_wp2_with fail
 refine wp_gen (fun Z => Mem S w0 sv rl V st Z∧Ext rl rl W Z∧BoxC Z W.heap.size c.k c.a c.b c.f (.slice sa sn sc)∧rl W.heap.size = 0) ⟨HM0.out.keep (grownBy_alloc _ _),Ext.grown (grownBy_alloc _ _),BoxC.new _ _ _ _ _ _ _,HM0.out.fr _ (Nat.le_refl _)⟩ ?_
 intro W1 h1
 obtain ⟨bw,hbw⟩ : ∃ bw,bw = W.heap.size:=⟨_,rfl⟩
 rw [← hbw] at h1 ⊢
 clear hbw
 obtain ⟨la,lc,hla⟩:=h1.1.srV
 have i1:=h1.1.srIx hla ha
 obtain ⟨c8,cL,fL⟩:=h1.1.srAt hla ha
 obtain ⟨d0,d1,d2,d3,d4⟩:=h1.2.2.1
 have hC:=h1.1.sr (by omega)
 have hbs : some sv ≠ (nth V.svs c.b).ownBlock:=fun e => by
  have:=hC.role sv (.inr ⟨c.b,by rw [hC.own.len,hC.len]; exact ha,e.symm⟩)
  rw [h1.1.rbox] at this; omega
 have hbo : some (blk la) ≠ (nth V.svs c.b).ownBlock:=fun e => by
  have hC2:=hC
  rw [hla] at hC2
  exact hC2.own.apart c.b (by rw [hC2.len]; exact ha) (blk la) e.symm (own_blk hC2.own.out (i:=c.b) (by rw [hC2.own.len,hC2.len]; exact ha))
 have hbb : some bw ≠ (nth V.svs c.b).ownBlock:=fun e => by
  have:=hC.role bw (.inr ⟨c.b,by rw [hC.own.len,hC.len]; exact ha,e.symm⟩)
  rw [h1.2.2.2] at this; omega
 have hlen : (nth V.sll c.b).length ≤ 1000000:=by rw [(hC.mean c.b ha).1]; exact HA.out.2.2.2
 have HB:=Lib.hid (And.intro hbs (And.intro hbo (And.intro hbb hlen)))
 have hsz:=h1.1.bel.size
 have HM:=Lib.hid (And.intro h1 hla)
 clear h1 hla hC hbs hbo hbb hlen
 refine wp_region_mix [0,1,2,3,4,5,6,7,8,9,10,11,12,13,14] [15,16,17,18] (fun w' => w'.cell? ⟨sv,9,none⟩ = some (.slice la S.vars lc)∧w'.cell? ⟨blk la,ofs la + c.b,none⟩ = some (nth V.svs c.b)∧BoxC w' bw c.k c.a c.b c.f (.slice sa sn sc)) (by kernel_rfl) (by kernel_rfl) (by kernel_rfl) ⟨c8,cL,d0,d1,d2,d3,d4⟩ ?_
 repeat (
  refine wpHeads_cons (v:=?_) rfl (Or.inl ⟨by rfl, ?_⟩) ?_
  rotate_left
  ·(intro W hW; obtain ⟨q1,q2,q3,q4,q5,q6,q7⟩:=hW; go_simp; try with_reducible rfl)
  simp only [Act.put,List.setIfInBounds_toArray])
 refine wpHeads_nil ?_
 refine wpTails_cons rfl ?_
 go_wp2_with fail
 have g2 : W1.grownBy ((W1.alloc (.cells #[.int .i64 (c.k : Int),.int .i64 c.a,.int .i64 c.b,.int .i64 c.f,.slice sa sn sc] 48)).drew) none:=grownBy_trans (grownBy_alloc _ _) (grownBy_drew0 _)
 have m2:=HM.out.1.1.keep g2
 have e2:=HM.out.1.2.1.trans (Ext.grown (rl:=rl) g2)
 refine tail_mk (cells7_keep ⟨c8,cL,d0,d1,d2,d3,d4⟩ g2 (by simp) (by simp) (by simp)) ?_
 refine wpTails_cons rfl ?_
 have HM2:=Lib.hid (And.intro m2 (And.intro e2 g2))
 clear m2 e2 g2
 refine wp_appendE (E:=elC) sCon rfl rfl _ _ rfl (v:=nth V.svs c.b) (l:=nth V.sll c.b) (base:=w0.heap.size) rfl W1.heap.size rfl ((HM2.out.1.sr (by omega)).own.inn c.b (by rw [(HM2.out.1.sr (by omega)).len]; exact ha)) ⟨c.k,c.a,c.b,c.f,sa,sn,sc⟩ (cells_new (W:=W1) (cs:=[.int .i64 (c.k : Int),.int .i64 c.a,.int .i64 c.b,.int .i64 c.f,.slice sa sn sc]) (t:=48) rfl) (by have:=HB.out.2.2.2; omega) (by have:=HB.out.2.2.2; omega) (by simp; omega) ?_
 intro v31 w31 o31 g31 l31
 obtain ⟨s31,c31,rfl⟩:=o31.shape (n:=(nth V.sll c.b).length + 1) (by simp)
 have hS31:=cells7_keep ⟨c8,cL,d0,d1,d2,d3,d4⟩ (grownBy_trans (grownBy_widen HM2.out.2.2) g31) HB.out.1 HB.out.2.1 HB.out.2.2.1
 refine tail_mk hS31 ?_
 refine wpTails_cons rfl ?_
 go_wp2_with fail
 refine tail_mk hS31 ?_
 refine wpTails_one rfl ?_
 have hc31:=hS31.2.1
 have hf31 : w31.frozen? ⟨blk la,ofs la + c.b,none⟩ = false:=by
  have hC2:=HM2.out.1.sr (by omega)
  rw [HM.out.2] at hC2
  exact (hC2.own.outAt (by rw [hC2.len]; exact ha) g31).frozen (by rw [hC2.own.len,hC2.len]; omega) _
 have hput:=HM2.out.1.putSr HM.out.2 ha (y:=c) g31 o31 l31 ⟨rfl,rfl,rfl,rfl⟩
 obtain ⟨rl',m3,e3⟩:=hput
 have hr0 : rl' bw = 0:=by
  have hlt:=World.block_lt_of_cell? W1 _ d0
  have:=((Ext.grown (rl:=rl) HM2.out.2.2).trans e3).same bw hlt (.inl HM.out.1.2.2.2)
  rw [this.2]; exact HM.out.1.2.2.2
 have hbx:=HM.out.1.2.2.1.ext ((Ext.grown (rl:=rl) HM2.out.2.2).trans e3) HM.out.1.2.2.2
 have HM3:=Lib.hid (And.intro m3 (And.intro (HM2.out.2.1.trans e3) (And.intro hbx hr0)))
 clear m3 e3 HM2 hS31 o31 g31 l31 c8 cL fL d0 d1 d2 d3 d4 hbx hr0
 go_wp2_with fail
 refine thenQ_mk ?_
 refine K_gen (fun Z => Mem S w0 sv rl' { V with svs:=V.svs.set c.b (.slice s31 ((nth V.sll c.b).length + 1) c31),sll:=V.sll.set c.b (nth V.sll c.b ++ [⟨c.k,c.a,c.b,c.f,sa,sn,sc⟩]) } { st with sr:=upd st.sr c.b (st.sr c.b ++ [c]) } Z∧Ext rl rl' W Z∧BoxC Z bw c.k c.a c.b c.f (.slice sa sn sc)∧rl' bw = 0) HM3.out ?_
 intro W4 h4
 obtain ⟨V4,hV4⟩ : ∃ V4,V4 = ({ V with svs:=V.svs.set c.b (.slice s31 ((nth V.sll c.b).length + 1) c31),sll:=V.sll.set c.b (nth V.sll c.b ++ [⟨c.k,c.a,c.b,c.f,sa,sn,sc⟩]) } : Vals):=⟨_,rfl⟩
 obtain ⟨st4,hst4⟩ : ∃ st4,st4 = ({ st with sr:=upd st.sr c.b (st.sr c.b ++ [c]) } : St):=⟨_,rfl⟩
 rw [← hV4, ← hst4] at h4
 obtain ⟨ra,rc,hra⟩:=h4.1.setsV
 have i2:=h4.1.setsIx hra haN
 obtain ⟨c4,cS, -⟩:=h4.1.setsAt hra haN
 have d1:=h4.2.2.1.2.2.1
 have hset:=(h4.1.sets (by omega)).mean c.b haN
 have H4:=Lib.hid (And.intro h4 (And.intro hset (And.intro hst4 hra)))
 clear h4 hset hc31 hf31 HM3 hV4 hst4 hra HM HB
 go_wp2_with fail
 refine wp_region_mixH [0,1,2,3,4,5,6,7,10] [8,9] (fun w' => w'.cell? ⟨sv,4,none⟩ = some (.slice ra S.N rc)∧w'.cell? ⟨blk ra,ofs ra + c.b,none⟩ = some (nth V4.xs c.b)∧w'.cell? ⟨bw,2,none⟩ = some (.int .i64 (c.b : Int))) (by kernel_rfl) (by kernel_rfl) (by kernel_rfl) ⟨c4,cS,d1⟩ ?_
 repeat (
  refine wpHeads_cons (v:=?_) rfl (Or.inl ⟨by rfl, ?_⟩) ?_
  rotate_left
  ·(intro W hW; go_simp; try with_reducible rfl)
  simp only [Act.put,List.setIfInBounds_toArray])
 refine wpHeads_nil ?_
 refine wpTailsH_cons rfl ?_
 go_wp2_with fail
 refine (List_S (H4.out.2.1.ex (Ext.grown (rl:=rl') (grownBy_drew0 _)))).mono ?_
 rintro e W5 ⟨a5,c5,L,rfl,o5,mL,pL,lL,q5⟩
 have g5 : W4.grownBy W5 none:=grownBy_trans (grownBy_drew0 _) (grownBy_below q5)
 go_wp2_with fail
 refine tail_mk ⟨g5.cell c4 (by simp),g5.cell cS (by simp),g5.cell d1 (by simp)⟩ ?_
 refine wpTailsH_cons rfl ?_
 go_wp2_with fail
 refine tail_mk ⟨g5.cell c4 (by simp),g5.cell cS (by simp),g5.cell d1 (by simp)⟩ ?_
 refine wpTailsH_nil ?_
 go_wp2_with fail
 have hr5 : ∀ k,(Value.slice a5 L.length c5).ownBlock = some k→rl' k = 0:=fun k hk => H4.out.1.1.fr k (by have:=(o5.lt k hk).1; simpa using this)
 have H5:=Lib.hid (And.intro (H4.out.1.1.keep g5) (And.intro (H4.out.1.2.1.trans (Ext.grown (rl:=rl') g5)) (And.intro (H4.out.1.2.2.1.ext (Ext.grown (rl:=rl') g5) H4.out.1.2.2.2) (And.intro H4.out.1.2.2.2 (And.intro o5.lst hr5)))))
 have HL:=Lib.hid (And.intro mL (And.intro H4.out.2.2.1 (HA.out.2.1)))
 have HPL:=Lib.hid pL
 clear pL
 have hix : ∀ (x : Int),0 ≤ x→x < L.length→∀ Z,(Instr.indexAt 32 (.slice a5 L.length c5) (.int .i64 x)).run Tryz.prog Z = .ok (.pointer (some ⟨blk a5,ofs a5 + x.toNat,none⟩)) Z:=by
  obtain ⟨a6,c6,he6, -,hidx6, -⟩:=o5.lst.out1 sInt
  simp only [Value.slice.injEq] at he6
  obtain ⟨rfl,he6,rfl⟩:=he6
  intro x h0 h1
  have:=hidx6 .i64 x h0 (by rw [← he6]; exact h1)
  rw [← he6] at this; exact this
 clear hr5 o5 mL q5 g5 H4 c4 cS d1 i2
 go_loopw [5,34] (fun _ x wr => ∃ (j : Nat) (rl2 : Nat→Nat) (V2 : Vals) (st2 : St),j ≤ L.length∧x = .int .i64 j∧Hid (Mem S w0 sv rl2 V2 st2 wr∧Ext rl' rl2 W5 wr∧Joins ((L.take j).map fun z => (c.a,S.cell z c.f)) st4 st2)) (fun _ x _ => L.length - (intOf x).toNat)
 case atStart => exact ⟨0,rl',V4,st4,by omega,rfl,H5.out.1,Ext.refl _ _,rfl⟩
 case round =>
  obtain ⟨j,rl2,V2,st2,hj,rfl,hh⟩:=hrel
  by_cases hlt : j < L.length
  ·have hyL : nth L j ∈ L:=nth_mem L j hlt
   have hyp:=(HL.out.1 _).2 hyL
   have hy : nth L j < S.sites:=HL.out.2.2 c.b _ (by have e:=HL.out.2.1; rw [e] at hyp; exact hyp)
   have hlst:=lst_ext H5.out.2.2.2.2.1 hh.out.2.1 (fun _ k hk => .inl (H5.out.2.2.2.2.2 k hk))
   have hcl : wr.cell? ⟨blk a5,ofs a5 + j,none⟩ = some (.int .i64 ((nth L j : Nat) : Int)):=by
    obtain ⟨a6,c6,he6, -, -,hcell6, -⟩:=hlst.out1 sInt
    simp only [Value.slice.injEq] at he6
    obtain ⟨rfl, -,rfl⟩:=he6
    have:=hcell6 j (by simpa using hlt)
    rw [this]; simp [nth,hlt]
   have hbx:=H5.out.2.2.1.ext hh.out.2.1 H5.out.2.2.2.1
   obtain ⟨-,d2, -,d3, -⟩:=hbx
   have b0:=(hh.out.1.fld 0 (v:=.int .i64 (S.vars : Int)) rfl).1
   have b1:=(hh.out.1.fld 1 (v:=.int .i64 (S.sites : Int)) rfl).1
   have b2:=(hh.out.1.fld 2 (v:=.int .i64 (S.fields : Int)) rfl).1
   have b3:=(hh.out.1.fld 3 (v:=V2.cons) rfl).1
   have htd2 : st2.todo.length ≤ 1000000:=by
    have:=hh.out.2.2.todo
    have e:=HL.out.2.1
    rw [e] at this
    simp at this; omega
   have hcp2 : (st2.cp c.a).length ≤ 100000000:=by
    have:=hh.out.2.2.len c.a
    have e:=HL.out.2.1
    rw [e] at this
    have h9:=HA.out.1 c.a
    simp at this; omega
   have hcN:=Syst.cell_lt hy HA.out.2.2.1
   have HK:=Lib.hid (And.intro htd2 (And.intro hcp2 hcN))
   have hyt : (L.take (j + 1)).map (fun z => (c.a,S.cell z c.f)) = (L.take j).map (fun z => (c.a,S.cell z c.f)) ++ [(c.a,S.cell (nth L j) c.f)]:=by rw [take_snoc _ _ hlt]; simp
   have HY:=Lib.hid (And.intro hyt trivial)
   clear hyt
   generalize nth L j = y at *
   clear hyp hyL hlst htd2 hcp2 hcN
   go_wp2_with fail
   refine wp_region_mix [0,1,2,3,4,5,6,7,8,9] [10,11] (fun w' => w'.cell? ⟨sv,0,none⟩ = some (.int .i64 (S.vars : Int))∧w'.cell? ⟨sv,1,none⟩ = some (.int .i64 (S.sites : Int))∧w'.cell? ⟨sv,2,none⟩ = some (.int .i64 (S.fields : Int))∧w'.cell? ⟨sv,3,none⟩ = some V2.cons∧w'.cell? ⟨bw,3,none⟩ = some (.int .i64 (c.f : Int))∧w'.cell? ⟨bw,1,none⟩ = some (.int .i64 (c.a : Int))) (by kernel_rfl) (by kernel_rfl) (by kernel_rfl) ⟨b0,b1,b2,b3,d3,d2⟩ ?_
   repeat (
    refine wpHeads_cons (v:=?_) rfl (Or.inl ⟨by rfl, ?_⟩) ?_
    rotate_left
    ·(intro W hW; go_simp; try with_reducible rfl)
    simp only [Act.put,List.setIfInBounds_toArray])
   refine wpHeads_nil ?_
   refine wpTails_cons rfl ?_
   go_wp2_with fail
   obtain ⟨nn,hnn,hcl7⟩:=cell_is S y c.f V2.cons (wr.drew) hV hF (by omega) (by omega)
   refine hcl7.mono ?_
   rintro e W7 ⟨rfl,q7⟩
   have g7 : wr.grownBy W7 none:=grownBy_trans (grownBy_drew0 _) (grownBy_below q7)
   go_wp2_with fail
   refine tail_mk ⟨g7.cell b0 (by simp),g7.cell b1 (by simp),g7.cell b2 (by simp),g7.cell b3 (by simp),g7.cell d3 (by simp),g7.cell d2 (by simp)⟩ ?_
   refine wpTails_one rfl ?_
   have HM7:=Lib.hid (And.intro (hh.out.1.keep g7) (And.intro (hh.out.2.1.trans (Ext.grown (rl:=rl2) g7)) hh.out.2.2))
   clear g7 q7 b0 b1 b2 b3 d2 d3 hh hcl
   subst hnn
   clear hcl7
   go_wp2_with fail
   refine (join_any HM7.out.1 c.a (S.cell y c.f) hbN HK.out.2.2 hN HK.out.1 HK.out.2.1).mono ?_
   rintro e W8 ⟨v8,rl8,V8,st8,rfl,hp,m8,e8⟩
   have H8:=Lib.hid (And.intro m8 (And.intro (HM7.out.2.1.trans e8) (Joins.snoc (e:=(c.a,S.cell y c.f)) HM7.out.2.2 hp)))
   clear hp m8 e8
   go_wp2_with fail
   refine thenQ_mk ?_
   go_wp2_with fail
   go_roundw
   case rel => exact ⟨j + 1,rl8,V8,st8,by omega,by go_num,H8.out.1,H8.out.2.1,by
    have h9:=H8.out.2.2
    rw [HY.out.1]; exact h9⟩
   case measure => simp [intOf]; omega
  ·obtain rfl : j = L.length:=by omega
   have HD:=Lib.hid hh.out
   clear hh
   go_wp2_with fail
   go_end0
   refine ⟨_,rl2,V2,st2,rfl,⟨L,HPL.out, ?_, ?_⟩,HD.out.1,H5.out.2.1.trans HD.out.2.1⟩
   ·intro z
    have h9:=HL.out.1 z
    rw [HL.out.2.1] at h9; exact h9
   ·have h9:=HD.out.2.2
    rw [List.take_length,HL.out.2.1] at h9; exact h9
end Go.Proofs.YtgblfjccccdidaaGreat
end
section
namespace Go.Proofs.YtgblfjccccdidaaGreat
open Go.RowKit Go.Dfl Go.And
theorem Of_S {rl : Nat→Nat} {W : World} {v : Value} {s : List Nat} (h : Ints W v (s.map fun x : Nat => (x : Int))) (hs : ∀ x ∈ s,x < 65536) (hfr : ∀ k,W.heap.size ≤ k→rl k = 0) :
  Calls Tryz.prog 71 #[v] W (fun e W' => ∃ a n c p,e = .returned (.tuple #[.slice a n c,.int .i64 0])∧IsS rl W' (.slice a n c) p∧(∀ x,p x = true ↔ x ∈ s)∧Below W.heap.size W W'):=by
 refine (Of_any v _ W h).mono ?_
 rintro e W1 (⟨hbad, -⟩ | ⟨-,v,r,rfl,hF,hW,hN2,hl,hp,hbe⟩)
 ·exfalso
  rw [Bool.eq_false_iff] at hbad
  refine hbad (List.all_eq_true.2 fun x hx => ?_)
  obtain ⟨y,hy,rfl⟩:=List.mem_map.1 hx
  have:=hs y hy
  simp [valB]; omega
 obtain ⟨a2,c2,rfl, -⟩:=hF.1.out1 sBits
 refine ⟨a2,_,c2,fun x => decide (x ∈ s),rfl,⟨r,hF.1,hW,hl,fun x => ?_,fun k hk h0 => hfr k ?_⟩,fun x => by simp,hbe⟩
 ·rw [hp]
  by_cases hx : x ∈ s
  ·simp [hx]; exact ⟨x,hx,rfl⟩
  ·simp [hx]
   intro y hy e
   obtain rfl : y = x:=by omega
   exact hx hy
 ·have:=(hF.2 a2 _ c2 rfl h0).1
  cases a2 with
  | none => simp [Value.ownBlock] at hk
  | some ad => simp [Value.ownBlock] at hk; simp [blk] at this; omega
theorem cells4_keep {W1 W2 : World} {row : Option Nat} {p q : Addr} {x y : Value} {bw k a b f : Nat} {v : Value} (h : W1.cell? p = some x∧W1.cell? q = some y∧BoxC W1 bw k a b f v) (hg : W1.grownBy W2 row) (hp : some p.block ≠ row) (hq : some q.block ≠ row) (hb : some bw ≠ row) :
  W2.cell? p = some x∧W2.cell? q = some y∧BoxC W2 bw k a b f v:=⟨hg.cell h.1 hp,hg.cell h.2.1 hq,h.2.2.grown hg hb⟩
set_option maxHeartbeats 6400000 in
set_option maxRecDepth 100000 in
theorem filter_any {S : Syst} {w0 : World} {sv : Nat} {rl : Nat→Nat} {V : Vals} {st : St} {W : World} (h : Mem S w0 sv rl V st W) (c : C) (sa : Option Addr) (sn sc : Nat) (ha : c.a < S.vars) (hb : c.b < S.vars) (hset : Ints W (.slice sa sn sc) (c.s.map fun x : Nat => (x : Int))) (hs : ∀ x ∈ c.s,x < 65536) (hN : S.N ≤ 1000000) (htd : st.todo.length ≤ 1000000) (hpt : (st.pt c.a).length ≤ 1000000) :
  Calls Tryz.prog 67 #[.pointer (some ⟨sv,0,none⟩),.agg #[.int .i64 c.k,.int .i64 c.a,.int .i64 c.b,.int .i64 c.f,.slice sa sn sc]] W
   (DoesP (fun x y => ∃ s,(∀ z,s z = true ↔ z ∈ c.s)∧Put c.b (fun z => x.p c.a z && s z) { x with pt:=upd x.pt c.a (x.pt c.a ++ [(c.b,s)]) } y) S w0 sv rl st W):=by
 have haN:=vN ha
 have hbN:=vN hb
 have HM0:=Lib.hid (And.intro h (And.intro hset hs))
 have HA:=Lib.hid hpt
 clear h hset hs hpt
 go_enter Tryz.func67,Tryz.ntmps67
 go_wp2_with fail
 obtain ⟨W0,hW0⟩ : ∃ W0,W0 = W.alloc (.cells #[.int .i64 (c.k : Int),.int .i64 c.a,.int .i64 c.b,.int .i64 c.f,.slice sa sn sc] 48):=⟨_,rfl⟩
 rw [← hW0]
 have h0 : Mem S w0 sv rl V st W0∧Ext rl rl W W0∧BoxC W0 W.heap.size c.k c.a c.b c.f (.slice sa sn sc)∧rl W.heap.size = 0∧Ints W0 (.slice sa sn sc) (c.s.map fun x : Nat => (x : Int)):=by
  rw [hW0]
  exact ⟨HM0.out.1.keep (grownBy_alloc _ _),Ext.grown (grownBy_alloc _ _),BoxC.new _ _ _ _ _ _ _,HM0.out.1.fr _ (Nat.le_refl _),HM0.out.2.1.grown (row:=none) (grownBy_alloc _ _) (by simp)⟩
 obtain ⟨bw,hbw⟩ : ∃ bw,bw = W.heap.size:=⟨_,rfl⟩
 rw [← hbw] at h0 ⊢
 clear hbw hW0
 have H0:=Lib.hid h0
 clear h0
 refine (Of_S (rl:=rl) H0.out.2.2.2.2 HM0.out.2.2 H0.out.1.fr).mono ?_
 rintro e W1 ⟨oa,on,oc,s,rfl,hs1,hsm,hbe⟩
 have g1 : W0.grownBy W1 none:=grownBy_below hbe
 have h1 : Mem S w0 sv rl V st W1∧Ext rl rl W W1∧BoxC W1 bw c.k c.a c.b c.f (.slice sa sn sc)∧rl bw = 0:=⟨H0.out.1.keep g1,H0.out.2.1.trans (Ext.grown g1),H0.out.2.2.1.grown g1 (by simp),H0.out.2.2.2.1⟩
 have HS:=Lib.hid (And.intro hs1 hsm)
 clear hs1 hsm hbe g1 H0 HM0
 obtain ⟨la,lc,hla⟩:=h1.1.ptV
 have i1:=h1.1.ptIx hla ha
 obtain ⟨c8,cL,fL⟩:=h1.1.ptAt hla ha
 obtain ⟨d0,d1,d2,d3,d4⟩:=h1.2.2.1
 have hC:=h1.1.pt (by omega)
 have hbs : some sv ≠ (nth V.pvs c.a).ownBlock:=fun e => by
  have:=hC.role sv (.inr ⟨c.a,by rw [hC.own.len,hC.len]; exact ha,e.symm⟩)
  rw [h1.1.rbox] at this; omega
 have hbo : some (blk la) ≠ (nth V.pvs c.a).ownBlock:=fun e => by
  have hC2:=hC
  rw [hla] at hC2
  exact hC2.own.apart c.a (by rw [hC2.len]; exact ha) (blk la) e.symm (own_blk hC2.own.out (i:=c.a) (by rw [hC2.own.len,hC2.len]; exact ha))
 have hbb : some bw ≠ (nth V.pvs c.a).ownBlock:=fun e => by
  have:=hC.role bw (.inr ⟨c.a,by rw [hC.own.len,hC.len]; exact ha,e.symm⟩)
  rw [h1.2.2.2] at this; omega
 have hlen : (nth V.pll c.a).length ≤ 1000000:=by rw [(hC.mean c.a ha).1]; exact HA.out
 have HB:=Lib.hid (And.intro hbs (And.intro hbo (And.intro hbb hlen)))
 have hsz:=h1.1.bel.size
 have HM:=Lib.hid (And.intro h1 hla)
 clear h1 hla hC hbs hbo hbb hlen
 go_wp2_with fail
 refine wp_region_mix [0,1,2,3,4,5,6,7,8,9,10,11,12,13,14,15,16,17] [18,19,20,21] (fun w' => w'.cell? ⟨sv,7,none⟩ = some (.slice la S.vars lc)∧w'.cell? ⟨blk la,ofs la + c.a,none⟩ = some (nth V.pvs c.a)∧BoxC w' bw c.k c.a c.b c.f (.slice sa sn sc)) (by kernel_rfl) (by kernel_rfl) (by kernel_rfl) ⟨c8,cL,d0,d1,d2,d3,d4⟩ ?_
 repeat (
  refine wpHeads_cons (v:=?_) rfl (Or.inl ⟨by rfl, ?_⟩) ?_
  rotate_left
  ·(intro W hW; obtain ⟨q1,q2,q3,q4,q5,q6,q7⟩:=hW; go_simp; try with_reducible rfl)
  simp only [Act.put,List.setIfInBounds_toArray])
 refine wpHeads_nil ?_
 refine wpTails_cons rfl ?_
 go_wp2_with fail
 have g2 : W1.grownBy ((W1.alloc (.cells #[.int .i64 (c.b : Int),.slice oa on oc] 134)).drew) none:=grownBy_trans (grownBy_alloc _ _) (grownBy_drew0 _)
 have m2:=HM.out.1.1.keep g2
 have e2:=HM.out.1.2.1.trans (Ext.grown (rl:=rl) g2)
 refine tail_mk (cells4_keep ⟨c8,cL,d0,d1,d2,d3,d4⟩ g2 (by simp) (by simp) (by simp)) ?_
 refine wpTails_cons rfl ?_
 have HM2:=Lib.hid (And.intro m2 (And.intro e2 g2))
 clear m2 e2 g2
 refine wp_appendE (E:=elP) sPart rfl rfl _ _ rfl (v:=nth V.pvs c.a) (l:=nth V.pll c.a) (base:=w0.heap.size) rfl W1.heap.size rfl ((HM2.out.1.pt (by omega)).own.inn c.a (by rw [(HM2.out.1.pt (by omega)).len]; exact ha)) ⟨c.b,oa,on,oc⟩ (cells_new (W:=W1) (cs:=[.int .i64 (c.b : Int),.slice oa on oc]) (t:=134) rfl) (by have:=HB.out.2.2.2; omega) (by have:=HB.out.2.2.2; omega) (by simp; omega) ?_
 intro v31 w31 o31 g31 l31
 obtain ⟨s31,c31,rfl⟩:=o31.shape (n:=(nth V.pll c.a).length + 1) (by simp)
 have hS31:=cells4_keep ⟨c8,cL,d0,d1,d2,d3,d4⟩ (grownBy_trans (grownBy_widen HM2.out.2.2) g31) HB.out.1 HB.out.2.1 HB.out.2.2.1
 refine tail_mk hS31 ?_
 refine wpTails_cons rfl ?_
 go_wp2_with fail
 refine tail_mk hS31 ?_
 refine wpTails_one rfl ?_
 have hc31:=hS31.2.1
 have hf31 : w31.frozen? ⟨blk la,ofs la + c.a,none⟩ = false:=by
  have hC2:=HM2.out.1.pt (by omega)
  rw [HM.out.2] at hC2
  exact (hC2.own.outAt (by rw [hC2.len]; exact ha) g31).frozen (by rw [hC2.own.len,hC2.len]; omega) _
 have hput:=HM2.out.1.putPt HM.out.2 ha (y:=(c.b,s)) g31 o31 l31 ⟨rfl,HS.out.1.ex (Ext.grown (rl:=rl) HM2.out.2.2)⟩
 obtain ⟨rl',m3,e3⟩:=hput
 have hr0 : rl' bw = 0:=by
  have hlt:=World.block_lt_of_cell? W1 _ d0
  have:=((Ext.grown (rl:=rl) HM2.out.2.2).trans e3).same bw hlt (.inl HM.out.1.2.2.2)
  rw [this.2]; exact HM.out.1.2.2.2
 have hbx:=HM.out.1.2.2.1.ext ((Ext.grown (rl:=rl) HM2.out.2.2).trans e3) HM.out.1.2.2.2
 have hs3:=HS.out.1.ex ((Ext.grown (rl:=rl) HM2.out.2.2).trans e3)
 have HM3:=Lib.hid (And.intro m3 (And.intro (HM2.out.2.1.trans e3) (And.intro hbx (And.intro hr0 hs3))))
 clear m3 e3 HM2 hS31 o31 g31 l31 c8 cL fL d0 d1 d2 d3 d4 hbx hr0 hs3
 go_wp2_with fail
 refine thenQ_mk ?_
 refine K_gen (fun Z => Mem S w0 sv rl' { V with pvs:=V.pvs.set c.a (.slice s31 ((nth V.pll c.a).length + 1) c31),pll:=V.pll.set c.a (nth V.pll c.a ++ [⟨c.b,oa,on,oc⟩]) } { st with pt:=upd st.pt c.a (st.pt c.a ++ [(c.b,s)]) } Z∧Ext rl rl' W Z∧BoxC Z bw c.k c.a c.b c.f (.slice sa sn sc)∧rl' bw = 0∧IsS rl' Z (.slice oa on oc) s) HM3.out ?_
 intro W4 h4
 obtain ⟨V4,hV4⟩ : ∃ V4,V4 = ({ V with pvs:=V.pvs.set c.a (.slice s31 ((nth V.pll c.a).length + 1) c31),pll:=V.pll.set c.a (nth V.pll c.a ++ [⟨c.b,oa,on,oc⟩]) } : Vals):=⟨_,rfl⟩
 rw [← hV4] at h4
 obtain ⟨ra,rc,hra⟩:=h4.1.setsV
 have i2:=h4.1.setsIx hra haN
 obtain ⟨c4,cS, -⟩:=h4.1.setsAt hra haN
 have d1:=h4.2.2.1.2.1
 have d2:=h4.2.2.1.2.2.1
 have hset:=(h4.1.sets (by omega)).mean c.a haN
 obtain ⟨xa,xn,xc,hx⟩ : ∃ a n c',nth V4.xs c.a = .slice a n c':=by
  obtain ⟨r,q1, -⟩:=hset
  obtain ⟨a,c',e, -⟩:=q1.out1 sBits
  exact ⟨a,_,c',e⟩
 rw [hx] at cS hset
 have H4:=Lib.hid (And.intro h4 hset)
 clear h4 hset hc31 hf31 HM3 hV4 hra HM HB hx
 go_wp2_with fail
 refine wp_region_mix [0,1,2,3,4,5,6,7,8,9,10,11] [12,13] (fun w' => w'.cell? ⟨sv,4,none⟩ = some (.slice ra S.N rc)∧w'.cell? ⟨blk ra,ofs ra + c.a,none⟩ = some (.slice xa xn xc)∧w'.cell? ⟨bw,1,none⟩ = some (.int .i64 (c.a : Int))∧w'.cell? ⟨bw,2,none⟩ = some (.int .i64 (c.b : Int))) (by kernel_rfl) (by kernel_rfl) (by kernel_rfl) ⟨c4,cS,d1,d2⟩ ?_
 repeat (
  refine wpHeads_cons (v:=?_) rfl (Or.inl ⟨by rfl, ?_⟩) ?_
  rotate_left
  ·(intro W hW; go_simp; try with_reducible rfl)
  simp only [Act.put,List.setIfInBounds_toArray])
 refine wpHeads_nil ?_
 refine wpTails_cons rfl ?_
 go_wp2_with fail
 refine (Both_S (rl:=rl') (H4.out.2.ex (Ext.grown (rl:=rl') (grownBy_drew0 _))) (H4.out.1.2.2.2.2.ex (Ext.grown (rl:=rl') (grownBy_drew0 _))) (fun k hk => H4.out.1.1.fr k (by simpa using hk))).mono ?_
 rintro e W5 ⟨a5,n5,c5,rfl,o5,q5⟩
 have g5 : W4.grownBy W5 none:=grownBy_trans (grownBy_drew0 _) (grownBy_below q5)
 go_wp2_with fail
 refine tail_mk ⟨g5.cell c4 (by simp),g5.cell cS (by simp),g5.cell d1 (by simp),g5.cell d2 (by simp)⟩ ?_
 refine wpTails_one rfl ?_
 have H5:=Lib.hid (And.intro (H4.out.1.1.keep g5) (And.intro (H4.out.1.2.1.trans (Ext.grown (rl:=rl') g5)) o5))
 clear g5 q5 o5 c4 cS d1 d2
 go_wp2_with fail
 refine (put_any H5.out.1 c.b hbN hN htd H5.out.2.2).mono ?_
 rintro e W8 ⟨v8,rl8,V8,st8,rfl,hp,m8,e8⟩
 have H8:=Lib.hid (And.intro m8 (And.intro (H5.out.2.1.trans e8) hp))
 clear hp m8 e8
 go_wp2_with fail
 refine thenQ_mk ?_
 go_wp2_with fail
 go_end0
 exact ⟨_,rl8,V8,st8,rfl,⟨s,HS.out.2,H8.out.2.2⟩,H8.out.1,H8.out.2.1⟩
end Go.Proofs.YtgblfjccccdidaaGreat
end
section
namespace Go.And
theorem Puts.mass {S : Syst} : ∀ {l : List (Nat × (Nat→Bool))} {a b : St},Puts l a b→(∀ e ∈ l,e.1 < S.N∧∀ x,e.2 x = true→x < S.sites)→b.todo.length + Go.And.mass S a ≤ a.todo.length + Go.And.mass S b∧Go.And.mass S a ≤ Go.And.mass S b
 | [],a,b,h,_ => by cases h; exact ⟨Nat.le_refl _,Nat.le_refl _⟩
 | e :: l,a,b,⟨m,h1,h2⟩,hl => by
   have q1:=h1.mass (hl e (by simp)).1 (hl e (by simp)).2
   have q2:=Puts.mass h2 fun x hx => hl x (by simp [hx])
   omega
theorem Joins.mass {S : Syst} : ∀ {l : List (Nat × Nat)} {a b : St},Joins l a b→(∀ e ∈ l,e.2 < S.N)→(∀ j x,a.p j x = true→x < S.sites)→b.todo.length + Go.And.mass S a ≤ a.todo.length + Go.And.mass S b∧Go.And.mass S a ≤ Go.And.mass S b
 | [],a,b,h,_,_ => by cases h; exact ⟨Nat.le_refl _,Nat.le_refl _⟩
 | e :: l,a,b,⟨m,h1,h2⟩,hl,hb => by
   have q1:=h1.mass (hl e (by simp)) (hb e.1)
   have q2:=Joins.mass h2 (fun x hx => hl x (by simp [hx])) (h1.bnd hb)
   omega
theorem Put.bnd {i n : Nat} {s : Nat→Bool} {a b : St} (h : Put i s a b) (hs : ∀ x,s x = true→x < n) (hb : ∀ j x,a.p j x = true→x < n) : ∀ j x,b.p j x = true→x < n:=by
 intro j x hx
 rcases h with ⟨-,rfl⟩ | ⟨-,rfl⟩
 ·exact hb j x hx
 ·by_cases e : j = i
  ·subst e
   simp only [upd_same] at hx
   cases h1 : a.p j x
   ·simp only [h1,Bool.not_false,Bool.and_true,Bool.false_or] at hx; exact hs x hx
   ·exact hb j x h1
  ·simp only [upd_other _ _ _ e] at hx; exact hb j x hx
theorem Puts.bnd {n : Nat} : ∀ {l : List (Nat × (Nat→Bool))} {a b : St},Puts l a b→(∀ e ∈ l, ∀ x,e.2 x = true→x < n)→(∀ j x,a.p j x = true→x < n)→∀ j x,b.p j x = true→x < n
 | [],a,b,h,_,hb => by cases h; exact hb
 | e :: l,a,b,⟨m,h1,h2⟩,hl,hb => Puts.bnd h2 (fun x hx => hl x (by simp [hx])) (h1.bnd (hl e (by simp)) hb)
theorem Joins.bnd {n : Nat} : ∀ {l : List (Nat × Nat)} {a b : St},Joins l a b→(∀ j x,a.p j x = true→x < n)→∀ j x,b.p j x = true→x < n
 | [],a,b,h,hb => by cases h; exact hb
 | e :: l,a,b,⟨m,h1,h2⟩,hb => Joins.bnd h2 (h1.bnd hb)
theorem Puts.len : ∀ {l : List (Nat × (Nat→Bool))} {a b : St},Puts l a b→b.cp = a.cp
 | [],a,b,h => by cases h; rfl
 | e :: l,a,b,⟨m,h1,h2⟩ => by rw [Puts.len h2,h1.le.2.2.1]
end Go.And
namespace Go.Proofs.YtgblfjccccdidaaGreat
open Go.RowKit Go.Dfl Go.And
section
variable {S : Syst} {w0 : World} {sv : Nat} {rl : Nat→Nat} {V : Vals} {st : St} {W : World}
theorem Mem.cpRow (h : Mem S w0 sv rl V st W) {i : Nat} (hi : i < S.N) : ∃ a c,nth V.cvs i = .slice a (st.cp i).length c∧(st.cp i).length ≤ 9223372036854775807 ∧
  (∀ x : Int,0 ≤ x→x < (st.cp i).length→∀ W',(Instr.indexAt 32 (.slice a (st.cp i).length c) (.int .i64 x)).run Tryz.prog W' = .ok (.pointer (some ⟨blk a,ofs a + x.toNat,none⟩)) W') ∧
  ∀ j,j < (st.cp i).length→W.cell? ⟨blk a,ofs a + j,none⟩ = some (.int .i64 ((nth (st.cp i) j : Nat) : Int)):=by
 have hC:=h.cp (by omega)
 have ho:=hC.own.inn i (by rw [hC.len]; exact hi)
 have hm:=hC.mean i hi
 obtain ⟨a,c,h1,h2,h3,h4, -⟩:=ho.lst.out1 sInt
 have hl : (nth V.cll i).length = (st.cp i).length:=by rw [hm]; simp
 rw [hl] at h1 h2 h3 h4
 refine ⟨a,c,h1,h2,fun x => h3 .i64 x,fun j hj => ?_⟩
 rw [h4 j hj,hm]
 simp [nth,hj]
theorem Mem.ptRow (h : Mem S w0 sv rl V st W) {i : Nat} (hi : i < S.vars) : ∃ a c,nth V.pvs i = .slice a (st.pt i).length c∧(st.pt i).length ≤ 9223372036854775807 ∧
  (∀ x : Int,0 ≤ x→x < (st.pt i).length→∀ W',(Instr.indexAt 132 (.slice a (st.pt i).length c) (.int .i64 x)).run Tryz.prog W' = .ok (.pointer (some ⟨blk a,ofs a + x.toNat * 2,none⟩)) W') ∧
  ∀ j,j < (st.pt i).length→∃ sa sn sc,W.cell? ⟨blk a,ofs a + j * 2,none⟩ = some (.int .i64 ((nth (st.pt i) j).1 : Int))∧W.cell? ⟨blk a,ofs a + j * 2 + 1,none⟩ = some (.slice sa sn sc)∧IsS rl W (.slice sa sn sc) (nth (st.pt i) j).2:=by
 have hC:=h.pt (by omega)
 have ho:=hC.own.inn i (by rw [hC.len]; exact hi)
 have hm:=hC.mean i hi
 obtain ⟨a,c,h1,h2,h3,h4, -⟩:=(OwnE.sliced ho).outN sPart (by show 0 < 2; omega)
 have hl : (nth V.pll i).length = (st.pt i).length:=hm.1
 rw [hl] at h1 h2 h3 h4
 refine ⟨a,c,h1,h2,fun x => h3 .i64 x,fun j hj => ?_⟩
 obtain ⟨q1,q2⟩:=hm.2 j (by omega)
 refine ⟨(nth (nth V.pll i) j).sa,(nth (nth V.pll i) j).sn,(nth (nth V.pll i) j).sc, ?_, ?_,q2⟩
 ·have:=h4 j hj 0 (by show 0 < 2; omega)
  rw [← q1]; exact this
 ·exact h4 j hj 1 (by show 1 < 2; omega)
theorem Mem.ldRow (h : Mem S w0 sv rl V st W) {i : Nat} (hi : i < S.vars) : ∃ a c,nth V.lvs i = .slice a (st.ld i).length c∧(st.ld i).length ≤ 9223372036854775807 ∧
  (∀ x : Int,0 ≤ x→x < (st.ld i).length→∀ W',(Instr.indexAt 22 (.slice a (st.ld i).length c) (.int .i64 x)).run Tryz.prog W' = .ok (.pointer (some ⟨blk a,ofs a + x.toNat * 5,none⟩)) W') ∧
  ∀ j,j < (st.ld i).length→∃ sa sn sc,W.cell? ⟨blk a,ofs a + j * 5,none⟩ = some (.int .i64 ((nth (st.ld i) j).k : Int))∧W.cell? ⟨blk a,ofs a + j * 5 + 1,none⟩ = some (.int .i64 ((nth (st.ld i) j).a : Int))∧W.cell? ⟨blk a,ofs a + j * 5 + 2,none⟩ = some (.int .i64 ((nth (st.ld i) j).b : Int))∧W.cell? ⟨blk a,ofs a + j * 5 + 3,none⟩ = some (.int .i64 ((nth (st.ld i) j).f : Int))∧W.cell? ⟨blk a,ofs a + j * 5 + 4,none⟩ = some (.slice sa sn sc):=by
 have hC:=h.ld (by omega)
 have ho:=hC.own.inn i (by rw [hC.len]; exact hi)
 have hm:=hC.mean i hi
 obtain ⟨a,c,h1,h2,h3,h4, -⟩:=(OwnE.sliced ho).outN sCon (by show 0 < 5; omega)
 have hl : (nth V.lll i).length = (st.ld i).length:=hm.1
 rw [hl] at h1 h2 h3 h4
 refine ⟨a,c,h1,h2,fun x => h3 .i64 x,fun j hj => ?_⟩
 obtain ⟨q1,q2,q3,q4⟩:=hm.2 j (by omega)
 refine ⟨(nth (nth V.lll i) j).sa,(nth (nth V.lll i) j).sn,(nth (nth V.lll i) j).sc, ?_, ?_, ?_, ?_, ?_⟩
 ·have:=h4 j hj 0 (by show 0 < 5; omega)
  rw [← q1]; exact this
 ·have:=h4 j hj 1 (by show 1 < 5; omega)
  rw [← q2]; exact this
 ·have:=h4 j hj 2 (by show 2 < 5; omega)
  rw [← q3]; exact this
 ·have:=h4 j hj 3 (by show 3 < 5; omega)
  rw [← q4]; exact this
 ·exact h4 j hj 4 (by show 4 < 5; omega)
theorem Mem.srRow (h : Mem S w0 sv rl V st W) {i : Nat} (hi : i < S.vars) : ∃ a c,nth V.svs i = .slice a (st.sr i).length c∧(st.sr i).length ≤ 9223372036854775807 ∧
  (∀ x : Int,0 ≤ x→x < (st.sr i).length→∀ W',(Instr.indexAt 22 (.slice a (st.sr i).length c) (.int .i64 x)).run Tryz.prog W' = .ok (.pointer (some ⟨blk a,ofs a + x.toNat * 5,none⟩)) W') ∧
  ∀ j,j < (st.sr i).length→∃ sa sn sc,W.cell? ⟨blk a,ofs a + j * 5,none⟩ = some (.int .i64 ((nth (st.sr i) j).k : Int))∧W.cell? ⟨blk a,ofs a + j * 5 + 1,none⟩ = some (.int .i64 ((nth (st.sr i) j).a : Int))∧W.cell? ⟨blk a,ofs a + j * 5 + 2,none⟩ = some (.int .i64 ((nth (st.sr i) j).b : Int))∧W.cell? ⟨blk a,ofs a + j * 5 + 3,none⟩ = some (.int .i64 ((nth (st.sr i) j).f : Int))∧W.cell? ⟨blk a,ofs a + j * 5 + 4,none⟩ = some (.slice sa sn sc):=by
 have hC:=h.sr (by omega)
 have ho:=hC.own.inn i (by rw [hC.len]; exact hi)
 have hm:=hC.mean i hi
 obtain ⟨a,c,h1,h2,h3,h4, -⟩:=(OwnE.sliced ho).outN sCon (by show 0 < 5; omega)
 have hl : (nth V.sll i).length = (st.sr i).length:=hm.1
 rw [hl] at h1 h2 h3 h4
 refine ⟨a,c,h1,h2,fun x => h3 .i64 x,fun j hj => ?_⟩
 obtain ⟨q1,q2,q3,q4⟩:=hm.2 j (by omega)
 refine ⟨(nth (nth V.sll i) j).sa,(nth (nth V.sll i) j).sn,(nth (nth V.sll i) j).sc, ?_, ?_, ?_, ?_, ?_⟩
 ·have:=h4 j hj 0 (by show 0 < 5; omega)
  rw [← q1]; exact this
 ·have:=h4 j hj 1 (by show 1 < 5; omega)
  rw [← q2]; exact this
 ·have:=h4 j hj 2 (by show 2 < 5; omega)
  rw [← q3]; exact this
 ·have:=h4 j hj 3 (by show 3 < 5; omega)
  rw [← q4]; exact this
 ·exact h4 j hj 4 (by show 4 < 5; omega)
theorem IsS.list {v : Value} {s : Nat→Bool} (h : IsS rl W v s) : ∃ L : List Nat,L.Pairwise (· < ·)∧∀ y,s y = true ↔ y ∈ L:=by
 obtain ⟨r, -, -, -,h4, -⟩:=h
 refine ⟨(List.range (64 * r.length)).filter s,List.pairwise_lt_range.filter _,fun y => ?_⟩
 rw [List.mem_filter,List.mem_range]
 constructor
 ·intro hy
  refine ⟨?_,hy⟩
  rw [← h4] at hy
  by_cases hlt : y < 64 * r.length
  ·exact hlt
  ·rw [hasN_out _ _ (by omega)] at hy; cases hy
 ·exact fun hh => hh.2
end
end Go.Proofs.YtgblfjccccdidaaGreat
end
