/- General lemmas, of no program: rows whose elements take several cells, sources of an append, rows of rows. -/
import Derived.Test.YtdlfbkmjemamhaaBase
import Derived.Deep.AppendLies
import Derived.Deep.RegionHeld3
namespace Go.Dfl
open Go.RowKit

theorem gen_wp {P : Program} {c : Code} {Q : Exit → Act → World → Prop} {a : Act} {w : World} {n : Nat} (h : ∀ W, Qt w W → Code.wp P c Q a W) : Code.wp P c Q a (w.drewN n) := h _ ⟨n, rfl⟩
theorem grownBy_alloc (w : World) (o : Obj) : w.grownBy (w.alloc o) none :=
  ⟨rfl, rfl, rfl, by simp, fun k hk _ => Below.heap_alloc w o k hk⟩
theorem grownBy_refl (w : World) (row : Option Nat) : w.grownBy w row := ⟨rfl, rfl, rfl, Nat.le_refl _, fun _ _ _ => rfl⟩
theorem grownBy_drew0 (w : World) : w.grownBy w.drew none := ⟨rfl, rfl, rfl, Nat.le_refl _, fun _ _ _ => rfl⟩
theorem grownBy_qt {w w' : World} (h : Qt w w') : w.grownBy w' none := by obtain ⟨n, rfl⟩ := h; exact ⟨rfl, rfl, rfl, Nat.le_refl _, fun _ _ _ => rfl⟩
theorem grownBy_below {w w' : World} (h : Below w.heap.size w w') : w.grownBy w' none := ⟨h.os, h.tape, h.output, h.size, fun k hk _ => h.block k hk⟩
theorem grownBy_setCell (w : World) (a : Addr) (v : Value) : w.grownBy (w.setCell a v) (some a.block) := by
  refine ⟨rfl, rfl, rfl, by simp, fun k hk hne => ?_⟩
  unfold World.setCell
  simp only [Array.getElem?_modify]
  rw [if_neg]
  intro e
  exact hne (by rw [e])
theorem grownBy_widen {w w' : World} {row : Option Nat} (h : w.grownBy w' none) : w.grownBy w' row := ⟨h.os, h.tape, h.output, h.size, fun k hk _ => h.block k hk (by simp)⟩
theorem cell_alloc1 (W : World) (v : Value) (t : TypeId) : (W.alloc (.cells #[v] t)).cell? ⟨W.heap.size, 0, none⟩ = some v := by
  unfold World.cell?
  rw [heap_alloc_new]
  rfl
theorem le_alloc {n : Nat} {W : World} (o : Obj) (h : n ≤ W.heap.size) : n ≤ (W.alloc o).heap.size := by simp; omega
theorem cell_alloc2 (W : World) (v : Value) (t : TypeId) (o : Obj) : ((W.alloc (.cells #[v] t)).alloc o).cell? ⟨W.heap.size, 0, none⟩ = some v :=
  (grownBy_alloc _ _).cell (cell_alloc1 W v t) (by simp)
theorem cell_at1 {W : World} {v : Value} {t : TypeId} {B : Nat} (h : B = W.heap.size) : (W.alloc (.cells #[v] t)).cell? ⟨B, 0, none⟩ = some v := by subst h; exact cell_alloc1 _ _ _
theorem cell_at2 {W : World} {v : Value} {t : TypeId} {B : Nat} {o : Obj} (h : B = W.heap.size) : ((W.alloc (.cells #[v] t)).alloc o).cell? ⟨B, 0, none⟩ = some v := by subst h; exact cell_alloc2 _ _ _ _
theorem add0 {g j : Nat} : (⟨g, 0, none⟩ : Addr).add j = ⟨g, j, none⟩ := by unfold Addr.add; split <;> simp_all
theorem add1 {g k j : Nat} : (⟨g, k, none⟩ : Addr).add j = ⟨g, k + j, none⟩ := by unfold Addr.add; split <;> simp_all

/-! ### Sources of an append -/
/-- A slice that is only read, as a source of an append; one cell an element. -/
def Src {α : Type} [Inhabited α] (f : α → Value) (w : World) (u : Value) (m : List α) : Prop :=
  ∃ a c, u = .slice a m.length c ∧ (a = none → m.length = 0) ∧ ∀ j, j < m.length → ∃ ad : Addr, a = some ad ∧ w.cell? (ad.add j) = some (f (nth m j))

theorem run_append_none {P : Program} {w : World} (base : Nat) (t ty e : TypeId) (i : TypeInfo) (size : Nat) (ht : P.underlying t = some (.slice e)) (hi : P.info? e = some i)
    (v : Value) (n : Nat) (xs : List Value) (hown : w.ownsRow base e size v n xs) (c : Nat) : (Builtin.append_ #[t, t] ty #[v, .slice none 0 c]).run P w = .ok v w := by
  rcases hown.2 with ⟨rfl, rfl⟩ | ⟨g, cap, cur, rfl, _, _, hnc, _⟩
  · simp [Builtin.append_, run_underlying ht, sizeOf, typeInfo, hi, Builtin.lenOf, Builtin.firstCells]
  · simp [Builtin.append_, run_underlying ht, sizeOf, typeInfo, hi, Builtin.lenOf, Builtin.firstCells, hnc, storeCells]

section
variable {α : Type} [Inhabited α] {f : α → Value} {P : Program} {t e : TypeId} {z : Value} {by8 : Nat}

theorem run_append_src (ht : SliceOf P t e z 1 by8) (hz : z.cells.size = 1) (w : World) (base : Nat) (v : Value) (l : List α) (hown : Own f w base e v l) (u : Value) (m : List α) (hu : Src f w u m) (h1 : ∀ y ∈ m, (f y).oneCell' = true)
    (hlen : l.length + m.length < 5864062014805) (h8 : by8 ≤ 24) (hbase : base ≤ w.heap.size) (ty : TypeId) :
    ∃ v' w', (Builtin.append_ #[t, t] ty #[v, u]).run P w = .ok v' w' ∧ Own f w' base e v' (l ++ m) ∧ w.grownBy w' v.ownBlock ∧ (v'.ownBlock = v.ownBlock ∨ v'.ownBlock = some w.heap.size) := by
  obtain ⟨i, hi, hz0, hz1, hz2⟩ := ht.info
  obtain ⟨a, c, rfl, hn, hc⟩ := hu
  cases a with
  | none =>
    obtain rfl : m = [] := List.eq_nil_of_length_eq_zero (hn rfl)
    refine ⟨v, w, ?_, by simpa using hown, grownBy_refl _ _, .inl rfl⟩
    exact run_append_none base t ty e i 1 ht.und hi v _ _ hown c
  | some ad =>
    have hnews : ∀ j x, (m.map f)[j]? = some x → w.cell? (ad.add j) = some x := by
      intro j x hj
      have hjl : j < m.length := by
        rw [List.getElem?_eq_some_iff] at hj; obtain ⟨h, -⟩ := hj; simpa using h
      rw [nth_map f m j hjl] at hj
      obtain ⟨ad', e1, e2⟩ := hc j hjl
      simp at e1; subst e1
      rw [e2]; exact hj
    have hone : ∀ x ∈ m.map f, x.oneCell' = true := by
      intro x hx
      simp at hx; obtain ⟨y, hy, rfl⟩ := hx; exact h1 y hy
    obtain ⟨v', w', hr, h2, h3, -, h5⟩ := run_append_own_at (P := P) w base t ty e i z 1 by8 ht.und hi hz0 hz1 hz2 hz (by omega) v l.length (l.map f) hown ad m.length c (m.map f) (by simp) hnews hone (by unfold maxLen; omega) (Nat.le_trans (Nat.mul_le_mul (by omega : l.length + m.length ≤ 5864062014805) h8) (by omega)) hbase
    exact ⟨v', w', hr, by unfold Own; simpa using h2, h3, h5⟩

/-- 'append(s, u...)' as one step of a region that draws its order. -/
theorem step_appendS (ht : SliceOf P t e z 1 by8) (hz : z.cells.size = 1) {w : World} {ops : Array Oper} {o : Oper} {a : Act} {K : Act → World → Prop} {Q : Exit → Act → World → Prop} {E : Prop}
    (hg : o.guard = none) (s x : Operand) (hop : o.op = .call { callee := .builtin .append, args := #[s, x], argTypes := #[t, t] })
    (base : Nat) (v : Value) (l : List α) (hs : a.eval s = v) (u : Value) (m : List α) (hx : a.eval x = u)
    (hown : Own f w base e v l) (hu : Src f w u m) (h1 : ∀ y ∈ m, (f y).oneCell' = true)
    (hlen : l.length + m.length < 5864062014805) (h8 : by8 ≤ 24) (hbase : base ≤ w.heap.size)
    (hK : ∀ v' w', Own f w' base e v' (l ++ m) → w.grownBy w' v.ownBlock → (v'.ownBlock = v.ownBlock ∨ v'.ownBlock = some w.heap.size) → K (a.put o.dst v') w') :
    if Region.wanted o (yielded ops a.tmps) = true then Oper.wp P o a w K Q else E := by
  have hw : Region.wanted o (yielded ops a.tmps) = true := by simp [Region.wanted, hg]
  rw [if_pos hw]
  obtain ⟨v', w', hr, h2, h3, h4⟩ := run_append_src ht hz w base v l hown u m hu h1 hlen h8 hbase o.type
  unfold Oper.wp execOp
  simp only [hop, resolve, invoke, builtin, Sem.run_bind, Sem.run_pure, Result.andThen_ok, List.map_toArray, List.map_cons, List.map_nil, hs, hx, hr]
  exact hK v' w' h2 h3 h4

/-- 'append(s, u...)' in a plain region. -/
theorem wp_appendS (ht : SliceOf P t e z 1 by8) (hz : z.cells.size = 1) {w : World} {ops : Array Oper} {rest : List Oper} {o : Oper} {a : Act} {Q : Exit → Act → World → Prop}
    (hg : o.guard = none) (s x : Operand) (hop : o.op = .call { callee := .builtin .append, args := #[s, x], argTypes := #[t, t] })
    (base : Nat) (v : Value) (l : List α) (hs : a.eval s = v) (u : Value) (m : List α) (hx : a.eval x = u)
    (hown : Own f w base e v l) (hu : Src f w u m) (h1 : ∀ y ∈ m, (f y).oneCell' = true)
    (hlen : l.length + m.length < 5864062014805) (h8 : by8 ≤ 24) (hbase : base ≤ w.heap.size)
    (hK : ∀ v' w', Own f w' base e v' (l ++ m) → w.grownBy w' v.ownBlock → (v'.ownBlock = v.ownBlock ∨ v'.ownBlock = some w.heap.size) → wpList P ops Q rest (a.put o.dst v') w') : wpList P ops Q (o :: rest) a w := by
  refine wpList_plain hg fun K hK' => ?_
  obtain ⟨v', w', hr, h2, h3, h4⟩ := run_append_src ht hz w base v l hown u m hu h1 hlen h8 hbase o.type
  unfold Oper.wp execOp
  simp only [hop, resolve, invoke, builtin, Sem.run_bind, Sem.run_pure, Result.andThen_ok, List.map_toArray, List.map_cons, List.map_nil, hs, hx, hr]
  exact hK' _ _ (hK v' w' h2 h3 h4)

theorem Src.grown {w w' : World} {u : Value} {m : List α} {row : Option Nat} (h : Src f w u m) (hg : w.grownBy w' row) (hr : ∀ k, u.ownBlock = some k → some k ≠ row) : Src f w' u m := by
  obtain ⟨a, c, rfl, h1, h2⟩ := h
  refine ⟨a, c, rfl, h1, fun j hj => ?_⟩
  obtain ⟨ad, rfl, h3⟩ := h2 j hj
  refine ⟨ad, rfl, hg.cell h3 ?_⟩
  have : (ad.add j).block = ad.block := by unfold Addr.add; split <;> rfl
  rw [this]
  exact hr _ rfl

theorem Lst.src {w : World} {v : Value} {m : List α} (h : Lst f w v m) : Src f w v m := by
  obtain ⟨a, cap, rfl, h1, h2, h3⟩ := h
  refine ⟨a, cap, rfl, fun ha => ?_, fun j hj => ?_⟩
  · rcases Nat.eq_zero_or_pos m.length with e | e
    · exact e
    · have := (h3 0 e).1; rw [ha] at this; simp at this
  · obtain ⟨g1, g2, g3⟩ := h3 j hj
    refine ⟨_, g1, ?_⟩
    rw [add1]
    simpa using g3 0 (by omega)

theorem src_one (f : α → Value) {w : World} {B : Nat} {x : α} (h : w.cell? ⟨B, 0, none⟩ = some (f x)) : Src f w (.slice (some ⟨B, 0, none⟩) 1 1) [x] :=
  ⟨_, _, rfl, by simp, fun j hj => ⟨_, rfl, by
    obtain rfl : j = 0 := by simpa using hj
    simpa [Addr.add, nth] using h⟩⟩

/-- Own, cut in front: 'x[:k]'. -/
theorem Own.cutTo {w : World} {base : Nat} {v : Value} {l : List α} (ht : SliceOf P t e z 1 by8) (h : Own f w base e v l) (k : Nat) (hk : k ≤ l.length) :
    ∃ u, (∀ (ik : IntKind) (W : World), (Instr.slice t v none (some (.int ik (k : Int))) none).run P W = .ok u W) ∧ u.ownBlock = v.ownBlock ∧ ∀ W, Own f W base e v l → Src f W u (l.take k) := by
  obtain ⟨i, hi, _, hs, _⟩ := ht.info
  have hlt : (l.take k).length = k := by simp; omega
  obtain ⟨h1, ⟨rfl, h2⟩ | ⟨g, cap, cur, rfl, hg, hh, hc, hm, hsz, htk⟩⟩ := h
  · obtain rfl : k = 0 := by omega
    refine ⟨.slice none 0 0, fun ik W => ?_, rfl, fun W _ => ⟨none, 0, by simp, by simp, fun j hj => by simp at hj⟩⟩
    simp [Instr.slice, run_underlying ht.und, Instr.sliceBounds, Instr.sliceBound, asIntOf, run_sizeOf _ hi]
  · refine ⟨.slice (some ⟨g, 0, none⟩) k cap, fun ik W => ?_, rfl, fun W ho => ⟨some ⟨g, 0, none⟩, cap, by rw [hlt], by simp, fun j hj => ⟨_, rfl, ?_⟩⟩⟩
    · have h1' : k ≤ cap := by omega
      simp [Instr.slice, run_underlying ht.und, Instr.sliceBounds, Instr.sliceBound, asIntOf, h1', run_sizeOf _ hi, Addr.add]
    · rw [hlt] at hj
      have := World.ownsRow.cellAt ho j (by omega)
      rw [add0, this, nth_map f l j (by omega)]
      simp [nth, hj]

/-- Own, cut behind: 'x[k:]'. -/
theorem Own.cutFrom {w : World} {base : Nat} {v : Value} {l : List α} (ht : SliceOf P t e z 1 by8) (h : Own f w base e v l) (k : Nat) (hk : k ≤ l.length) :
    ∃ u, (∀ (ik : IntKind) (W : World), (Instr.slice t v (some (.int ik (k : Int))) none none).run P W = .ok u W) ∧ u.ownBlock = v.ownBlock ∧ ∀ W, Own f W base e v l → Src f W u (l.drop k) := by
  obtain ⟨i, hi, _, hs, _⟩ := ht.info
  have hlt : (l.drop k).length = l.length - k := by simp
  obtain ⟨h1, ⟨rfl, h2⟩ | ⟨g, cap, cur, rfl, hg, hh, hc, hm, hsz, htk⟩⟩ := h
  · obtain rfl : k = 0 := by omega
    refine ⟨.slice none 0 0, fun ik W => ?_, rfl, fun W _ => ⟨none, 0, by simp [h2], by simp [h2], fun j hj => by simp [h2] at hj⟩⟩
    simp [Instr.slice, run_underlying ht.und, Instr.sliceBounds, Instr.sliceBound, asIntOf, run_sizeOf _ hi]
  · refine ⟨.slice (some ⟨g, if cap = k then 0 else k, none⟩) (l.length - k) (cap - k), fun ik W => ?_, rfl, fun W ho => ⟨_, _, by rw [hlt], by simp, fun j hj => ⟨_, rfl, ?_⟩⟩⟩
    · have h1' : k ≤ l.length := by omega
      simp [Instr.slice, run_underlying ht.und, Instr.sliceBounds, Instr.sliceBound, asIntOf, h1', run_sizeOf _ hi, Addr.add]
      have hce : P.cellsOf e = 1 := by simp [Program.cellsOf, hi, hs]
      by_cases hck : cap = k
      · simp [hck]
      · simp [hck, hce]
        intro h0; simp [h0]
    · rw [hlt] at hj
      have := World.ownsRow.cellAt ho (k + j) (by omega)
      rw [if_neg (by omega), add1, this, nth_map f l (k + j) (by omega)]
      simp [nth]
end

theorem own_empty {α : Type} (f : α → Value) {w : World} {base : Nat} {e : TypeId} {B : Nat} (h : B = w.heap.size) (hb : base ≤ w.heap.size) : Own f (w.alloc (.cells #[] e)) base e (.slice (some ⟨B, 0, none⟩) 0 0) [] := by
  subst h
  exact World.ownsRow_lit (size := 1) w #[] 0 hb (by unfold maxLen; omega) rfl

/-! ### Rows of rows -/
instance : Inhabited Value := ⟨undef⟩

/-- What is asked of the rows within a row. -/
structure Kind {β : Type} (I : World → Nat → Value → β → Prop) : Prop where
  grown : ∀ {w w' : World} {base : Nat} {v : Value} {l : β} {row : Option Nat}, I w base v l → w.grownBy w' row → (v.ownBlock = none ∨ v.ownBlock ≠ row) → I w' base v l
  lt : ∀ {w : World} {base : Nat} {v : Value} {l : β}, I w base v l → ∀ k, v.ownBlock = some k → base ≤ k ∧ k < w.heap.size

theorem Kind.own {α : Type} (f : α → Value) (e : TypeId) : Kind (fun w base v (l : List α) => Own f w base e v l) :=
  ⟨fun h hg hne => Own.grown h hg hne, fun h => Own.lt h⟩

/-- A row of the call's own whose elements are rows of the call's own. -/
structure OwnN {β : Type} [Inhabited β] (I : World → Nat → Value → β → Prop) (w : World) (base : Nat) (eo : TypeId) (v : Value) (vs : List Value) (ll : List β) : Prop where
  out : Own (fun x : Value => x) w base eo v vs
  len : vs.length = ll.length
  inn : ∀ i, i < ll.length → I w base (nth vs i) (nth ll i)
  sep : ∀ i j, i < ll.length → j < ll.length → i ≠ j → ∀ k, (nth vs i).ownBlock = some k → (nth vs j).ownBlock ≠ some k
  apart : ∀ i, i < ll.length → ∀ k, (nth vs i).ownBlock = some k → v.ownBlock ≠ some k

/-- The blocks of a row of rows. -/
def Foot (v : Value) (vs : List Value) (k : Nat) : Prop := v.ownBlock = some k ∨ ∃ i, i < vs.length ∧ (nth vs i).ownBlock = some k

section
variable {β : Type} [Inhabited β] {I : World → Nat → Value → β → Prop} {w w' : World} {base : Nat} {eo : TypeId} {v : Value} {vs : List Value} {ll : List β}

theorem OwnN.grown (hK : Kind I) (h : OwnN I w base eo v vs ll) {row : Option Nat} (hg : w.grownBy w' row) (hr : ∀ k, row = some k → ¬ Foot v vs k) : OwnN I w' base eo v vs ll := by
  refine ⟨h.out.grown hg ?_, h.len, fun i hi => hK.grown (h.inn i hi) hg ?_, h.sep, h.apart⟩
  · cases hv : v.ownBlock with
    | none => exact .inl rfl
    | some k => exact .inr fun e => hr k e.symm (.inl hv)
  · cases hv : (nth vs i).ownBlock with
    | none => exact .inl rfl
    | some k => exact .inr fun e => hr k e.symm (.inr ⟨i, by rw [h.len]; exact hi, hv⟩)

theorem OwnN.foot (hK : Kind I) (h : OwnN I w base eo v vs ll) (k : Nat) (hk : Foot v vs k) : base ≤ k ∧ k < w.heap.size := by
  rcases hk with hk | ⟨i, hi, hk⟩
  · exact h.out.lt k hk
  · exact hK.lt (h.inn i (by rw [← h.len]; exact hi)) k hk

theorem OwnN.alloc (hK : Kind I) (h : OwnN I w base eo v vs ll) (o : Obj) : OwnN I (w.alloc o) base eo v vs ll := h.grown hK (grownBy_alloc _ _) (by simp)
theorem OwnN.qt (hK : Kind I) (h : OwnN I w base eo v vs ll) (hq : Qt w w') : OwnN I w' base eo v vs ll := h.grown hK (grownBy_qt hq) (by simp)
theorem OwnN.below (hK : Kind I) (h : OwnN I w base eo v vs ll) (hb : Below w.heap.size w w') : OwnN I w' base eo v vs ll := h.grown hK (grownBy_below hb) (by simp)

/-- The row outside, after one within has been appended to. -/
theorem OwnN.outAt (h : OwnN I w base eo v vs ll) {i : Nat} (hi : i < ll.length) (hg : w.grownBy w' (nth vs i).ownBlock) : Own (fun x : Value => x) w' base eo v vs := by
  refine h.out.grown hg ?_
  cases hv : v.ownBlock with
  | none => exact .inl rfl
  | some k => exact .inr fun e => h.apart i hi k e.symm hv

/-- 'x[i] = u', u what an append to x[i] has given. -/
theorem OwnN.put (hK : Kind I) {a : Option Addr} {n cap : Nat} (h : OwnN I w base eo (.slice a n cap) vs ll) {i : Nat} (hi : i < ll.length) {u : Value} {l : β} (hg : w.grownBy w' (nth vs i).ownBlock) (hu : I w' base u l)
    (hl : ∀ k, u.ownBlock = some k → (nth vs i).ownBlock = some k ∨ w.heap.size ≤ k) :
    OwnN I (w'.setCell ⟨blk a, ofs a + i, none⟩ u) base eo (.slice a n cap) (vs.set i u) (ll.set i l) := by
  have hvl : i < vs.length := by rw [h.len]; exact hi
  have ho := h.outAt hi hg
  have hob : (Value.slice a n cap).ownBlock = some (blk a) := by
    have hs := ho.lst
    obtain ⟨a2, c2, he, -, -, h3⟩ := hs
    simp at he
    obtain ⟨rfl, -, -⟩ := he
    rw [(h3 i hvl).1]; rfl
  have hub : ∀ k, u.ownBlock = some k → k ≠ blk a := by
    intro k hk e
    rcases hl k hk with h1 | h1
    · exact h.apart i hi k h1 (by rw [hob, e])
    · have := (h.out.lt _ hob).2; omega
  have hjb : ∀ j, j < ll.length → ∀ k, (nth vs j).ownBlock = some k → k ≠ blk a := by
    intro j hj k hk e
    exact h.apart j hj k hk (by rw [hob, e])
  have hset := grownBy_setCell w' ⟨blk a, ofs a + i, none⟩ u
  have hn : ∀ j, nth (vs.set i u) j = if i = j then u else nth vs j := by
    intro j; rw [nth_set]; by_cases e : i = j
    · rw [if_pos ⟨e, hvl⟩, if_pos e]
    · rw [if_neg (by omega), if_neg e]
  have hn2 : ∀ j, nth (ll.set i l) j = if i = j then l else nth ll j := by
    intro j; rw [nth_set]; by_cases e : i = j
    · rw [if_pos ⟨e, hi⟩, if_pos e]
    · rw [if_neg (by omega), if_neg e]
  refine ⟨ho.set i u, by simp [h.len], fun j hj => ?_, fun j m hj hm hne k hk => ?_, fun j hj k hk => ?_⟩
  · simp at hj
    rw [hn, hn2]
    by_cases e : i = j
    · rw [if_pos e, if_pos e]
      refine hK.grown hu hset ?_
      cases hv : u.ownBlock with
      | none => exact .inl rfl
      | some k => exact .inr fun e => hub k hv (by simpa using e)
    · rw [if_neg e, if_neg e]
      refine hK.grown (hK.grown (h.inn j hj) hg ?_) hset ?_
      · cases hv : (nth vs j).ownBlock with
        | none => exact .inl rfl
        | some k => exact .inr fun e2 => h.sep j i hj hi (Ne.symm e) k hv e2.symm
      · cases hv : (nth vs j).ownBlock with
        | none => exact .inl rfl
        | some k => exact .inr fun e => hjb j hj k hv (by simpa using e)
  · simp at hj hm
    rw [hn] at hk ⊢
    by_cases e1 : i = j
    · rw [if_pos e1] at hk
      rw [if_neg (by omega)]
      intro hm2
      rcases hl k hk with h1 | h1
      · exact h.sep m i hm hi (by omega) k hm2 h1
      · have := (hK.lt (h.inn m hm) k hm2).2; omega
    · rw [if_neg e1] at hk
      by_cases e2 : i = m
      · rw [if_pos e2]
        intro hm2
        rcases hl k hm2 with h1 | h1
        · exact h.sep j i hj hi (by omega) k hk h1
        · have := (hK.lt (h.inn j hj) k hk).2; omega
      · rw [if_neg e2]; exact h.sep j m hj hm hne k hk
  · simp at hj
    rw [hn] at hk
    rw [hob]
    by_cases e : i = j
    · rw [if_pos e] at hk
      intro e2; exact hub k hk (by simpa using e2.symm)
    · rw [if_neg e] at hk
      intro e2; exact hjb j hj k hk (by simpa using e2.symm)

/-- 'append(x, u)'. -/
theorem OwnN.push (hK : Kind I) (h : OwnN I w base eo v vs ll) {v' u : Value} {l : β} (ho : Own (fun x : Value => x) w' base eo v' (vs ++ [u])) (hg : w.grownBy w' v.ownBlock)
    (hl : v'.ownBlock = v.ownBlock ∨ v'.ownBlock = some w.heap.size) (hu : I w base u l) (hs : ∀ k, u.ownBlock = some k → ¬ Foot v vs k) : OwnN I w' base eo v' (vs ++ [u]) (ll ++ [l]) := by
  have hvl := h.len
  have hn : ∀ j, j < ll.length → nth (vs ++ [u]) j = nth vs j := fun j hj => by rw [nth_append, if_pos (by omega)]
  have hn0 : nth (vs ++ [u]) ll.length = u := by rw [nth_append, if_neg (by omega), hvl, Nat.sub_self]; rfl
  have hn2 : ∀ j, j < ll.length → nth (ll ++ [l]) j = nth ll j := fun j hj => by rw [nth_append, if_pos hj]
  have hn3 : nth (ll ++ [l]) ll.length = l := by rw [nth_append, if_neg (by omega), Nat.sub_self]; rfl
  have hvb : ∀ x : Value, (∀ k, x.ownBlock = some k → v.ownBlock ≠ some k) → x.ownBlock = none ∨ x.ownBlock ≠ v.ownBlock := by
    intro x hx
    cases hv : x.ownBlock with
    | none => exact .inl rfl
    | some k => exact .inr fun e => hx k hv e.symm
  have hap : ∀ k, u.ownBlock = some k → v.ownBlock ≠ some k := fun k hk e => hs k hk (.inl e)
  refine ⟨ho, by simp [hvl], fun j hj => ?_, fun j m hj hm hne k hk => ?_, fun j hj k hk => ?_⟩
  · simp at hj
    rcases Nat.lt_or_ge j ll.length with h1 | h1
    · rw [hn j h1, hn2 j h1]
      exact hK.grown (h.inn j h1) hg (hvb _ (h.apart j h1))
    · obtain rfl : j = ll.length := by omega
      rw [hn0, hn3]
      exact hK.grown hu hg (hvb _ hap)
  · simp at hj hm
    rcases Nat.lt_or_ge j ll.length with h1 | h1
    · rw [hn j h1] at hk
      rcases Nat.lt_or_ge m ll.length with h2 | h2
      · rw [hn m h2]; exact h.sep j m h1 h2 hne k hk
      · obtain rfl : m = ll.length := by omega
        rw [hn0]; intro e; exact hs k e (.inr ⟨j, by omega, hk⟩)
    · obtain rfl : j = ll.length := by omega
      rw [hn0] at hk
      rw [hn m (by omega)]
      intro e; exact hs k hk (.inr ⟨m, by omega, e⟩)
  · simp at hj
    rcases Nat.lt_or_ge j ll.length with h1 | h1
    · rw [hn j h1] at hk
      rcases hl with e | e
      · rw [e]; exact h.apart j h1 k hk
      · rw [e]; intro e2; have := (hK.lt (h.inn j h1) k hk).2; simp at e2; omega
    · obtain rfl : j = ll.length := by omega
      rw [hn0] at hk
      rcases hl with e | e
      · rw [e]; exact hap k hk
      · rw [e]; intro e2; have := (hK.lt hu k hk).2; simp at e2; omega

/-- 'make([][]T, n)'. -/
theorem OwnN.made {n : Nat} {d : β} (ho : Own (fun x : Value => x) w base eo v (List.replicate n (.slice none 0 0))) (hI : I w base (.slice none 0 0) d) : OwnN I w base eo v (List.replicate n (.slice none 0 0)) (List.replicate n d) := by
  have h1 : ∀ i, i < n → nth (List.replicate n (Value.slice none 0 0)) i = .slice none 0 0 := fun i hi => by simp [nth, hi]
  have h2 : ∀ i, i < n → nth (List.replicate n d) i = d := fun i hi => by simp [nth, hi]
  refine ⟨ho, by simp, fun i hi => ?_, fun i j hi hj _ k hk => ?_, fun i hi k hk => ?_⟩
  · simp at hi; rw [h1 i hi, h2 i hi]; exact hI
  · simp at hi; rw [h1 i hi] at hk; simp [Value.ownBlock] at hk
  · simp at hi; rw [h1 i hi] at hk; simp [Value.ownBlock] at hk
theorem OwnN.empty (w : World) (base : Nat) (eo : TypeId) : OwnN I w base eo (.slice none 0 0) [] [] :=
  ⟨Own.nil _ _ _ _, rfl, fun i hi => by simp at hi, fun i j hi => by simp at hi, fun i hi => by simp at hi⟩

end

/-- A slice of slices that is only read. -/
def Grid {α : Type} [Inhabited α] (f : α → Value) (w : World) (v : Value) (vs : List Value) (ll : List (List α)) : Prop :=
  Lst (fun x : Value => x) w v vs ∧ vs.length = ll.length ∧ ∀ i, i < ll.length → Lst f w (nth vs i) (nth ll i)
theorem Grid.below {α : Type} [Inhabited α] {f : α → Value} {w w' : World} {v : Value} {vs : List Value} {ll : List (List α)} (h : Grid f w v vs ll) (hb : Below w.heap.size w w') : Grid f w' v vs ll :=
  ⟨h.1.below hb, h.2.1, fun i hi => (h.2.2 i hi).below hb⟩
theorem Grid.qt {α : Type} [Inhabited α] {f : α → Value} {w w' : World} {v : Value} {vs : List Value} {ll : List (List α)} (h : Grid f w v vs ll) (hb : Qt w w') : Grid f w' v vs ll := h.below (hb.below _)
theorem OwnN.grid {α : Type} [Inhabited α] {f : α → Value} {w : World} {base : Nat} {eo e : TypeId} {v : Value} {vs : List Value} {ll : List (List α)} (h : OwnN (fun w base v (l : List α) => Own f w base e v l) w base eo v vs ll) : Grid f w v vs ll :=
  ⟨h.out.lst, h.len, fun i hi => (h.inn i hi).lst⟩

end Go.Dfl
