/- Contract of slices.Compact for edges. -/
import Derived.Test.YtchmjgjagaaomaaGrb
import Derived.Test.YtchmjgjagaaomaaSrt
import Derived.Laws.StructEq
import Derived.Lib.SliceRun
import Derived.Shelf.SlicesE.Kit
namespace Go.Gra
open Go.Dfl (nth nth_mem mem_nth nth_eq nth_ext)
def kpB (l : List (Int × Int)) (i : Nat) : Bool := decide (i = 0) || decide (nth l i ≠ nth l (i - 1))
/-- What is kept of the first j. -/
def cpT (l : List (Int × Int)) (j : Nat) : List (Int × Int) := ((List.range j).filter (kpB l)).map (nth l)
theorem cpT_yes {l : List (Int × Int)} {j : Nat} (h : kpB l j = true) : cpT l (j + 1) = cpT l j ++ [nth l j] := by
  unfold cpT; rw [List.range_succ, List.filter_append, List.map_append]; simp [h]
theorem cpT_no {l : List (Int × Int)} {j : Nat} (h : kpB l j = false) : cpT l (j + 1) = cpT l j := by
  unfold cpT; rw [List.range_succ, List.filter_append, List.map_append]; simp [h]
theorem cpT_len (l : List (Int × Int)) (j : Nat) : (cpT l j).length ≤ j := by
  unfold cpT; rw [List.length_map]; exact Nat.le_trans (List.length_filter_le _ _) (by simp)
theorem cpT_all {l : List (Int × Int)} : ∀ {j : Nat}, j ≤ l.length → (∀ i, i < j → kpB l i = true) → cpT l j = l.take j
  | 0, _, _ => by simp [cpT]
  | j + 1, hj, h => by rw [cpT_yes (h j (by omega)), cpT_all (by omega) (fun i hi => h i (by omega)), Go.Dfl.take_snoc _ _ (by omega)]
theorem kpB_zero (l : List (Int × Int)) : kpB l 0 = true := by simp [kpB]
theorem kpB_succ {l : List (Int × Int)} {i : Nat} : kpB l (i + 1) = decide (nth l (i + 1) ≠ nth l i) := by simp [kpB]
theorem cpT_small {l : List (Int × Int)} (h : l.length < 2) : cpT l l.length = l := by
  have h1 : ∀ i, i < l.length → kpB l i = true := fun i hi => by
    obtain rfl : i = 0 := by omega
    exact kpB_zero l
  rw [cpT_all (Nat.le_refl _) h1, List.take_length]
/-- A sorted list without its repetitions. -/
theorem sortOf_cp {l : List (Int × Int)} (h : ∀ i j, i < j → j < l.length → ¬ eLt (nth l j) (nth l i)) : SortOf l (cpT l l.length) := by
  refine ⟨?_, fun e => ?_⟩
  · unfold cpT
    rw [List.pairwise_map]
    have hp : ((List.range l.length).filter (kpB l)).Pairwise (· < ·) := List.pairwise_lt_range.filter _
    refine hp.imp_of_mem fun {a b} ha hb hab => ?_
    obtain ⟨hb1, hb2⟩ := List.mem_filter.1 hb
    rw [List.mem_range] at hb1
    obtain ⟨c, rfl⟩ : ∃ c, b = c + 1 := ⟨b - 1, by omega⟩
    rw [kpB_succ, decide_eq_true_eq] at hb2
    have h1 := h c (c + 1) (by omega) hb1
    have h2 : eLt (nth l c) (nth l (c + 1)) := by
      apply Classical.byContradiction
      intro h3; exact hb2 (eLt_total h1 h3)
    by_cases e : a = c
    · subst e; exact h2
    · have h3 := h a c (by omega) (by omega)
      by_cases h4 : eLt (nth l a) (nth l c)
      · exact eLt_trans h4 h2
      · rw [eLt_total h4 h3]; exact h2
  · unfold cpT
    simp only [List.mem_map, List.mem_filter, List.mem_range]
    constructor
    · rintro ⟨i, ⟨hi, -⟩, rfl⟩; exact nth_mem _ _ hi
    · intro he
      obtain ⟨i, hi, rfl⟩ := mem_nth he
      induction i with
      | zero => exact ⟨0, ⟨hi, kpB_zero l⟩, rfl⟩
      | succ i ih =>
        by_cases hk : kpB l (i + 1) = true
        · exact ⟨i + 1, ⟨hi, hk⟩, rfl⟩
        · have h1 : nth l (i + 1) = nth l i := by
            rw [kpB_succ] at hk; simpa using hk
          obtain ⟨j, hj, e⟩ := ih (by omega) (nth_mem _ _ (by omega))
          exact ⟨j, hj, by rw [h1]; exact e⟩
/-- The row while it is compacted. -/
structure CI (l : List (Int × Int)) (j kk : Nat) (r : List (Int × Int)) : Prop where
  len : r.length = l.length
  pre : r.take kk = cpT l j
  kl : kk = (cpT l j).length
  lt : kk + 1 ≤ j
  rest : ∀ i, j ≤ i + 1 → i < l.length → nth r i = nth l i
theorem CI.start {l : List (Int × Int)} {k : Nat} (hk : k < l.length) (h : ∀ i, i < k → kpB l i = true) (h0 : kpB l k = false) : CI l (k + 1) k l := by
  have e : cpT l (k + 1) = l.take k := by rw [cpT_no h0, cpT_all (by omega) h]
  exact ⟨rfl, e.symm, by rw [e, List.length_take]; omega, by omega, fun _ _ _ => rfl⟩
theorem CI.skip {l r : List (Int × Int)} {j kk : Nat} (h : CI l j kk r) (h0 : kpB l j = false) : CI l (j + 1) kk r :=
  ⟨h.len, by rw [cpT_no h0]; exact h.pre, by rw [cpT_no h0]; exact h.kl, by have := h.lt; omega, fun i hi hl => h.rest i (by omega) hl⟩
theorem CI.keep {l r : List (Int × Int)} {j kk : Nat} (h : CI l j kk r) (h0 : kpB l j = true) (hj : j < l.length) : CI l (j + 1) (kk + 1) (r.set kk (nth l j)) := by
  have hlt := h.lt
  have hkr : kk < r.length := by rw [h.len]; omega
  refine ⟨by rw [List.length_set]; exact h.len, ?_, by rw [cpT_yes h0, List.length_append, ← h.kl]; rfl, by omega, fun i hi hl => ?_⟩
  · rw [cpT_yes h0, ← h.pre, Go.Dfl.take_snoc _ _ (by rw [List.length_set]; exact hkr), Go.Dfl.nth_set, if_pos ⟨rfl, hkr⟩, List.take_set_of_le (Nat.le_refl _)]
  · rw [Go.Dfl.nth_set, if_neg (by omega)]; exact h.rest i (by omega) hl
theorem CI.get {l r : List (Int × Int)} {j kk : Nat} (h : CI l j kk r) {i : Nat} (hi : i < kk) : nth (cpT l j) i = nth r i := by
  rw [← h.pre]
  simp [Go.Dfl.nth, hi]
end Go.Gra
namespace Go.Dfl
open Go.RowKit
/-- The block of a row. -/
def RawE {α : Type} (E : El α) (w : World) (base g cap : Nat) (e : TypeId) : Prop := ∃ cur, base ≤ g ∧ w.heap[g]? = some (.cells cur e (0, 0)) ∧ cap ≤ maxLen ∧ cur.size = cap * E.sz
section
variable {α : Type} {E : El α} {w : World} {base g cap n : Nat} {e : TypeId} {l : List α}
theorem OwnE.raw (h : OwnE E w base e (.slice (some ⟨g, 0, none⟩) n cap) l) : RawE E w base g cap e ∧ n ≤ cap := by
  obtain ⟨h1, ⟨h2, -⟩ | ⟨g2, cap2, cur, hv, hg, hh, hc, hm, hs, ht⟩⟩ := h
  · simp at h2
  · simp only [Value.slice.injEq, Option.some.injEq, Addr.mk.injEq] at hv
    obtain ⟨⟨rfl, -⟩, rfl, rfl⟩ := hv
    exact ⟨⟨cur, hg, hh, hm, hs⟩, hc⟩
theorem RawE.frozen (h : RawE E w base g cap e) (j : Nat) : w.frozen? ⟨g, j, none⟩ = false := by
  obtain ⟨cur, -, hh, -⟩ := h
  simp [World.frozen?, hh]
theorem RawE.setCell (h : RawE E w base g cap e) (p : Addr) (v : Value) (hp : p.spot = none) : RawE E (w.setCell p v) base g cap e := by
  obtain ⟨cur, hg, hh, hm, hs⟩ := h
  obtain ⟨pb, po, ps⟩ := p
  obtain rfl : ps = none := hp
  by_cases he : pb = g
  · subst he
    refine ⟨cur.setIfInBounds po v, hg, ?_, hm, by simpa using hs⟩
    rw [Go.Sort.setCell_eq]
    show (w.heap.modify pb (Go.Sort.onCells (·.setIfInBounds po v)))[pb]? = _
    rw [Array.getElem?_modify, if_pos rfl, hh]; rfl
  · refine ⟨cur, hg, ?_, hm, hs⟩
    rw [(grownBy_setCell w ⟨pb, po, none⟩ v).block g (Array.getElem?_eq_some_iff.1 hh).1 (fun e2 => he (Option.some.inj e2).symm)]
    exact hh
theorem RawE.drewN (h : RawE E w base g cap e) (k : Nat) : RawE E (w.drewN k) base g cap e := h
theorem RawE.isSome (h : RawE E w base g cap e) {j : Nat} (hj : j < cap * E.sz) : (w.cell? ⟨g, j, none⟩).isSome = true := by
  obtain ⟨cur, -, hh, -, hs⟩ := h
  simp [World.cell?, hh, hs, hj]
theorem OwnE.ofCells [Inhabited α] (h : RawE E w base g cap e) (hc : n ≤ cap) (hn : l.length = n) (hcell : ∀ i, i < n → ∀ j, j < E.sz → w.cell? ⟨g, i * E.sz + j, none⟩ = (E.c (nth l i))[j]?) : OwnE E w base e (.slice (some ⟨g, 0, none⟩) n cap) l := by
  subst hn
  obtain ⟨cur, hg, hh, hm, hs⟩ := h
  refine ⟨by rw [flat_len], .inr ⟨g, cap, cur, rfl, hg, hh, hc, hm, hs, ?_⟩⟩
  have hsz : l.length * E.sz ≤ cur.size := by rw [hs]; exact Nat.mul_le_mul_right _ hc
  refine List.ext_getElem? fun t => ?_
  by_cases htl : t < l.length * E.sz
  · have hi : t / E.sz < l.length := Nat.div_lt_of_lt_mul (by rw [Nat.mul_comm]; exact htl)
    have hr : t % E.sz < E.sz := Nat.mod_lt _ E.pos
    have htm : t / E.sz * E.sz + t % E.sz = t := by rw [Nat.mul_comm]; exact Nat.div_add_mod t E.sz
    have hR := flat_get E l (t / E.sz) (t % E.sz) hi hr
    have hC := hcell _ hi _ hr
    rw [htm] at hR hC
    rw [hR, ← hC, List.getElem?_take, if_pos htl]
    simp [World.cell?, hh]
  · rw [List.getElem?_take, if_neg htl, List.getElem?_eq_none (by rw [flat_len]; omega)]
end
end Go.Dfl
namespace Go.Proofs.Ytchmjgjagaaomaa
open Go.RowKit Go.Dfl Go.Gra

def elE : El (Int × Int) := ⟨2, fun e => [.int .i64 e.1, .int .i64 e.2], fun _ => rfl, fun x v hv => by simp at hv; rcases hv with rfl | rfl <;> rfl, by omega⟩
/-- A row of edges, cell by cell. -/
def RowC (w : World) (g : Nat) (r : List (Int × Int)) : Prop := ∀ i, i < r.length → w.cell? ⟨g, i * 2, none⟩ = some (.int .i64 (nth r i).1) ∧ w.cell? ⟨g, i * 2 + 1, none⟩ = some (.int .i64 (nth r i).2)
theorem OwnE.rowC {w : World} {base g cap n : Nat} {e : TypeId} {l : List (Int × Int)} (h : OwnE elE w base e (.slice (some ⟨g, 0, none⟩) n cap) l) (hn : l.length = n) : RowC w g l := by
  subst hn
  intro i hi
  obtain ⟨a, c, he, -, -, h3⟩ := Go.Dfl.OwnE.sliced h
  simp only [Value.slice.injEq] at he
  obtain ⟨rfl, -, rfl⟩ := he
  obtain ⟨-, -, h4⟩ := h3 i hi
  have h5 := h4 0 (by decide)
  have h6 := h4 1 (by decide)
  have e1 : blk (some (⟨g, 0, none⟩ : Addr)) = g := rfl
  have e2 : ofs (some (⟨g, 0, none⟩ : Addr)) = 0 := rfl
  rw [e1, e2, Nat.zero_add] at h5 h6
  exact ⟨h5, h6⟩
theorem RowC.own {w : World} {base g cap n : Nat} {e : TypeId} {l : List (Int × Int)} (h : RowC w g l) (hr : RawE elE w base g cap e) (hc : n ≤ cap) (hn : l.length = n) : OwnE elE w base e (.slice (some ⟨g, 0, none⟩) n cap) l :=
  OwnE.ofCells hr hc hn fun i hi j hj => by
    have hj' : j < 2 := hj
    obtain ⟨h1, h2⟩ := h i (by omega)
    rcases (by omega : j = 0 ∨ j = 1) with rfl | rfl
    · exact h1
    · exact h2
theorem RowC.set {w : World} {g : Nat} {r : List (Int × Int)} (h : RowC w g r) {i : Nat} (hi : i < r.length) (x y : Int) : RowC ((w.setCell ⟨g, i * 2, none⟩ (.int .i64 x)).setCell ⟨g, i * 2 + 1, none⟩ (.int .i64 y)) g (r.set i (x, y)) := by
  intro j hj
  rw [List.length_set] at hj
  obtain ⟨h1, h2⟩ := h j hj
  obtain ⟨h3, h4⟩ := h i hi
  rw [nth_set]
  by_cases e : i = j
  · subst e
    rw [if_pos ⟨rfl, hi⟩]
    constructor
    · rw [World.cell?_setCell_other _ _ _ _ (by intro e; simp at e)]
      exact World.cell?_setCell_same w _ _ h3
    · exact World.cell?_setCell_same _ _ _ (by rw [World.cell?_setCell_other _ _ _ _ (by intro e; simp at e)]; exact h4)
  · rw [if_neg (fun h => e h.1)]
    constructor
    · rw [World.cell?_setCell_other _ _ _ _ (by intro e2; have := congrArg Addr.off e2; dsimp only at this; omega), World.cell?_setCell_other _ _ _ _ (by intro e2; have := congrArg Addr.off e2; dsimp only at this; omega)]; exact h1
    · rw [World.cell?_setCell_other _ _ _ _ (by intro e2; have := congrArg Addr.off e2; dsimp only at this; omega), World.cell?_setCell_other _ _ _ _ (by intro e2; have := congrArg Addr.off e2; dsimp only at this; omega)]; exact h2
theorem edge_eql (x y : Int × Int) (w : World) : (binOp .eql 35 (ev x) (ev y)).run Try.prog w = .ok (.bool (decide (x = y))) w := by
  have u3 := Try.underlying3
  have a3 := Try.isAgg3
  have z3 := Try.sizeOf3
  have hS : Try.prog.underlying 35 = some (.struct (Try.prog.fieldsOf 35)) := by kernel_rfl
  have hp : Try.prog.stoodInHeld 35 = false := by kernel_rfl
  rw [run_eql_struct, show (10000 : Nat) = 9999 + 1 from rfl, run_equalIn_agg w 9999 35 _ _ hS hp]
  simp only [Program.fieldsOf, Try.underlying35]
  go_simp
  obtain ⟨x1, x2⟩ := x
  obtain ⟨y1, y2⟩ := y
  by_cases h1 : x1 = y1 <;> by_cases h2 : x2 = y2 <;> simp [h1, h2]
theorem edge_neq (x y : Int × Int) (w : World) : (binOp .neq 35 (ev x) (ev y)).run Try.prog w = .ok (.bool (decide (x ≠ y))) w := by
  have u3 := Try.underlying3
  have a3 := Try.isAgg3
  have z3 := Try.sizeOf3
  have hS : Try.prog.underlying 35 = some (.struct (Try.prog.fieldsOf 35)) := by kernel_rfl
  have hp : Try.prog.stoodInHeld 35 = false := by kernel_rfl
  rw [run_neq_struct, show (10000 : Nat) = 9999 + 1 from rfl, run_equalIn_agg w 9999 35 _ _ hS hp]
  simp only [Program.fieldsOf, Try.underlying35]
  go_simp
  obtain ⟨x1, x2⟩ := x
  obtain ⟨y1, y2⟩ := y
  by_cases h1 : x1 = y1 <;> by_cases h2 : x2 = y2 <;> simp [h1, h2]
def CompR (base g cap : Nat) (l : List (Int × Int)) (W : World) (e : Ending) (W' : World) : Prop := ∃ k, e = .returned (.slice (some ⟨g, 0, none⟩) k cap) ∧ k = (cpT l l.length).length ∧ OwnE elE W' base 35 (.slice (some ⟨g, 0, none⟩) k cap) (cpT l l.length) ∧ W.grownBy W' (some g)
theorem _root_.Go.World.grownBy.drewN' {w w' : World} {row : Option Nat} (h : w.grownBy w' row) (n : Nat) : w.grownBy (w'.drewN n) row := grownBy_drewN h n
theorem own_wide {E : El (Int × Int)} {w w' : World} {base : Nat} {e : TypeId} {v : Value} {l : List (Int × Int)} (h : OwnE E w base e v l) (hg : w.grownBy w' none) : OwnE E w' base e v l := OwnE.grown h hg (by cases v.ownBlock <;> simp)
theorem setCells_kept {E : El (Int × Int)} {base g cap : Nat} {e : TypeId} (k : Nat) (r : List (Int × Int)) : ∀ (vs : List Value) (o : Nat) (w : World), k * 2 ≤ o → RawE E w base g cap e → (∀ i, i < k → w.cell? ⟨g, i * 2, none⟩ = some (.int .i64 (nth r i).1) ∧ w.cell? ⟨g, i * 2 + 1, none⟩ = some (.int .i64 (nth r i).2)) →
    RawE E (w.setCells g o vs) base g cap e ∧ (∀ i, i < k → (w.setCells g o vs).cell? ⟨g, i * 2, none⟩ = some (.int .i64 (nth r i).1) ∧ (w.setCells g o vs).cell? ⟨g, i * 2 + 1, none⟩ = some (.int .i64 (nth r i).2)) ∧ w.grownBy (w.setCells g o vs) (some g)
  | [], o, w, _, hr, hc => ⟨hr, hc, grownBy_refl _ _⟩
  | v :: vs, o, w, ho, hr, hc => by
    obtain ⟨h1, h2, h3⟩ := setCells_kept k r vs (o + 1) (w.setCell ⟨g, o, none⟩ v) (by omega) (hr.setCell _ _ rfl) (fun i hi => by
      obtain ⟨h1, h2⟩ := hc i hi
      constructor
      · rw [World.cell?_setCell_other _ _ _ _ (by intro e2; have := congrArg Addr.off e2; dsimp only at this; omega)]; exact h1
      · rw [World.cell?_setCell_other _ _ _ _ (by intro e2; have := congrArg Addr.off e2; dsimp only at this; omega)]; exact h2)
    exact ⟨h1, h2, grownBy_trans (grownBy_setCell w ⟨g, o, none⟩ v) h3⟩
theorem clear_edges {w : World} {base g cap kk n : Nat} (hr : RawE elE w base g cap 35) (hn : 0 < n) (hk : kk + n ≤ cap) (c : Nat) (ty : TypeId) :
    (Builtin.clear_ #[22] ty #[.slice (some ⟨g, kk * 2, none⟩) n c]).run Try.prog w = .ok (.tuple #[]) (w.setCells g (kk * 2) (Builtin.zeroCells #[.int .i64 0, .int .i64 0] n).toList) := by
  have hz : ∀ v ∈ (Builtin.zeroCells #[.int .i64 0, .int .i64 0] n).toList, v = .int .i64 0 := fun v hv => by
    unfold Builtin.zeroCells at hv
    simp only [Array.toList_map, List.mem_map] at hv
    obtain ⟨i, -, rfl⟩ := hv
    have : i % 2 = 0 ∨ i % 2 = 1 := by omega
    rcases this with h | h <;> simp [h]
  have hlen : (Builtin.zeroCells #[.int .i64 0, .int .i64 0] n).toList.length = n * 2 := by simp [Builtin.zeroCells]
  have hst := run_storeCells_cells (P := Try.prog) g (kk * 2) (Builtin.zeroCells #[.int .i64 0, .int .i64 0] n).toList 0 w (fun j hj => hr.isSome (by rw [hlen] at hj; show kk * 2 + 0 + j < cap * 2; omega)) (fun j _ => hr.frozen _) (fun v hv => by rw [hz v hv]; rfl)
  simp only [Nat.add_zero] at hst
  obtain ⟨m, rfl⟩ : ∃ m, n = m + 1 := ⟨n - 1, by omega⟩
  have hv := Try.zeroValue35
  simp [Builtin.clear_, run_underlying Try.underlying22, hv, Value.cells, hst]
set_option maxHeartbeats 3200000 in
set_option maxRecDepth 100000 in
theorem compact_any (base g cap : Nat) (l : List (Int × Int)) (W : World) (h : OwnE elE W base 35 (.slice (some ⟨g, 0, none⟩) l.length cap) l) (hl : l.length ≤ 1000000) :
    Calls Try.prog 51 #[.slice (some ⟨g, 0, none⟩) l.length cap] W (CompR base g cap l W) := by
  obtain ⟨hraw, hcap⟩ := h.raw
  have hrow := OwnE.rowC h rfl
  have hgd : ∀ (op : BinOp) (a b : Operand) (x y : Int × Int) (w : World), (eqGuard op 35 a b (ev x) (ev y)).run Try.prog w = .ok () w := GuardAt.agg (P := Try.prog) (T := 35) (fun x : Int × Int => #[.int .i64 x.1, .int .i64 x.2]) (by kernel_rfl)
  have HG := Lib.hid hgd
  have H := Lib.hid (And.intro h (And.intro hraw hrow))
  clear h hraw hrow hgd
  by_cases h2 : l.length < 2
  · have hd : decide ((l.length : Int) < 2) = true := by simp; omega
    have HS := Lib.hid (cpT_small h2)
    clear h2
    go_enter Try.func51, Try.ntmps51
    go_wp2_with fail
    go_ret
    exact ⟨l.length, rfl, by rw [HS.out], by rw [HS.out]; exact H.out.1, grownBy_refl _ _⟩
  have hd : decide ((l.length : Int) < 2) = false := by simp; omega
  go_enter Try.func51, Try.ntmps51
  go_wp2_with fail
  have h2' : 2 ≤ l.length := by omega
  clear h2 hd
  go_loopw [3, 4, 5] (fun x _ _ wr => ∃ k : Nat, 1 ≤ k ∧ k ≤ l.length ∧ x = .int .i64 k ∧ Qt W wr ∧ Hid (∀ i, i < k → kpB l i = true)) (fun x _ _ _ => l.length - (intOf x).toNat)
  case atStart => exact ⟨1, by omega, by omega, rfl, Qt.refl _, fun i hi => by
    obtain rfl : i = 0 := by omega
    exact kpB_zero l⟩
  case round =>
    obtain ⟨k, hk1, hk, rfl, ⟨n0, rfl⟩, hall⟩ := hrel
    by_cases hlt : k < l.length
    · obtain ⟨m, rfl⟩ : ∃ m, k = m + 1 := ⟨k - 1, by omega⟩
      obtain ⟨c1, c2⟩ := H.out.2.2 (m + 1) hlt
      obtain ⟨c3, c4⟩ := H.out.2.2 m (by omega)
      obtain ⟨x, hx⟩ : ∃ x, x = nth l (m + 1) := ⟨_, rfl⟩
      obtain ⟨y, hy⟩ : ∃ y, y = nth l m := ⟨_, rfl⟩
      rw [← hx] at c1 c2
      rw [← hy] at c3 c4
      have HXY := Lib.hid (And.intro hx hy)
      clear hx hy
      obtain ⟨x1, x2⟩ := x
      obtain ⟨y1, y2⟩ := y
      dsimp only at c1 c2 c3 c4
      rw [show ((m + 1 : Nat) : Int) = (m : Int) + 1 by omega]
      have hw : IntKind.i64.wrap (m : Int) = m := IntWalk.i64_in _ (by omega)
      have hm1 : (m : Int) < (l.length : Int) := by omega
      have hm2 : (m : Int) + 1 < (l.length : Int) := by omega
      have hm3 : (0 : Int) ≤ (m : Int) := by omega
      have hm4 : (0 : Int) ≤ (m : Int) + 1 := by omega
      have hm5 : ((m : Int) + 1).toNat = m + 1 := by omega
      have hg1 := HG.out .eql (.tmp 19) (.tmp 24) (x1, x2) (y1, y2)
      by_cases hxy : (x1, x2) = (y1, y2)
      · have he : ∀ w, (binOp .eql 35 (.agg #[.int .i64 x1, .int .i64 x2]) (.agg #[.int .i64 y1, .int .i64 y2])).run Try.prog w = .ok (.bool true) w := fun w => by rw [edge_eql (x1, x2) (y1, y2) w, hxy]; simp
        have HK : Hid (kpB l (m + 1) = false) := Lib.hid (by rw [kpB_succ, ← HXY.out.1, ← HXY.out.2, hxy]; simp)
        clear hxy
        go_wp2_with fail
        go_quiet (fail)
        go_wp2_with fail
        obtain ⟨n2, hn2⟩ : ∃ n, n = l.length - (m + 1) := ⟨_, rfl⟩
        obtain ⟨o2, ho2⟩ : ∃ n, n = (m + 1) * 2 := ⟨_, rfl⟩
        obtain ⟨d2, hd2⟩ : ∃ n, n = cap - (m + 1) := ⟨_, rfl⟩
        rw [← hn2, ← ho2, ← hd2]
        have HN := Lib.hid (And.intro hn2 (And.intro ho2 hd2))
        have HLT := Lib.hid hlt
        clear hn2 ho2 hd2 c1 c2 c3 c4 he hg1 hw hm1 hm2 hm3 hm4 hm5 hk1 hk hlt
        have hn2p : n2 ≤ d2 := by have h1 := HN.out; omega
        have hn2l : n2 ≤ 1000000 := by have h1 := HN.out; omega
        have hst := And.intro (CI.start HLT.out hall.out HK.out) (And.intro H.out.2.1 (And.intro H.out.2.2 (grownBy_refl W (some g))))
        have HST := Lib.hid hst
        clear hst
        have hq2 : ∀ {Z : World}, Qt W Z → RawE elE Z base g cap 35 ∧ RowC Z g l ∧ W.grownBy Z (some g) := fun {Z} hz => by
          obtain ⟨n9, rfl⟩ := hz
          exact ⟨HST.out.2.1, HST.out.2.2.1, ⟨rfl, rfl, rfl, Nat.le_refl _, fun _ _ _ => rfl⟩⟩
        have HQ2 := Lib.hid (fun Z => @hq2 Z)
        clear hq2
        go_loopw [3, 5] (fun x y wr => ∃ (kk k2 : Nat) (r : List (Int × Int)), 1 ≤ k2 ∧ k2 ≤ n2 ∧ x = .int .i64 kk ∧ y = .int .i64 k2 ∧ Hid (CI l (m + 1 + k2) kk r ∧ RawE elE wr base g cap 35 ∧ RowC wr g r ∧ W.grownBy wr (some g))) (fun _ y _ => n2 - (intOf y).toNat)
        case atStart => exact ⟨m + 1, 1, l, by omega, by have h1 := HN.out; have h2 := HLT.out; omega, by go_num, rfl, HST.out.1, HQ2.out _ (by first | exact Qt.refl _ | exact Qt.drewN _ _ | exact (Qt.drewN _ _).trans (Qt.drewN _ _) | exact ((Qt.drewN _ _).trans (Qt.drewN _ _)).trans (Qt.drewN _ _) | exact Qt.drew _ | exact (Qt.drewN _ _).trans (Qt.drew _))⟩
        case round =>
          clear HST
          obtain ⟨kk, k2, r, hk21, hk2, rfl, rfl, hh⟩ := hrel
          have hkl := hh.out.1.lt
          have hrl := hh.out.1.len
          have hnl : l.length = m + 1 + n2 := by have h1 := HN.out; have h2 := HLT.out; omega
          by_cases hlt2 : k2 < n2
          · obtain ⟨p, rfl⟩ : ∃ p, k2 = p + 1 := ⟨k2 - 1, by omega⟩
            obtain ⟨c1, c2⟩ := hh.out.2.2.1 (m + 1 + (p + 1)) (by omega)
            obtain ⟨c3, c4⟩ := hh.out.2.2.1 (m + 1 + p) (by omega)
            obtain ⟨w1, w2⟩ := hh.out.2.2.1 kk (by omega)
            have f1 := hh.out.2.1.frozen (kk * 2)
            have f2 := hh.out.2.1.frozen (kk * 2 + 1)
            rw [hh.out.1.rest _ (by omega) (by omega)] at c1 c2
            rw [hh.out.1.rest _ (by omega) (by omega)] at c3 c4
            rw [show (m + 1 + (p + 1)) * 2 = o2 + (p + 1) * 2 by rw [HN.out.2.1]; omega] at c1 c2
            rw [show (m + 1 + p) * 2 = o2 + p * 2 by rw [HN.out.2.1]; omega] at c3 c4
            obtain ⟨x, hx⟩ : ∃ x, x = nth l (m + 1 + (p + 1)) := ⟨_, rfl⟩
            obtain ⟨y, hy⟩ : ∃ y, y = nth l (m + 1 + p) := ⟨_, rfl⟩
            obtain ⟨z, hz⟩ : ∃ z, z = nth r kk := ⟨_, rfl⟩
            rw [← hx] at c1 c2
            rw [← hy] at c3 c4
            rw [← hz] at w1 w2
            have HXY2 := Lib.hid (And.intro hx hy)
            have HKL := Lib.hid (And.intro hkl (And.intro hrl hnl))
            clear hx hy hz hkl hrl hnl
            obtain ⟨x1, x2⟩ := x
            obtain ⟨y1, y2⟩ := y
            dsimp only at c1 c2 c3 c4
            rw [show ((p + 1 : Nat) : Int) = (p : Int) + 1 by omega]
            have hw : IntKind.i64.wrap (p : Int) = p := IntWalk.i64_in _ (by omega)
            have hm1 : (p : Int) < (n2 : Int) := by omega
            have hm2 : (p : Int) + 1 < (n2 : Int) := by omega
            have hm3 : (0 : Int) ≤ (p : Int) := by omega
            have hm4 : (0 : Int) ≤ (p : Int) + 1 := by omega
            have hm5 : ((p : Int) + 1).toNat = p + 1 := by omega
            have hk9 : (kk : Int) < (l.length : Int) := by have h1 := HKL.out; omega
            have hg1 := HG.out .neq (.tmp 38) (.tmp 43) (x1, x2) (y1, y2)
            by_cases hxy : (x1, x2) = (y1, y2)
            · have he : ∀ w, (binOp .neq 35 (.agg #[.int .i64 x1, .int .i64 x2]) (.agg #[.int .i64 y1, .int .i64 y2])).run Try.prog w = .ok (.bool false) w := fun w => by rw [edge_neq (x1, x2) (y1, y2) w, hxy]; simp
              have HK2 : Hid (kpB l (m + 1 + (p + 1)) = false) := Lib.hid (by rw [show m + 1 + (p + 1) = m + 1 + p + 1 by omega, kpB_succ, show m + 1 + p + 1 = m + 1 + (p + 1) by omega, ← HXY2.out.1, ← HXY2.out.2, hxy]; simp)
              clear hxy
              go_wp2_with fail
              go_quiet (fail)
              go_wp2_with fail
              go_roundw
              case rel => exact ⟨kk, p + 2, r, by omega, by omega, rfl, by go_num, hh.out.1.skip HK2.out, hh.out.2.1, hh.out.2.2.1, hh.out.2.2.2.drewN' _⟩
              case measure => simp [intOf]; omega
            · have he : ∀ w, (binOp .neq 35 (.agg #[.int .i64 x1, .int .i64 x2]) (.agg #[.int .i64 y1, .int .i64 y2])).run Try.prog w = .ok (.bool true) w := fun w => by rw [edge_neq (x1, x2) (y1, y2) w, decide_eq_true hxy]
              have HK2 : Hid (kpB l (m + 1 + (p + 1)) = true) := Lib.hid (by rw [show m + 1 + (p + 1) = m + 1 + p + 1 by omega, kpB_succ, show m + 1 + p + 1 = m + 1 + (p + 1) by omega, ← HXY2.out.1, ← HXY2.out.2, decide_eq_true_eq]; exact hxy)
              clear hxy
              go_wp2_with fail
              go_quiet (fail)
              go_wp2_with fail
              go_roundw
              case rel =>
                have h1 := HKL.out
                exact ⟨kk + 1, p + 2, r.set kk (x1, x2), by omega, by omega, by go_num, by go_num, by rw [HXY2.out.1]; exact hh.out.1.keep HK2.out (by omega), ((hh.out.2.1.drewN _).setCell _ _ rfl).setCell _ _ rfl, RowC.set (w := wr.drewN _) hh.out.2.2.1 (by omega) x1 x2, grownBy_trans (grownBy_trans (hh.out.2.2.2.drewN' _) (grownBy_setCell _ ⟨g, kk * 2, none⟩ _)) (grownBy_setCell _ ⟨g, kk * 2 + 1, none⟩ _)⟩
              case measure => simp [intOf]; omega
          · obtain rfl : k2 = n2 := by omega
            have hkl2 : kk < l.length := by omega
            have hcl : ∀ ty c, (Builtin.clear_ #[22] ty #[.slice (some ⟨g, kk * 2, none⟩) (l.length - kk) c]).run Try.prog wr = .ok (.tuple #[]) (wr.setCells g (kk * 2) (Builtin.zeroCells #[.int .i64 0, .int .i64 0] (l.length - kk)).toList) := fun ty c => clear_edges hh.out.2.1 (by omega) (by omega) c ty
            have HF := Lib.hid (And.intro hkl2 hnl)
            clear hkl hrl hnl
            go_wp2_with fail
            go_ret
            obtain ⟨h1, h2, h3⟩ := setCells_kept kk r (Builtin.zeroCells #[.int .i64 0, .int .i64 0] (l.length - kk)).toList (kk * 2) wr (Nat.le_refl _) hh.out.2.1 (fun i hi => hh.out.2.2.1 i (by have := hh.out.1.len; have := HF.out; omega))
            have hci := hh.out.1
            rw [← HF.out.2] at hci
            refine ⟨kk, rfl, hci.kl, RowC.own (fun i hi => ?_) h1 (by have := HF.out; omega) hci.kl.symm, grownBy_trans hh.out.2.2.2 h3⟩
            rw [← hci.kl] at hi
            rw [hci.get hi]
            exact h2 i hi
      · have he : ∀ w, (binOp .eql 35 (.agg #[.int .i64 x1, .int .i64 x2]) (.agg #[.int .i64 y1, .int .i64 y2])).run Try.prog w = .ok (.bool false) w := fun w => by rw [edge_eql (x1, x2) (y1, y2) w]; simp only [hxy]; rfl
        have HK : Hid (kpB l (m + 1) = true) := Lib.hid (by rw [kpB_succ, ← HXY.out.1, ← HXY.out.2, decide_eq_true_eq]; exact hxy)
        clear hxy
        go_wp2_with fail
        go_quiet (fail)
        go_wp2_with fail
        go_roundw
        case rel => exact ⟨m + 2, by omega, by omega, by go_num, (by first | exact Qt.refl _ | exact Qt.drewN _ _ | exact (Qt.drewN _ _).trans (Qt.drewN _ _) | exact ((Qt.drewN _ _).trans (Qt.drewN _ _)).trans (Qt.drewN _ _) | exact Qt.drew _ | exact (Qt.drewN _ _).trans (Qt.drew _)), fun i hi => by
          by_cases e : i = m + 1
          · subst e; exact HK.out
          · exact hall.out i (by omega)⟩
        case measure => simp [intOf]; omega
    · obtain rfl : k = l.length := by omega
      have HL : Hid (cpT l l.length = l) := Lib.hid (by rw [cpT_all (Nat.le_refl _) hall.out, List.take_length])
      go_wp2_with fail
      go_ret
      exact ⟨l.length, rfl, by rw [HL.out], by rw [HL.out]; exact own_wide H.out.1 (grownBy_qt (by first | exact Qt.refl _ | exact Qt.drewN _ _ | exact (Qt.drewN _ _).trans (Qt.drewN _ _) | exact ((Qt.drewN _ _).trans (Qt.drewN _ _)).trans (Qt.drewN _ _) | exact Qt.drew _ | exact (Qt.drewN _ _).trans (Qt.drew _))), grownBy_widen (grownBy_qt (by first | exact Qt.refl _ | exact Qt.drewN _ _ | exact (Qt.drewN _ _).trans (Qt.drewN _ _) | exact ((Qt.drewN _ _).trans (Qt.drewN _ _)).trans (Qt.drewN _ _) | exact Qt.drew _ | exact (Qt.drewN _ _).trans (Qt.drew _)))⟩
end Go.Proofs.Ytchmjgjagaaomaa
