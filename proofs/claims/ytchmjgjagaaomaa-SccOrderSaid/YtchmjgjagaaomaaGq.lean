/- The successors of a node as an iterator: plain facts and its contract. -/
import Derived.Test.YtchmjgjagaaomaaGrm
import Derived.RangeFuncNested
import Derived.RangeFuncWrites
import Derived.RangeFuncBound
import Derived.RangeFuncCalls
import Derived.RangeFuncLeaves
import Derived.Shelf.Abstract
import Derived.Shelf.RegionOpen
import Derived.OwnWalkIn
import Derived.TacticsInMore
import Derived.LoopNIn
import Derived.LoopIn
import Derived.Test.YtchmjgjagaaomaaGrc
namespace Go.Gra
open Go.Dfl (nth nth_mem mem_nth nth_eq nth_ext)
/-- The successors of a node, ascending. -/
def suc (es : List (Int × Int)) (v : Nat) : List Nat := (es.filter fun e => decide (e.1 = (v : Int))).map fun e => e.2.toNat
/-- The ends of the edges from place a on, n of them. -/
def segL (es : List (Int × Int)) (a n : Nat) : List Nat := (List.range n).map fun k => (nth es (a + k)).2.toNat
theorem segL_succ (es : List (Int × Int)) (a n : Nat) : segL es a (n + 1) = segL es a n ++ [(nth es (a + n)).2.toNat] := by simp [segL, List.range_succ]
theorem filter_range {α : Type} [Inhabited α] (l : List α) (p : α → Bool) : ∀ n, n ≤ l.length → (l.take n).filter p = ((List.range n).filter fun i => p (nth l i)).map (nth l)
  | 0, _ => by simp
  | n + 1, h => by
    rw [Go.Dfl.take_snoc _ _ h, List.filter_append, filter_range l p n (by omega), List.range_succ, List.filter_append, List.map_append]
    congr 1
    by_cases hp : p (nth l n) = true <;> simp [hp]
theorem filter_range' {α : Type} [Inhabited α] (l : List α) (p : α → Bool) : l.filter p = ((List.range l.length).filter fun i => p (nth l i)).map (nth l) := by
  have := filter_range l p l.length (Nat.le_refl _)
  rwa [List.take_length] at this
theorem range_seg (q : Nat → Bool) (a n : Nat) (h1 : ∀ i, i < a → q i = false) (h2 : ∀ i, i < n → q (a + i) = true) : ∀ m, (∀ i, a + n ≤ i → i < a + n + m → q i = false) → (List.range (a + n + m)).filter q = (List.range n).map (fun i => a + i)
  | 0, _ => by
    rw [Nat.add_zero]
    induction n with
    | zero =>
      rw [Nat.add_zero, List.filter_eq_nil_iff.2 (fun i hi => by rw [h1 i (List.mem_range.1 hi)]; simp)]; rfl
    | succ n ih =>
      rw [← Nat.add_assoc, List.range_succ, List.filter_append, ih (fun i hi => h2 i (by omega)) (fun i hi hl => by omega), List.range_succ, List.map_append]
      simp [h2 n (by omega)]
  | m + 1, h3 => by
    rw [← Nat.add_assoc, List.range_succ, List.filter_append, range_seg q a n h1 h2 m (fun i hi hl => h3 i hi (by omega))]
    simp [h3 (a + n + m) (by omega) (by omega)]
theorem suc_seg {es : List (Int × Int)} {v a n : Nat} (hl : a + n ≤ es.length) (h1 : ∀ i, i < a → (nth es i).1 ≠ (v : Int)) (h2 : ∀ i, i < n → (nth es (a + i)).1 = (v : Int)) (h3 : ∀ i, a + n ≤ i → i < es.length → (nth es i).1 ≠ (v : Int)) : suc es v = segL es a n := by
  unfold suc segL
  rw [filter_range', List.map_map]
  have h := range_seg (fun i => decide ((nth es i).1 = (v : Int))) a n (fun i hi => by simpa using h1 i hi) (fun i hi => by simpa using h2 i hi) (es.length - (a + n)) (fun i hi hl2 => by simpa using h3 i hi (by omega))
  rw [show a + n + (es.length - (a + n)) = es.length by omega] at h
  rw [h, List.map_map]
  rfl
theorem mem_suc {es : List (Int × Int)} {v x : Nat} : x ∈ suc es v ↔ ∃ e ∈ es, e.1 = (v : Int) ∧ e.2.toNat = x := by
  unfold suc; simp [List.mem_map, List.mem_filter, and_assoc]
theorem suc_len (es : List (Int × Int)) (v : Nat) : (suc es v).length ≤ es.length := by unfold suc; rw [List.length_map]; exact List.length_filter_le _ _
theorem VG.nth {g : G} (h : VG g) {i : Nat} (hi : i < g.es.length) : (0 ≤ (Go.Dfl.nth g.es i).1 ∧ (Go.Dfl.nth g.es i).1 < g.n) ∧ 0 ≤ (Go.Dfl.nth g.es i).2 ∧ (Go.Dfl.nth g.es i).2 < g.n := h.inn _ (nth_mem _ _ hi)
theorem VG.mono {g : G} (h : VG g) {i j : Nat} (hij : i ≤ j) (hj : j < g.es.length) : (Go.Dfl.nth g.es i).1 ≤ (Go.Dfl.nth g.es j).1 := by
  rcases Nat.lt_or_eq_of_le hij with h1 | rfl
  · have h2 := List.pairwise_iff_getElem.1 h.srt i j (by omega) hj h1
    rw [← nth_eq _ _ (by omega), ← nth_eq _ _ hj] at h2
    unfold eLt at h2; omega
  · exact Int.le_refl _
theorem count_mono (p : Nat → Bool) : ∀ n, (∀ a b, a ≤ b → b < n → p a = true → p b = true) → (List.range n).countP (fun i => !p i) ≤ n ∧ (∀ i, i < (List.range n).countP (fun i => !p i) → p i = false) ∧ ∀ i, (List.range n).countP (fun i => !p i) ≤ i → i < n → p i = true
  | 0, _ => by simp
  | n + 1, h => by
    obtain ⟨h1, h2, h3⟩ := count_mono p n (fun a b hab hb => h a b hab (by omega))
    rw [List.range_succ, List.countP_append]
    cases hp : p n
    · have hall : ∀ i, i ≤ n → p i = false := fun i hi => by
        cases hq : p i
        · rfl
        · rw [h i n hi (by omega) hq] at hp; cases hp
      have hc : (List.range n).countP (fun i => !p i) = n := by
        rw [List.countP_eq_length.2 (fun i hi => by rw [hall i (by have := List.mem_range.1 hi; omega)]; rfl), List.length_range]
      rw [hc]
      simp only [List.countP_cons, List.countP_nil, hp]
      refine ⟨by simp, fun i hi => hall i (by simp at hi; omega), fun i hi hl => by simp at hi; omega⟩
    · simp only [List.countP_cons, List.countP_nil, hp]
      refine ⟨by simp; omega, fun i hi => h2 i (by simpa using hi), fun i hi hl => ?_⟩
      by_cases e : i = n
      · subst e; exact hp
      · exact h3 i (by simpa using hi) (by omega)
theorem segL_prefix (es : List (Int × Int)) (a : Nat) {n m : Nat} (h : n ≤ m) : segL es a n <+: segL es a m := by
  obtain ⟨k, rfl⟩ : ∃ k, m = n + k := ⟨m - n, by omega⟩
  induction k with
  | zero => exact List.prefix_refl _
  | succ k ih => rw [← Nat.add_assoc, segL_succ]; exact (ih (by omega)).trans (List.prefix_append _ _)
theorem suc_full {g : G} (h : VG g) {v first : Nat} (h1 : ∀ i, i < first → i < g.es.length → (Go.Dfl.nth g.es i).1 < (v : Int)) (h2 : ∀ i, first ≤ i → i < g.es.length → (v : Int) ≤ (Go.Dfl.nth g.es i).1) {m : Nat} (hm : first + m < g.es.length) (he : (Go.Dfl.nth g.es (first + m)).1 = (v : Int)) :
    segL g.es first (m + 1) <+: suc g.es v := by
  obtain ⟨c1, c2, c3⟩ := count_mono (fun i => decide ((v : Int) + 1 ≤ (Go.Dfl.nth g.es i).1)) g.es.length (fun a b hab hb h1 => by
    rw [decide_eq_true_eq] at h1 ⊢
    exact Int.le_trans h1 (h.mono hab hb))
  generalize (List.range g.es.length).countP (fun i => !decide ((v : Int) + 1 ≤ (Go.Dfl.nth g.es i).1)) = sec at *
  have hs : first + m < sec := by
    apply Classical.byContradiction
    intro hn
    have := c3 (first + m) (by omega) hm
    rw [decide_eq_true_eq] at this
    omega
  rw [suc_seg (a := first) (n := sec - first) (by omega) (fun i hi => by have := h1 i hi (by omega); omega) (fun i hi => by
    have h3 := c2 (first + i) (by omega)
    rw [decide_eq_false_iff_not] at h3
    have h4 := h2 (first + i) (by omega) (by omega)
    omega) (fun i hi hl => by
    have h3 := c3 i (by omega) hl
    rw [decide_eq_true_eq] at h3
    omega)]
  exact segL_prefix _ _ (by omega)
/-- What the iterator wants kept. -/
def KpS (bg bv bc : Nat) (A B : World) : Prop := ∀ k, k = bg ∨ k = bv ∨ k = bc → k < A.heap.size → B.heap[k]? = A.heap[k]?
theorem KpS.trans {bg bv bc : Nat} {A B C : World} (h : KpS bg bv bc A B) (k : KpS bg bv bc B C) : KpS bg bv bc A C := fun i hi hl => by
  have h1 := h i hi hl
  have hlt : i < B.heap.size := by
    apply Classical.byContradiction
    intro hn
    rw [Array.getElem?_eq_none (by omega), Array.getElem?_eq_getElem hl] at h1
    cases h1
  exact (k i hi hlt).trans h1
theorem KpS.grown {bg bv bc : Nat} {A B : World} {row : Option Nat} (h : A.grownBy B row) (hr : ∀ k, row = some k → k ≠ bg ∧ k ≠ bv ∧ k ≠ bc) : KpS bg bv bc A B := fun k hk hl => h.block k hl fun e => by
  obtain ⟨h1, h2, h3⟩ := hr k e.symm
  rcases hk with rfl | rfl | rfl <;> contradiction
end Go.Gra
namespace Go.Proofs.Ytchmjgjagaaomaa
open Go.RowKit Go.Dfl Go.Gra Go.Shelf
attribute [local go_sem] Oper.semAt_some

/-- What the iterator reads. -/
structure RdS (g : G) (v bg bv : Nat) (ca : Option Addr) (cc : Nat) (Z : World) : Prop where
  box : BoxG Z bg g.n (.slice ca g.es.length cc)
  v : Z.cell? ⟨bv, 0, none⟩ = some (.int .i64 (v : Int))
  es : ∀ k, k < g.es.length → Z.cell? ⟨blk ca, ofs ca + k * 2, none⟩ = some (.int .i64 (nth g.es k).1) ∧ Z.cell? ⟨blk ca, ofs ca + k * 2 + 1, none⟩ = some (.int .i64 (nth g.es k).2)
/-- The block of the edges, if there are any. -/
def bcOf (g : G) (ca : Option Addr) (bg : Nat) : Nat := if g.es = [] then bg else blk ca
theorem bcOf_lt {g : G} {ca : Option Addr} {cc bg : Nat} {W : World} {B : Nat} (h : Pairs W (.slice ca g.es.length cc) g.es) (hB : W.heap.size ≤ B) (hbg : bg < B) : bcOf g ca bg < B := by
  unfold bcOf
  split
  · exact hbg
  · rename_i hne
    obtain ⟨a, c, he, -, -, hcc⟩ := pairs_rd h
    simp only [Value.slice.injEq] at he
    obtain ⟨rfl, -, rfl⟩ := he
    have := (hcc 0 (List.length_pos_iff.2 hne)).1
    omega
theorem bcOf_or {g : G} {ca : Option Addr} {cc bg : Nat} {W : World} (h : Pairs W (.slice ca g.es.length cc) g.es) : bcOf g ca bg = bg ∨ bcOf g ca bg < W.heap.size := by
  unfold bcOf
  split
  · exact .inl rfl
  · rename_i hne
    obtain ⟨a, c, he, -, -, hcc⟩ := pairs_rd h
    simp only [Value.slice.injEq] at he
    obtain ⟨rfl, -, rfl⟩ := he
    exact .inr (hcc 0 (List.length_pos_iff.2 hne)).1
theorem RdS.kp {g : G} {v bg bv : Nat} {ca : Option Addr} {cc : Nat} {A B : World} (h : RdS g v bg bv ca cc A) (k : KpS bg bv (bcOf g ca bg) A B) : RdS g v bg bv ca cc B := by
  have hbc : ∀ {i : Nat}, i < g.es.length → blk ca = bcOf g ca bg := fun {i} hi => by
    unfold bcOf; rw [if_neg (fun e => by rw [e] at hi; simp at hi)]
  have hc : ∀ {p : Addr} {x : Value}, A.cell? p = some x → (p.block = bg ∨ p.block = bv ∨ p.block = bcOf g ca bg) → B.cell? p = some x := fun {p x} hx hp => by
    rw [World.cell?_of_block (k p.block hp (World.block_lt_of_cell? A p hx))]; exact hx
  exact ⟨⟨hc h.box.1 (.inl rfl), hc h.box.2 (.inl rfl)⟩, hc h.v (.inr (.inl rfl)), fun i hi => ⟨hc (h.es i hi).1 (.inr (.inr (hbc hi))), hc (h.es i hi).2 (.inr (.inr (hbc hi)))⟩⟩
theorem RdS.below {g : G} {v bg bv : Nat} {ca : Option Addr} {cc : Nat} {A B : World} (h : RdS g v bg bv ca cc A) (hb : Below A.heap.size A B) : RdS g v bg bv ca cc B := h.kp (KpS.grown (grownBy_below hb) (by simp))

set_option maxHeartbeats 800000 in
theorem clos_any (g : G) (v bg bv : Nat) (ca : Option Addr) (cc : Nat) (W : World) (h : RdS g v bg bv ca cc W) (hci : ∀ x : Int, 0 ≤ x → x < g.es.length → ∀ Z, (Instr.indexAt 22 (.slice ca g.es.length cc) (.int .i64 x)).run Try.prog Z = .ok (.pointer (some ⟨blk ca, ofs ca + x.toNat * 2, none⟩)) Z) (i : Nat) (hi : i < g.es.length) :
    Calls Try.prog 72 #[.int .i64 (i : Int), .pointer (some ⟨bg, 0, none⟩), .pointer (some ⟨bv, 0, none⟩)] W fun e w' => e = .returned (.bool (decide ((v : Int) ≤ (nth g.es i).1))) ∧ Qt W w' := by
  obtain ⟨c1, -⟩ := h.es i hi
  obtain ⟨-, b1⟩ := h.box
  have b2 := h.v
  generalize (nth g.es i).1 = x at *
  have hx : (i : Int) < (g.es.length : Int) := by omega
  obtain ⟨d, hd⟩ : ∃ d, d = decide ((v : Int) ≤ x) := ⟨_, rfl⟩
  have hd' := hd.symm
  have HD := Lib.hid hd
  rw [← hd]
  clear h hd
  go_enter Try.func72, Try.ntmps72
  go_wp2_with fail
  go_quiet (fail)
  go_wp2_with fail
  go_ret
  exact ⟨by first | rfl | (rw [HD.out]), (by first | exact Qt.refl _ | exact Qt.drewN _ _ | exact (Qt.drewN _ _).trans (Qt.drewN _ _) | exact ((Qt.drewN _ _).trans (Qt.drewN _ _)).trans (Qt.drewN _ _) | exact Qt.drew _ | exact (Qt.drewN _ _).trans (Qt.drew _))⟩
/-- A node of a graph with n nodes. -/
abbrev Nd (g : G) := { x : Nat // x < g.n.toNat }
abbrev encN (g : G) (x : Nd g) : Array Value := #[.int .i64 (x.1 : Int)]
def vals {g : G} (l : List (Nd g)) : List Nat := l.map fun x => x.1
theorem vals_snoc {g : G} (l : List (Nd g)) (x : Nd g) : vals (l ++ [x]) = vals l ++ [x.1] := by simp [vals]
theorem vals_len {g : G} (l : List (Nd g)) : (vals l).length = l.length := by simp [vals]
set_option maxHeartbeats 3200000 in
set_option maxRecDepth 100000 in
theorem suc_stops (g : G) (hv : VG g) (v bg bv : Nat) (ca : Option Addr) (cc : Nat) (w : World) (n : Nat) (hn : 1 ≤ n) (hp : Pairs w (.slice ca g.es.length cc) g.es) (hr : RdS g v bg bv ca cc w) :
    SeqStopsK Fence.wide n Try.prog 70 #[.pointer (some ⟨bg, 0, none⟩), .pointer (some ⟨bv, 0, none⟩)] (encN g) (KpS bg bv (bcOf g ca bg)) (fun xs => vals xs = suc g.es v) (fun pre => vals pre <+: suc g.es v) g.es.length w := by
  intro l J Jx W hW hJ hJx hY h0
  have hrW := hr.below hW
  obtain ⟨a, c, he, hlen, hci, -⟩ := pairs_rd hp
  simp only [Value.slice.injEq] at he
  obtain ⟨rfl, -, rfl⟩ := he
  have hl := hv.len
  have hsearch := Any.sort_Search search 72 #[.pointer (some ⟨bg, 0, none⟩), .pointer (some ⟨bv, 0, none⟩)] g.es.length (fun i => decide ((v : Int) ≤ (nth g.es i).1)) W (enters_of Try.func72 (by kernel_rfl) rfl) (by omega)
    (fun m os i hi => (clos_any g v bg bv ca cc _ (hrW.below (below_grown_sl _ W m os (Nat.le_refl _))) hci i hi).mono fun e w' ⟨h1, q, h2⟩ => ⟨h1, q, #[], by rw [h2, Go.Sort.grow_empty]⟩)
    (fun a b hab hb h1 => by
      rw [decide_eq_true_eq] at h1 ⊢
      exact Int.le_trans h1 (hv.mono hab hb))
  change Calls Try.prog 71 _ _ _ at hsearch
  obtain ⟨hc1, hc2, hc3⟩ := count_mono (fun i => decide ((v : Int) ≤ (nth g.es i).1)) g.es.length (fun a b hab hb h1 => by
    rw [decide_eq_true_eq] at h1 ⊢
    exact Int.le_trans h1 (hv.mono hab hb))
  generalize (List.range g.es.length).countP (fun i => !decide ((v : Int) ≤ (nth g.es i).1)) = first at *
  have HS := Lib.hid hsearch
  have HC := Lib.hid (And.intro hc1 (And.intro (fun i (hi : i < first) => (by have := hc2 i hi; rw [decide_eq_false_iff_not] at this; omega : (nth g.es i).1 < (v : Int))) (fun i (h1 : first ≤ i) (h2 : i < g.es.length) => (by have := hc3 i h1 h2; rwa [decide_eq_true_eq] at this : (v : Int) ≤ (nth g.es i).1))))
  have HY := Lib.hid hY
  have HJ := Lib.hid hJ
  have H0 := Lib.hid h0
  have HR := Lib.hid hrW
  obtain ⟨-, b1⟩ := hrW.box
  clear hsearch hc2 hc3 hY hJ hJx h0 hrW hr hp hW
  refine callsIn_of_wp Try.func70 rfl trivial ?_ rfl
  simp only [Try.ntmps70, List.size_toArray, List.length_cons, List.length_nil, Nat.reduceAdd, Nat.reduceSub, Array.replicate_succ, Array.replicate_zero, List.push_toArray, List.append_toArray, List.nil_append, List.cons_append]
  refine wpIn_wide.2 ?_
  go_wp2_with fail
  refine HS.out.mono ?_
  rintro e W1 ⟨rfl, q1, os1, hw1⟩
  have hg1 : Grw W W1 := ⟨q1, os1, hw1⟩
  have H1 := Lib.hid (And.intro (HR.out.below hg1.below) (HJ.out [] W W1 none H0.out (grownBy_below hg1.below) (by simp)))
  clear hw1 hg1 b1 HS
  go_wp2_with fail
  refine (wpIn_wide (n := n)).1 ?_
  gi_loopw [5] (fun x wr => ∃ (m : Nat) (pre : List (Nd g)), first + m ≤ g.es.length ∧ x = .int .i64 ((first + m : Nat) : Int) ∧ Hid (RdS g v bg bv ca cc wr ∧ J pre wr ∧ vals pre = segL g.es first m ∧ ∀ i, i < m → (nth g.es (first + i)).1 = (v : Int))) (fun x _ => g.es.length - (intOf x).toNat)
  case atStart => exact ⟨0, [], by omega, rfl, H1.out.1, H1.out.2, rfl, fun i hi => by omega⟩
  case round =>
    obtain ⟨m, pre, hm, rfl, hh⟩ := hrel
    obtain ⟨-, b1⟩ := hh.out.1.box
    have b2 := hh.out.1.v
    obtain ⟨i, hi⟩ : ∃ i, i = first + m := ⟨_, rfl⟩
    rw [← hi] at hm ⊢
    have HI := Lib.hid hi
    by_cases hlt : i < g.es.length
    · obtain ⟨c1, c2⟩ := hh.out.1.es i hlt
      have hvi := hv.nth hlt
      obtain ⟨y, hy⟩ : ∃ y : Nd g, y.1 = (nth g.es i).2.toNat := ⟨⟨(nth g.es i).2.toNat, by omega⟩, rfl⟩
      have hy2 : (nth g.es i).2 = (y.1 : Int) := by rw [hy]; exact (Int.toNat_of_nonneg hvi.2.1).symm
      rw [hy2] at c2
      have HYI := Lib.hid (And.intro hy hy2)
      have hx : (i : Int) < (g.es.length : Int) := by omega
      clear hy hy2 hvi
      by_cases he : (nth g.es i).1 = (v : Int)
      · have hd : ((nth g.es i).1 == (v : Int)) = true := by simpa using he
        have HE := Lib.hid he
        clear he hi
        gi_wp2
        refine wpIn_wide.2 ?_
        go_quiet (fail)
        refine K_gen (fun Z => Qt wr Z) (by first | exact Qt.refl _ | exact Qt.drewN _ _ | exact (Qt.drewN _ _).trans (Qt.drewN _ _) | exact ((Qt.drewN _ _).trans (Qt.drewN _ _)).trans (Qt.drewN _ _) | exact Qt.drew _ | exact (Qt.drewN _ _).trans (Qt.drew _)) ?_
        rintro W2 hq2
        have hb2 := hq2.below wr.heap.size
        have hR2 := hh.out.1.below hb2
        have hJ2 := HJ.out pre wr W2 none hh.out.2.1 (grownBy_below hb2) (by simp)
        obtain ⟨-, d1⟩ := hR2.box
        obtain ⟨e1, e2⟩ := hR2.es i hlt
        rw [HYI.out.2] at e2
        have hml : pre.length = m := by rw [← vals_len, hh.out.2.2.1]; simp [segL]
        obtain ⟨fn, tmps, assign, body, hy, hRd⟩ := HY.out pre y W2 hJ2 (by rw [hml, HI.out] at *; omega)
        unfold encN at hy
        have H2 := Lib.hid hR2
        have hvs : vals (pre ++ [y]) = segL g.es first (m + 1) := by rw [vals_snoc, hh.out.2.2.1, segL_succ, HYI.out.1, HI.out]
        have HVS := Lib.hid hvs
        have hall : ∀ j, j < m + 1 → (nth g.es (first + j)).1 = (v : Int) := fun j hj => by
          by_cases e : j = m
          · subst e; rw [← HI.out]; exact HE.out
          · exact hh.out.2.2.2 j (by omega)
        have HA := Lib.hid hall
        clear hq2 hb2 hR2 hJ2 hml hvs hall b1 b2 c1 c2 e1
        gi_wp2
        refine hRd.mono ?_
        rintro e W3 (⟨rfl, hJ3, hk3⟩ | ⟨rfl, hJx3⟩)
        · have H3 := Lib.hid (And.intro (H2.out.kp hk3) hJ3)
          clear hJ3 hk3 hy hRd
          gi_wp2
          go_roundw
          case rel => exact ⟨m + 1, pre ++ [y], by have := HI.out; omega, by rw [HI.out]; go_num, H3.out.1, H3.out.2, HVS.out, HA.out⟩
          case measure => simp [intOf]; omega
        · have H3 := Lib.hid hJx3
          clear hJx3 hy hRd
          gi_wp2
          refine bodyPost_ret (results_none rfl _ _ _) rfl ?_
          refine ⟨⟨_, rfl⟩, .inr ⟨pre ++ [y], ?_, H3.out⟩⟩
          rw [HVS.out]
          exact suc_full hv (fun j hj _ => HC.out.2.1 j hj) HC.out.2.2 (by have := HI.out; omega) (by rw [← HI.out]; exact HE.out)
      · have hd : ((nth g.es i).1 == (v : Int)) = false := by simpa using he
        have HE := Lib.hid he
        clear he hi
        gi_wp2
        refine wpIn_wide.2 ?_
        go_quiet (fail)
        refine K_gen (fun Z => Qt wr Z) (by first | exact Qt.refl _ | exact Qt.drewN _ _ | exact (Qt.drewN _ _).trans (Qt.drewN _ _) | exact ((Qt.drewN _ _).trans (Qt.drewN _ _)).trans (Qt.drewN _ _) | exact Qt.drew _ | exact (Qt.drewN _ _).trans (Qt.drew _)) ?_
        rintro W2 hq2
        have hJ2 := HJ.out pre wr W2 none hh.out.2.1 (grownBy_below (hq2.below wr.heap.size)) (by simp)
        have H2 := Lib.hid hJ2
        clear hq2 hJ2
        gi_wp2
        go_end0
        refine ⟨⟨_, rfl⟩, .inl ⟨pre, ?_, H2.out⟩⟩
        rw [hh.out.2.2.1]
        refine (suc_seg (by have := HI.out; omega) (fun j hj => by have := HC.out.2.1 j hj; omega) hh.out.2.2.2 (fun j h1 h2 => ?_)).symm
        have h3 := hv.mono (i := i) (j := j) (by have := HI.out; omega) h2
        have h4 := HC.out.2.2 i (by have := HI.out; omega) hlt
        have h5 := HE.out
        omega
    · obtain rfl : i = g.es.length := by omega
      clear hi
      gi_wp2
      refine wpIn_wide.2 ?_
      go_quiet (fail)
      refine K_gen (fun Z => Qt wr Z) (by first | exact Qt.refl _ | exact Qt.drewN _ _ | exact (Qt.drewN _ _).trans (Qt.drewN _ _) | exact ((Qt.drewN _ _).trans (Qt.drewN _ _)).trans (Qt.drewN _ _) | exact Qt.drew _ | exact (Qt.drewN _ _).trans (Qt.drew _)) ?_
      rintro W2 hq2
      have hJ2 := HJ.out pre wr W2 none hh.out.2.1 (grownBy_below (hq2.below wr.heap.size)) (by simp)
      have H2 := Lib.hid hJ2
      clear hq2 hJ2
      gi_wp2
      go_end0
      refine ⟨⟨_, rfl⟩, .inl ⟨pre, ?_, H2.out⟩⟩
      rw [hh.out.2.2.1]
      exact (suc_seg (by have := HI.out; omega) (fun j hj => by have := HC.out.2.1 j hj; omega) hh.out.2.2.2 (fun j h1 h2 => by have := HI.out; omega)).symm
/-- What the maker of the iterator does. -/
theorem succ_any (g : G) (cv : Value) (v : Int) (W : World) : Calls Try.prog 56 #[GV g cv, .int .i64 v] W fun e W' => e = .returned (.func (.func 70) #[] #[.pointer (some ⟨W.heap.size, 0, none⟩), .pointer (some ⟨W.heap.size + 1, 0, none⟩)]) ∧ W' = (W.alloc (.cells #[.int .i64 g.n, cv] 24)).alloc (.cells #[.int .i64 v] 3) := by
  unfold GV
  go_enter Try.func56, Try.ntmps56
  go_wp2_with fail
  go_ret
  exact ⟨rfl, rfl⟩
theorem RdS.new {g : G} {v : Nat} {ca : Option Addr} {cc : Nat} {W : World} (h : Pairs W (.slice ca g.es.length cc) g.es) : RdS g v W.heap.size (W.heap.size + 1) ca cc ((W.alloc (.cells #[.int .i64 g.n, .slice ca g.es.length cc] 24)).alloc (.cells #[.int .i64 (v : Int)] 3)) := by
  obtain ⟨a, c, he, -, -, hcc⟩ := pairs_rd h
  simp only [Value.slice.injEq] at he
  obtain ⟨rfl, -, rfl⟩ := he
  have hb : Below W.heap.size W ((W.alloc (.cells #[.int .i64 g.n, .slice ca g.es.length cc] 24)).alloc (.cells #[.int .i64 (v : Int)] 3)) := ((Below.refl _ _).alloc (Nat.le_refl _) _).alloc (by simp) _
  refine ⟨(BoxG.new W g.n (.slice ca g.es.length cc) 24).grown (grownBy_alloc _ _) (by simp), ?_, fun k hk => (hcc k hk).2 _ hb⟩
  exact cell_at1 (by simp)
end Go.Proofs.Ytchmjgjagaaomaa

/- Contract of Succ. -/
namespace Go.Dfl
open Go.RowKit
/-- 'append(s, x)' in a round. -/
theorem wpIn_append1 {F : Fence} {nF : Nat} {α : Type} {f : α → Value} {P : Program} {t e : TypeId} {z : Value} {by8 : Nat} (ht : SliceOf P t e z 1 by8) (hz : z.cells.size = 1) (w : World) {ops : Array Oper} {rest : List Oper} {o : Oper} {a : Act} {Q : Exit → Act → World → Prop}
    (hg : o.guard = none) (s x : Operand) (hop : o.op = .call { callee := .builtin .append, args := #[s, x], argTypes := #[t, t] })
    (base : Nat) (v : Value) (l : List α) (hs : a.eval s = v) (hown : Own f w base e v l) (y : α) (ad : Addr) (hx : a.eval x = .slice (some ad) 1 1) (hy : w.cell? ad = some (f y)) (h1 : (f y).oneCell' = true)
    (hlen : l.length < 17592186044416) (h8 : by8 ≤ 8) (hbase : base ≤ w.heap.size)
    (hK : ∀ v' w', Own f w' base e v' (l ++ [y]) → w.grownBy w' v.ownBlock → Below base w w' → wpListIn F nF P ops Q rest (a.put o.dst v') w') : wpListIn F nF P ops Q (o :: rest) a w := by
  obtain ⟨i, hi, hz0, hz1, hz2⟩ := ht.info
  refine wpListIn_append_own w hg s x t hop base e i z 1 by8 ht.und hi hz0 hz1 hz2 hz (by omega) v l.length (l.map f) hs hown ad 1 1 [f y] hx rfl ?_ (by simpa using h1) (by unfold maxLen; omega) ?_ hbase ?_
  · intro j u hj
    cases j with
    | zero => simp at hj; subst hj; simpa [Addr.add] using hy
    | succ j => simp at hj
  · exact Nat.le_trans (Nat.mul_le_mul (by omega : l.length + 1 ≤ 17592186044416) h8) (by omega)
  · intro v' w' h2 h3 _
    exact hK v' w' (by unfold Own; simpa using h2) h3 ((Below.refl _ _).grown h3 hbase fun k hk => (World.ownsRow.lt hown k hk).1)
end Go.Dfl
namespace Go.Proofs.Ytchmjgjagaaomaa
open Go.RowKit Go.Dfl Go.Gra Go.Shelf
attribute [local go_sem] Oper.semAt_some

def sucZ (g : G) (v : Int) : List Nat := if nodeG g v then suc g.es v.toNat else []
def SuccR (g : G) (v : Int) (W : World) (e : Ending) (W' : World) : Prop := ∃ a c, e = .returned (.slice a (sucZ g v).length c) ∧ Ints W' (.slice a (sucZ g v).length c) ((sucZ g v).map fun x : Nat => (x : Int)) ∧ Below W.heap.size W W'
/-- A list in a box. -/
structure BxI (b base : Nat) (l : List Int) (W : World) : Prop where
  ex : ∃ v, W.cell? ⟨b, 0, none⟩ = some v ∧ OwnI W base 3 v l
  frz : W.frozen? ⟨b, 0, none⟩ = false
  lt : b < base
theorem BxI.grown {b base : Nat} {l : List Int} {W W' : World} (h : BxI b base l W) {row : Option Nat} (hg : W.grownBy W' row) (hr : ∀ k, row = some k → k ≠ b ∧ (k < base ∨ W.heap.size ≤ k ∨ ∀ v, W.cell? ⟨b, 0, none⟩ = some v → v.ownBlock ≠ some k)) : BxI b base l W' := by
  obtain ⟨v, h1, h2⟩ := h.ex
  have hlt := World.block_lt_of_cell? W _ h1
  have hne : some b ≠ row := fun e => (hr b e.symm).1 rfl
  refine ⟨⟨v, hg.cell h1 hne, h2.grown hg ?_⟩, ?_, h.lt⟩
  · cases e : v.ownBlock with
    | none => exact .inl rfl
    | some k =>
      refine .inr fun e2 => ?_
      have h3 := h2.lt k e
      rcases (hr k e2.symm).2 with h4 | h4 | h4
      · omega
      · omega
      · exact h4 v h1 e
  · rw [World.frozen?_of_block (a := ⟨b, 0, none⟩) (hg.block b hlt hne)]; exact h.frz
theorem BxI.own {b base B : Nat} {α : Type} {f : α → List Int} : OwnFrom B (fun (s : α) W => BxI b base (f s) W) := fun s W W' row hs hg hr => hs.grown hg fun k e => by
  obtain ⟨-, o, ho, hc⟩ := hr k e
  obtain ⟨v, h1, h2⟩ := hs.ex
  refine ⟨fun e2 => ?_, .inr (.inr fun u hu e2 => ?_)⟩
  · subst e2
    simp only [World.cell?, ho] at h1
    cases o <;> simp_all [Obj.isCells]
  · rw [hu] at h1
    obtain rfl := Option.some.inj h1
    obtain ⟨-, ⟨h3, -⟩ | ⟨g, cap, cur, h3, -, h5, -⟩⟩ := h2
    · rw [h3] at e2; simp [Value.ownBlock] at e2
    · rw [h3] at e2
      have e3 : g = k := by simpa [Value.ownBlock] using e2
      subst e3
      rw [ho] at h5
      obtain rfl := Option.some.inj h5
      simp [Obj.isCells] at hc

theorem ownFrom_size {β : Type} {B m : Nat} : OwnFrom B (fun (_ : β) W => m ≤ W.heap.size) := fun _ _ _ _ hs hg _ => Nat.le_trans hs hg.size
theorem own_ne_obj {f : Int → Value} {W : World} {base : Nat} {e : TypeId} {v : Value} {l : List Int} (h : Go.Dfl.Own f W base e v l) {D : Nat} {o : Obj} (hD : W.heap[D]? = some o) (ho : o.isCells = false) : v.ownBlock = none ∨ v.ownBlock ≠ some D := by
  refine .inr fun e2 => ?_
  obtain ⟨-, ⟨h3, -⟩ | ⟨g, cap, cur, h3, -, h5, -⟩⟩ := h
  · rw [h3] at e2; simp [Value.ownBlock] at e2
  · rw [h3] at e2
    have e3 : g = D := by simpa [Value.ownBlock] using e2
    subst e3
    rw [hD] at h5
    obtain rfl := Option.some.inj h5
    simp [Obj.isCells] at ho
set_option maxHeartbeats 3200000 in
set_option maxRecDepth 100000 in
theorem gSucc_any (g : G) (cv : Value) (v : Int) (W : World) (h : Pairs W cv g.es) : Calls Try.prog 39 #[GV g cv, .int .i64 v] W (SuccR g v W) := by
  obtain ⟨ca, cc, rfl, -, -, -⟩ := pairs_rd h
  have hal := (Below.refl W.heap.size W).alloc (Nat.le_refl _) (.cells #[.int .i64 g.n, .slice ca g.es.length cc] 24)
  have H0 := Lib.hid (And.intro (h.below hal) (And.intro hal (BoxG.new W g.n (.slice ca g.es.length cc) 24)))
  clear h hal
  unfold GV
  refine (callsIn_wide (n := 5)).1 ?_
  refine callsIn_of_wp_marks Try.func39 rfl trivial ?_ rfl
  simp only [Try.ntmps39, List.size_toArray, List.length_cons, List.length_nil, Nat.reduceAdd, Nat.reduceSub, Array.replicate_succ, Array.replicate_zero, List.push_toArray, List.append_toArray, List.nil_append, List.cons_append]
  refine wpIn_wide.2 ?_
  go_wp2_with fail
  have hck := gCheck_any g (.slice ca g.es.length cc) _ H0.out.1
  unfold GV at hck
  refine hck.mono ?_
  rintro e W1 ⟨rfl, r1⟩
  have H1 := Lib.hid (And.intro (H0.out.1.below r1) (And.intro (H0.out.2.1.trans (r1.mono H0.out.2.1.size)) (H0.out.2.2.below r1)))
  clear r1 hck
  obtain ⟨c0, c1⟩ := H1.out.2.2
  have n1 : W.heap.size < W1.heap.size := H1.out.2.2.lt
  generalize hbs : W.heap.size = bs at *
  have HBS := Lib.hid hbs
  have n2 : bs ≠ W1.heap.size := by omega
  clear hbs
  by_cases hc : gCode g = 0
  · have q0 : (gCode g != 0) = false := by simpa using hc
    cases hnd : nodeB g.n v
    · have HN : Hid (sucZ g v = []) := Lib.hid (by unfold sucZ nodeG; simp [hnd])
      go_wp2_with (go_at_call 42; refine (node_any _ _ _).mono ?_; rintro e w' ⟨rfl, hw⟩; rw [hw]; clear hw w')
      exact ⟨_, results_tmp rfl _ _ _, none, 0, by rw [HN.out]; rfl, by rw [HN.out]; exact Lst.nil _ _, by rw [HBS.out]; exact H1.out.2.1⟩
    · have hvg := gCode_ok.1 hc
      obtain ⟨hv0, hv1⟩ := nodeB_iff.1 hnd
      obtain ⟨n, rfl⟩ : ∃ n : Nat, v = n := ⟨v.toNat, by omega⟩
      have HN : Hid (sucZ g (n : Int) = suc g.es n) := Lib.hid (by unfold sucZ nodeG; simp [hc, hnd])
      have hl := hvg.len
      have HV := Lib.hid hvg
      have hp2 := H1.out.1.below ((Below.refl W1.heap.size W1).alloc (Nat.le_refl _) (.cells #[.slice none 0 0] 32))
      have hr2 := RdS.new (v := n) hp2
      have hb3 : Below W1.heap.size W1 (((W1.alloc (.cells #[.slice none 0 0] 32)).alloc (.cells #[.int .i64 g.n, .slice ca g.es.length cc] 24)).alloc (.cells #[.int .i64 (n : Int)] 3)) := (((Below.refl _ _).alloc (Nat.le_refl _) _).alloc (by simp) _).alloc (by simp; omega) _
      have hbx : BxI W1.heap.size (W1.heap.size + 1 + 1 + 1) [] (((W1.alloc (.cells #[.slice none 0 0] 32)).alloc (.cells #[.int .i64 g.n, .slice ca g.es.length cc] 24)).alloc (.cells #[.int .i64 (n : Int)] 3)) := by
        have h1 : BxI W1.heap.size (W1.heap.size + 1 + 1 + 1) [] (W1.alloc (.cells #[.slice none 0 0] 32)) := ⟨⟨_, cell_alloc1 _ _ _, Go.Dfl.Own.nil _ _ _ _⟩, by have hq := heap_alloc_new W1 (.cells #[.slice none 0 0] 32); simp only [World.frozen?, hq]; first | rfl | simp, by omega⟩
        exact (h1.grown (grownBy_alloc _ _) (by simp)).grown (grownBy_alloc _ _) (by simp)
      rw [World.size_alloc] at hr2
      have HR := Lib.hid (And.intro hr2 (And.intro hb3 (And.intro hbx hp2)))
      clear hvg hv0 hv1 hc hr2 hb3 hbx hp2
      have hsu : ∀ Z, Calls Try.prog 56 #[.agg #[.int .i64 g.n, .slice ca g.es.length cc], .int .i64 (n : Int)] Z fun e W' => e = .returned (.func (.func 70) #[] #[.pointer (some ⟨Z.heap.size, 0, none⟩), .pointer (some ⟨Z.heap.size + 1, 0, none⟩)]) ∧ W' = (Z.alloc (.cells #[.int .i64 g.n, .slice ca g.es.length cc] 24)).alloc (.cells #[.int .i64 (n : Int)] 3) := fun Z => succ_any g (.slice ca g.es.length cc) n Z
      have HSU := Lib.hid hsu
      clear hsu
      go_wp2_with (first | (go_at_call 42; refine (node_any _ _ _).mono ?_; rintro e w' ⟨rfl, hw⟩; rw [hw]; clear hw w') | (go_at_call 56; refine (HSU.out _).mono ?_; rintro e w' ⟨rfl, hw⟩; rw [hw]; clear hw w'))
      refine (wpIn_wide (n := 5)).1 ?_
      refine wpIn_rangeFunc_ownG rfl (by omega) (gf := 70) (lb := #[.pointer (some ⟨W1.heap.size + 1, 0, none⟩), .pointer (some ⟨W1.heap.size + 1 + 1, 0, none⟩)]) rfl trivial (enters_of Try.func70 (by kernel_rfl) rfl)
        (suc_stops g HV.out n (W1.heap.size + 1) (W1.heap.size + 1 + 1) ca cc _ 4 (by omega) (H1.out.1.below HR.out.2.1) HR.out.1) (fun h k => h.trans k) ?hKb (Below.refl _ _) (fun _ => rfl)
        (fun pre Z => BxI W1.heap.size (W1.heap.size + 1 + 1 + 1) ((vals pre).map fun x : Nat => (x : Int)) Z ∧ Below W1.heap.size W1 Z ∧ W1.heap.size + 1 + 1 + 1 ≤ Z.heap.size) (fun _ _ _ => False)
        (OwnFrom.and BxI.own (OwnFrom.and (ownFrom_below (Nat.le_refl _) (by simp; omega)) ownFrom_size)) (fun _ _ _ _ _ hs _ _ => hs) ⟨HR.out.2.2.1, HR.out.2.1, by simp⟩ ?a1 ?assign ?body ?done ?stop
      case hKb =>
        intro Z l o o' hlz hlo ho hwk
        have hbc : bcOf g ca (W1.heap.size + 1) < (((W1.alloc (.cells #[.slice none 0 0] 32)).alloc (.cells #[.int .i64 g.n, .slice ca g.es.length cc] 24)).alloc (.cells #[.int .i64 (n : Int)] 3)).heap.size := bcOf_lt H1.out.1 (by simp; omega) (by simp)
        simp only [World.size_alloc] at hlz hbc
        exact KpS.grown (grownBy_putObj' Z l o') (fun k e => by have e2 := Option.some.inj e; omega)
      case assign =>
        intro l x Z K hK
        gi_wp2
        exact hK
      case body =>
        rintro l pre x Z ⟨hbx, hb, hsz⟩ hlt
        obtain ⟨u, u1, u2⟩ := hbx.ex
        obtain ⟨ua, uc, rfl⟩ := u2.shape (n := pre.length) (by rw [List.length_map, vals_len])
        have uf := hbx.frz
        have hbl := World.block_lt_of_cell? Z _ u1
        have hH := Lib.hid (And.intro hbx (And.intro hb (And.intro u2 hlt)))
        have hll : ((vals pre).map fun x : Nat => (x : Int)).length < 17592186044416 := by rw [List.length_map, vals_len]; omega
        have HL := Lib.hid hll
        have hne : some W1.heap.size ≠ (Value.slice ua pre.length uc).ownBlock := fun e => by have := (u2.lt _ e.symm).1; omega
        have HNE := Lib.hid hne
        clear hbx hb u2 hll hlt hne
        gi_wp2_with (gi_at_builtin; refine wpIn_append1 (f := Value.int .i64) sIntG rfl _ rfl _ _ rfl (W1.heap.size + 1 + 1 + 1) _ ((vals pre).map fun x : Nat => (x : Int)) rfl (hH.out.2.2.1.alloc _) (x.1 : Int) ⟨Z.heap.size, 0, none⟩ rfl (cell_alloc1 _ _ _) rfl HL.out (by omega) (le_alloc _ hsz) ?_; intro v' w3 hown hgr hb3; obtain ⟨s9, c9, rfl⟩ := hown.shape (n := pre.length + 1) (by rw [List.length_append, List.length_map, vals_len]; rfl); have e1 := hgr.cell ((grownBy_alloc Z (.cells #[.int .i64 (x.1 : Int)] 3)).cell u1 (by simp)) HNE.out; have f1 : w3.frozen? ⟨W1.heap.size, 0, none⟩ = false := (by rw [World.frozen?_of_block (a := ⟨W1.heap.size, 0, none⟩) ((hgr.block _ (by simp; omega) HNE.out).trans ((grownBy_alloc Z (.cells #[.int .i64 (x.1 : Int)] 3)).block _ hbl (by simp)))]; exact uf); have HO := Lib.hid (And.intro hown (And.intro hgr hb3)); clear hown hgr hb3)
        have gA := grownBy_alloc Z (.cells #[.int .i64 (x.1 : Int)] 3)
        have gS := grownBy_setCell w3 ⟨W1.heap.size, 0, none⟩ (.slice s9 (pre.length + 1) c9)
        have hbel : Below W1.heap.size Z (w3.setCell ⟨W1.heap.size, 0, none⟩ (.slice s9 (pre.length + 1) c9)) := (((Below.refl W1.heap.size Z).alloc (by omega) _).trans (HO.out.2.2.mono (by omega))).setCell (show W1.heap.size ≤ (⟨W1.heap.size, 0, none⟩ : Addr).block from Nat.le_refl _) _
        have hrow : ∀ k, (Value.slice ua pre.length uc).ownBlock = some k → W1.heap.size + 1 + 1 + 1 ≤ k ∧ ∀ o, Z.heap[k]? = some o → o.isCells = true := fun k e => by
          refine ⟨(hH.out.2.2.1.lt k e).1, fun o ho => ?_⟩
          obtain ⟨-, ⟨h3, -⟩ | ⟨g9, cap, cur, h3, -, h5, -⟩⟩ := hH.out.2.2.1
          · rw [h3] at e; simp [Value.ownBlock] at e
          · rw [h3] at e
            have e3 : g9 = k := by simpa [Value.ownBlock] using e
            subst e3
            rw [ho] at h5
            obtain rfl := Option.some.inj h5
            rfl
        refine ⟨?_, ?_, ⟨⟨⟨_, World.cell?_setCell_same w3 _ _ e1, ?_⟩, by rw [World.frozen?_setCell]; exact f1, by omega⟩, hH.out.2.1.trans hbel, by have h1 := hbel.size; omega⟩⟩
        · refine (((KeepsOthers.alloc Z _).trans (KeepsOthers.of_grownBy HO.out.2.1 fun j o e ho => ?_)).trans (KeepsOthers.setCell _ _ _)).from _
          have hjz : j < Z.heap.size := (hH.out.2.2.1.lt j e).2
          rw [gA.block j hjz (by simp)] at ho
          exact (hrow j e).2 o ho
        · have hbc := bcOf_or (bg := W1.heap.size + 1) H1.out.1
          refine ((KpS.grown gA (by simp)).trans (KpS.grown HO.out.2.1 fun k e => ?_)).trans (KpS.grown gS fun k e => ?_)
          · have := (hrow k e).1; omega
          · have e2 : W1.heap.size = k := Option.some.inj e
            omega
        · rw [vals_snoc, List.map_append]
          exact HO.out.1.grown gS (.inr fun e => by have := (HO.out.1.lt _ e).1; have e9 : (⟨W1.heap.size, 0, none⟩ : Addr).block = W1.heap.size := rfl; omega)
      case done =>
        rintro D ys Z hD hys ⟨hbx, hb, -⟩ hK
        obtain ⟨u, u1, u2⟩ := hbx.ex
        obtain ⟨ua, uc, rfl⟩ := u2.shape (n := ys.length) (by rw [List.length_map, vals_len])
        have hH := Lib.hid (And.intro hb (And.intro u2 hys))
        clear hbx hb u2 hys
        go_wp2_with fail
        refine ⟨by simp, .inl ⟨_, _, rfl, run_takeDeferred hK, ?_⟩⟩
        have hlen : ys.length = (sucZ g (n : Int)).length := by rw [HN.out, ← hH.out.2.2, vals_len]
        have gP := grownBy_putObj' Z D (.deferred none)
        refine ⟨_, results_tmp rfl _ _ _, ua, uc, by rw [← hlen]; rfl, ?_, ?_⟩
        · rw [← hlen, HN.out, ← hH.out.2.2]
          have ho := hH.out.2.1.grown gP (own_ne_obj hH.out.2.1 hK rfl)
          exact ho.lst
        · have hDz : W1.heap.size ≤ D := by simp at hD; omega
          have h9 := (H1.out.2.1.trans (hH.out.1.mono (Nat.le_of_lt n1))).grown gP (Nat.le_trans (Nat.le_of_lt n1) hH.out.1.size) (fun k e => by have e2 := Option.some.inj e; omega)
          rw [HBS.out]; exact h9
      case stop =>
        rintro D c pre Z _ _ h _
        exact h.elim
  · have hz : (gCode g != 0) = true := by simpa using hc
    have HN : Hid (sucZ g v = []) := Lib.hid (by unfold sucZ nodeG; simp [hc])
    clear hc
    go_wp2_with fail
    exact ⟨_, results_tmp rfl _ _ _, none, 0, by rw [HN.out]; rfl, by rw [HN.out]; exact Lst.nil _ _, by rw [HBS.out]; exact H1.out.2.1⟩
end Go.Proofs.Ytchmjgjagaaomaa

/- Contract of Pred. -/
namespace Go.Proofs.Ytchmjgjagaaomaa
open Go.RowKit Go.Dfl Go.Gra

/-- The predecessors of v in the first k edges. -/
def predK (es : List (Int × Int)) (v : Int) (k : Nat) : List Int := ((es.take k).filter fun e => decide (e.2 = v)).map fun e => e.1
theorem predK_yes {es : List (Int × Int)} {v : Int} {k : Nat} (h : k < es.length) (hv : (nth es k).2 = v) : predK es v (k + 1) = predK es v k ++ [(nth es k).1] := by
  unfold predK; rw [take_snoc _ _ h, List.filter_append, List.map_append]; simp [hv]
theorem predK_no {es : List (Int × Int)} {v : Int} {k : Nat} (h : k < es.length) (hv : (nth es k).2 ≠ v) : predK es v (k + 1) = predK es v k := by
  unfold predK; rw [take_snoc _ _ h, List.filter_append, List.map_append]; simp [hv]
theorem predK_len (es : List (Int × Int)) (v : Int) (k : Nat) : (predK es v k).length ≤ k := by
  unfold predK; rw [List.length_map]; exact Nat.le_trans (List.length_filter_le _ _) (by rw [List.length_take]; omega)
def predZ (g : G) (v : Int) : List Int := if nodeG g v then predK g.es v g.es.length else []
def PredR (g : G) (v : Int) (W : World) (e : Ending) (W' : World) : Prop := ∃ a c, e = .returned (.slice a (predZ g v).length c) ∧ Ints W' (.slice a (predZ g v).length c) (predZ g v) ∧ Below W.heap.size W W'
end Go.Proofs.Ytchmjgjagaaomaa
