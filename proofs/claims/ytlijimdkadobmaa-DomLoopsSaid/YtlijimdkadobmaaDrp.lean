/- Plain: reducible flow graphs. -/
import Derived.Test.YtlijimdkadobmaaDpl
import Derived.Test.YtlijimdkadobmaaKah
namespace Go.Gra
open Go.Dfl (nth nth_mem mem_nth nth_eq nth_ext nth_set nth_append take_snoc)
open Go.Kah (cnt row KI Plus Ed)
/-- Is an edge kept: from a reachable node, and no back edge? -/
def keepE (g : G) (r : Nat) (e : Int × Int) : Bool := decide (e.1.toNat ∈ postL g r) && !domB g r e.2.toNat e.1.toNat
def leftE (g : G) (r i : Nat) : List (Int × Int) := (g.es.take i).filter (keepE g r)
theorem leftE_yes {g : G} {r i : Nat} (h : i < g.es.length) (hk : keepE g r (nth g.es i) = true) : leftE g r (i + 1) = leftE g r i ++ [nth g.es i] := by
  unfold leftE; rw [take_snoc _ _ h, List.filter_append, List.filter_cons_of_pos hk]; rfl
theorem leftE_no {g : G} {r i : Nat} (h : i < g.es.length) (hk : keepE g r (nth g.es i) = false) : leftE g r (i + 1) = leftE g r i := by
  unfold leftE; rw [take_snoc _ _ h, List.filter_append, List.filter_cons_of_neg (by rw [hk]; simp)]; simp
theorem leftE_len (g : G) (r i : Nat) : (leftE g r i).length ≤ i := by
  unfold leftE; exact Nat.le_trans (List.length_filter_le _ _) (by rw [List.length_take]; omega)
def leftG (g : G) (r : Nat) : G := ⟨g.n, leftE g r g.es.length⟩
theorem leftG_es (g : G) (r : Nat) : (leftG g r).es = g.es.filter (keepE g r) := by unfold leftG leftE; rw [List.take_length]
theorem leftG_ok {g : G} (h : VG g) (r : Nat) : VG (leftG g r) := by
  have e := leftG_es g r
  exact ⟨h.n0, h.n1, Nat.le_trans (leftE_len _ _ _) h.len, fun x hx => by rw [e] at hx; exact h.inn x (List.mem_filter.1 hx).1, by rw [e]; exact h.srt.filter _⟩
/-- Is a node on a cycle of what is left? -/
def cycB (g : G) (r v : Nat) : Bool := decide (0 ≤ nth (distL (leftG g r) ((suc (leftG g r).es v).map fun x : Nat => (x : Int))) v)
def redB (g : G) (r : Nat) : Bool := (List.range g.n.toNat).all fun v => !cycB g r v
def natE (es : List (Int × Int)) : Ed := es.map fun e => (e.1.toNat, e.2.toNat)
theorem mem_natE {g : G} (h : VG g) {u w : Nat} : (u, w) ∈ natE g.es ↔ w ∈ suc g.es u := by
  unfold natE
  rw [List.mem_map, mem_suc]
  constructor
  · rintro ⟨e, he, hx⟩
    have := h.inn e he
    simp only [Prod.mk.injEq] at hx
    exact ⟨e, he, by omega, hx.2⟩
  · rintro ⟨e, he, h1, h2⟩
    exact ⟨e, he, by simp only [Prod.mk.injEq]; omega⟩
theorem plus_rch {g : G} (h : VG g) {a c : Nat} : Plus (fun u w => (u, w) ∈ natE g.es) a c ↔ ∃ w ∈ suc g.es a, Rch g.es w c := by
  constructor
  · intro hp
    induction hp with
    | one he => exact ⟨_, (mem_natE h).1 he, .refl _⟩
    | cons he _ ih =>
      obtain ⟨w, h1, h2⟩ := ih
      exact ⟨_, (mem_natE h).1 he, (Rch.one h1).trans h2⟩
  · rintro ⟨w, h1, h2⟩
    induction h2 with
    | refl => exact .one ((mem_natE h).2 h1)
    | step _ hc ih => exact ih.trans (.one ((mem_natE h).2 hc))
theorem cycB_iff {g : G} (h : VG g) {r v : Nat} (hv : v < g.n.toNat) : cycB g r v = true ↔ Plus (fun u w => (u, w) ∈ natE (leftG g r).es) v v := by
  have hl := leftG_ok h r
  unfold cycB
  rw [decide_eq_true_eq, distL_reach hl hv, mem_reachL hl, plus_rch hl]
  constructor
  · rintro ⟨x, hx, -, hr⟩
    obtain ⟨w, hw, rfl⟩ := List.mem_map.1 hx
    rw [Int.toNat_natCast] at hr
    exact ⟨w, hw, hr⟩
  · rintro ⟨w, hw, hr⟩
    exact ⟨(w : Int), List.mem_map.2 ⟨w, hw, rfl⟩, nodeB_nat (suc_node hl hw), by rw [Int.toNat_natCast]; exact hr⟩
theorem redB_iff {g : G} (h : VG g) {r : Nat} : redB g r = true ↔ ¬ ∃ c, Plus (fun u w => (u, w) ∈ natE (leftG g r).es) c c := by
  unfold redB
  rw [List.all_eq_true]
  constructor
  · rintro ha ⟨c, hc⟩
    have hcn : c < g.n.toNat := by
      obtain ⟨w, h1, -⟩ := (plus_rch (leftG_ok h r)).1 hc
      obtain ⟨e, he, h2, -⟩ := mem_suc.1 h1
      have := (leftG_ok h r).inn e he
      have h3 : (leftG g r).n = g.n := rfl
      omega
    have := ha c (List.mem_range.2 hcn)
    rw [(cycB_iff h hcn).2 hc] at this
    cases this
  · intro hno v hv
    rw [List.mem_range] at hv
    cases hc : cycB g r v
    · rfl
    · exact absurd ⟨v, (cycB_iff h hv).1 hc⟩ hno
/-- The counts and the rows of the edges among the first i. -/
def eK (g : G) (r i : Nat) : Ed := natE (leftE g r i)
def pendL (E : Ed) (n : Nat) : List Int := (List.range n).map fun w => ((cnt E [] w : Nat) : Int)
def nextL (E : Ed) (n : Nat) : List (List Int) := (List.range n).map fun u => (row E u).map fun x : Nat => (x : Int)
theorem pendL_len (E : Ed) (n : Nat) : (pendL E n).length = n := by simp [pendL]
theorem nextL_len (E : Ed) (n : Nat) : (nextL E n).length = n := by simp [nextL]
theorem pendL_nth {E : Ed} {n w : Nat} (h : w < n) : nth (pendL E n) w = ((cnt E [] w : Nat) : Int) := by
  unfold pendL; rw [nth_eq _ _ (by simpa using h)]; simp
theorem nextL_nth {E : Ed} {n u : Nat} (h : u < n) : nth (nextL E n) u = (row E u).map fun x : Nat => (x : Int) := by
  unfold nextL; rw [nth_eq _ _ (by simpa using h)]; simp
theorem cnt_nil (D : List Nat) (w : Nat) : cnt [] D w = 0 := rfl
theorem pendL_nil (n : Nat) : pendL [] n = List.replicate n 0 := nth_ext (by simp [pendL]) fun i hi => by
  rw [pendL_len] at hi
  rw [pendL_nth hi, nth_eq _ _ (by simpa using hi), List.getElem_replicate]; rfl
theorem nextL_nil (n : Nat) : nextL [] n = List.replicate n [] := nth_ext (by simp [nextL]) fun i hi => by
  rw [nextL_len] at hi
  rw [nextL_nth hi, nth_eq _ _ (by simpa using hi), List.getElem_replicate]; rfl
theorem pendL_add {E : Ed} {n u w : Nat} (hw : w < n) : pendL (E ++ [(u, w)]) n = (pendL E n).set w (nth (pendL E n) w + 1) := nth_ext (by rw [List.length_set, pendL_len, pendL_len]) fun i hi => by
  rw [pendL_len] at hi
  rw [pendL_nth hi, nth_set, pendL_len, pendL_nth hw, pendL_nth hi, Go.Kah.cnt_one]
  by_cases e : w = i
  · subst e; rw [if_pos ⟨rfl, by simp⟩, if_pos ⟨rfl, hw⟩]; omega
  · rw [if_neg (fun h => e h.1.symm), if_neg (fun h => e h.1)]; rfl
theorem nextL_add {E : Ed} {n u w : Nat} (hu : u < n) : nextL (E ++ [(u, w)]) n = (nextL E n).set u (nth (nextL E n) u ++ [(w : Int)]) := nth_ext (by rw [List.length_set, nextL_len, nextL_len]) fun i hi => by
  rw [nextL_len] at hi
  rw [nextL_nth hi, nth_set, nextL_len, nextL_nth hu, nextL_nth hi, Go.Kah.row_one]
  by_cases e : u = i
  · subst e; rw [if_pos rfl, if_pos ⟨rfl, hu⟩, List.map_append]; rfl
  · rw [if_neg (fun h => e h.symm), if_neg (fun h => e h.1)]; simp
theorem natE_snoc (es : List (Int × Int)) (a b : Nat) : natE (es ++ [((a : Int), (b : Int))]) = natE es ++ [(a, b)] := by
  unfold natE; rw [List.map_append]; simp
theorem natE_len (es : List (Int × Int)) : (natE es).length = es.length := by unfold natE; rw [List.length_map]
theorem cnt_len (E : Ed) (D : List Nat) (w : Nat) : cnt E D w ≤ E.length := List.length_filter_le _ _
theorem row_len (E : Ed) (u : Nat) : (row E u).length ≤ E.length := by unfold row; rw [List.length_map]; exact List.length_filter_le _ _
/-- How many reachable nodes there are below k, and those to which no edge leads. -/
def reaN (g : G) (r k : Nat) : Nat := ((List.range k).filter fun v => decide (v ∈ postL g r)).length
def freeL (g : G) (r k : Nat) : List Nat := (List.range k).filter fun v => decide (v ∈ postL g r) && decide (cnt (eK g r g.es.length) [] v = 0)
theorem reaN_yes {g : G} {r k : Nat} (h : k ∈ postL g r) : reaN g r (k + 1) = reaN g r k + 1 := by
  unfold reaN; rw [List.range_succ, List.filter_append, List.filter_cons_of_pos (by simpa using h), List.length_append]; rfl
theorem reaN_no {g : G} {r k : Nat} (h : ¬ k ∈ postL g r) : reaN g r (k + 1) = reaN g r k := by
  unfold reaN; rw [List.range_succ, List.filter_append, List.filter_cons_of_neg (by simpa using h)]; simp
theorem reaN_len (g : G) (r k : Nat) : reaN g r k ≤ k := Nat.le_trans (List.length_filter_le _ _) (by rw [List.length_range]; exact Nat.le_refl _)
theorem freeL_yes {g : G} {r k : Nat} (h : k ∈ postL g r) (h0 : cnt (eK g r g.es.length) [] k = 0) : freeL g r (k + 1) = freeL g r k ++ [k] := by
  unfold freeL; rw [List.range_succ, List.filter_append, List.filter_cons_of_pos (by simp [h, h0])]; rfl
theorem freeL_no {g : G} {r k : Nat} (h : ¬ k ∈ postL g r ∨ cnt (eK g r g.es.length) [] k ≠ 0) : freeL g r (k + 1) = freeL g r k := by
  unfold freeL; rw [List.range_succ, List.filter_append, List.filter_cons_of_neg (by rcases h with h | h <;> simp [h])]; simp
theorem freeL_len (g : G) (r k : Nat) : (freeL g r k).length ≤ k := Nat.le_trans (List.length_filter_le _ _) (by rw [List.length_range]; exact Nat.le_refl _)
theorem eK_mem {g : G} (h : VG g) {r : Nat} (hr : r < g.n.toNat) {u w : Nat} (he : (u, w) ∈ eK g r g.es.length) : (u ∈ postL g r ∧ u < g.n.toNat) ∧ w ∈ postL g r ∧ w < g.n.toNat := by
  obtain ⟨e, h1, h2⟩ := List.mem_map.1 he
  obtain ⟨h3, h4⟩ := List.mem_filter.1 h1
  rw [List.take_length] at h3
  simp only [Prod.mk.injEq] at h2
  unfold keepE at h4
  rw [Bool.and_eq_true, decide_eq_true_eq] at h4
  have h5 := h.inn e h3
  have hC := dmC_ok h hr
  have hu : u ∈ postL g r := by rw [← h2.1]; exact h4.1
  exact ⟨⟨hu, by omega⟩, hC.cl u w hu (mem_suc.2 ⟨e, h3, by omega, h2.2⟩), by omega⟩
theorem ki_start {g : G} {r : Nat} : KI (eK g r g.es.length) g.n.toNat (fun v => v ∈ postL g r) (freeL g r g.n.toNat) 0 0 (pendL (eK g r g.es.length) g.n.toNat) :=
  KI.start (pendL_len _ _) (List.nodup_range.filter _) (fun w hw => pendL_nth hw) fun w => by
    unfold freeL
    rw [List.mem_filter, List.mem_range, Bool.and_eq_true, decide_eq_true_eq, decide_eq_true_eq]
    constructor
    · rintro ⟨a, b, c⟩; exact ⟨b, a, by rw [pendL_nth a, c]; rfl⟩
    · rintro ⟨a, b, c⟩; rw [pendL_nth b] at c; exact ⟨b, a, by omega⟩
theorem ki_end {g : G} (h : VG g) {r : Nat} (hr : r < g.n.toNat) {o : List Nat} {P : List Int} (hk : KI (eK g r g.es.length) g.n.toNat (fun v => v ∈ postL g r) o o.length 0 P) : decide (o.length = reaN g r g.n.toNat) = redB g r := by
  rw [Bool.eq_iff_iff, decide_eq_true_eq, redB_iff h]
  have h1 := hk.all
  have h2 := hk.fin (fun u w he => ⟨(eK_mem h hr he).1.1, (eK_mem h hr he).1.2⟩)
  exact h1.trans h2
/-- All edges of what is listed. -/
theorem KI.olen {E : Ed} {n : Nat} {S : Nat → Prop} {o : List Nat} {i k : Nat} {P : List Int} (h : KI E n S o i k P) : o.length ≤ n ∧ ∀ x ∈ o, x < n := by
  have h1 : ∀ x ∈ o, x < n := fun x hx => ((h.mem x).1 hx).2.1
  have := Go.Kah.nodup_le o (List.range n) h.nd fun x hx => List.mem_range.2 (h1 x hx)
  rw [List.length_range] at this
  exact ⟨this, h1⟩
end Go.Gra
