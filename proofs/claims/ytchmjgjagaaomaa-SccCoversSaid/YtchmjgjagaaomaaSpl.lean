/- Plain: the edges between components, by their heads. -/
import Derived.Test.YtchmjgjagaaomaaSct
import Derived.Test.YtchmjgjagaaomaaGy
namespace Go.Spl
open Go.Dfl (nth nth_set nth_mem mem_nth nth_eq nth_ext nth_append take_snoc)
open Go.Kah (cnt row Ed)
def pendL (E : Ed) (n : Nat) : List Int := (List.range n).map fun w => ((cnt E [] w : Nat) : Int)
def nextL (E : Ed) (n : Nat) : List (List Int) := (List.range n).map fun u => (row E u).map fun x : Nat => (x : Int)
theorem pendL_len (E : Ed) (n : Nat) : (pendL E n).length = n := by simp [pendL]
theorem nextL_len (E : Ed) (n : Nat) : (nextL E n).length = n := by simp [nextL]
theorem pendL_nth {E : Ed} {n w : Nat} (h : w < n) : nth (pendL E n) w = ((cnt E [] w : Nat) : Int) := by
  unfold pendL; rw [nth_eq _ _ (by simpa using h)]; simp
theorem nextL_nth {E : Ed} {n u : Nat} (h : u < n) : nth (nextL E n) u = (row E u).map fun x : Nat => (x : Int) := by
  unfold nextL; rw [nth_eq _ _ (by simpa using h)]; simp
theorem cnt_nil (D : List Nat) (w : Nat) : cnt [] D w = 0 := rfl
theorem pendL_nil (n : Nat) : pendL [] n = List.replicate n 0 := nth_ext (by simp [pendL]) fun i hi => by
  rw [pendL_len] at hi
  rw [pendL_nth hi, nth_eq _ _ (by simpa using hi), List.getElem_replicate]; rfl
theorem nextL_nil (n : Nat) : nextL [] n = List.replicate n [] := nth_ext (by simp [nextL]) fun i hi => by
  rw [nextL_len] at hi
  rw [nextL_nth hi, nth_eq _ _ (by simpa using hi), List.getElem_replicate]; rfl
theorem pendL_add {E : Ed} {n u w : Nat} (hw : w < n) : pendL (E ++ [(u, w)]) n = (pendL E n).set w (nth (pendL E n) w + 1) := nth_ext (by rw [List.length_set, pendL_len, pendL_len]) fun i hi => by
  rw [pendL_len] at hi
  rw [pendL_nth hi, nth_set, pendL_len, pendL_nth hw, pendL_nth hi, Go.Kah.cnt_one]
  by_cases e : w = i
  · subst e; rw [if_pos ⟨rfl, by simp⟩, if_pos ⟨rfl, hw⟩]; omega
  · rw [if_neg (fun h => e h.1.symm), if_neg (fun h => e h.1)]; rfl
theorem nextL_add {E : Ed} {n u w : Nat} (hu : u < n) : nextL (E ++ [(u, w)]) n = (nextL E n).set u (nth (nextL E n) u ++ [(w : Int)]) := nth_ext (by rw [List.length_set, nextL_len, nextL_len]) fun i hi => by
  rw [nextL_len] at hi
  rw [nextL_nth hi, nth_set, nextL_len, nextL_nth hu, nextL_nth hi, Go.Kah.row_one]
  by_cases e : u = i
  · subst e; rw [if_pos rfl, if_pos ⟨rfl, hu⟩, List.map_append]; rfl
  · rw [if_neg (fun h => e h.symm), if_neg (fun h => e h.1)]; simp
end Go.Spl
namespace Go.Proofs.Ytchmjgjagaaomaa
open Go.RowKit Go.Dfl Go.Gra Go.Tj
open Go.Kah (cnt row Ed Plus)
/-- The head of a node, as a number. -/
def hdN (l : List Int) (v : Int) : Nat := (nth l v.toNat).toNat
/-- The edges between heads, turned round, of the first k edges. -/
def qE (g : G) (l : List Int) (k : Nat) : Ed := ((g.es.take k).filter fun e => decide (hdN l e.1 ≠ hdN l e.2)).map fun e => (hdN l e.2, hdN l e.1)
theorem qE_yes {g : G} {l : List Int} {k : Nat} (hk : k < g.es.length) (h : hdN l (nth g.es k).1 ≠ hdN l (nth g.es k).2) : qE g l (k + 1) = qE g l k ++ [(hdN l (nth g.es k).2, hdN l (nth g.es k).1)] := by
  unfold qE
  rw [take_snoc _ _ hk, List.filter_append, List.map_append]
  simp [h]
theorem qE_no {g : G} {l : List Int} {k : Nat} (hk : k < g.es.length) (h : hdN l (nth g.es k).1 = hdN l (nth g.es k).2) : qE g l (k + 1) = qE g l k := by
  unfold qE
  rw [take_snoc _ _ hk, List.filter_append, List.map_append]
  simp [h]
section
variable {g : G} {l : List Int}
theorem HdsAre.hd (h : HdsAre g l) {v : Nat} (hv : v < g.n.toNat) : nth l v = (hdN l (v : Int) : Nat) ∧ IsHd (eG g) v (hdN l (v : Int)) := by
  obtain ⟨m, h1, h2⟩ := h.2 v hv
  have : hdN l (v : Int) = m := by unfold hdN; rw [Int.toNat_natCast, h1]; rfl
  rw [this]; exact ⟨h1, h2⟩
/-- Who reaches a node is a node. -/
theorem rt_lt {a b : Nat} (hvg : VG g) (h : Rt (eG g) a b) (ha : a < g.n.toNat) : b < g.n.toNat := h.closed (P := fun x => x < g.n.toNat) (fun x y _ hy => by
  obtain ⟨e, he, -, h2⟩ := mem_suc.1 hy.2
  have := (hvg.inn e he).2
  omega) ha
theorem HdsAre.lt (h : HdsAre g l) (hvg : VG g) {v : Nat} (hv : v < g.n.toNat) : hdN l (v : Int) < g.n.toNat := rt_lt hvg (h.hd hv).2.1.1 hv
/-- A head is its own. -/
theorem HdsAre.self (h : HdsAre g l) (hvg : VG g) {v : Nat} (hv : v < g.n.toNat) : hdN l (hdN l (v : Int) : Int) = hdN l (v : Int) :=
  (h.hd (h.lt hvg hv)).2.unique ((h.hd hv).2.congr (h.hd hv).2.1)
theorem mem_qE {k a b : Nat} (hm : (b, a) ∈ qE g l k) : ∃ e ∈ g.es, hdN l e.1 = a ∧ hdN l e.2 = b ∧ a ≠ b := by
  unfold qE at hm
  obtain ⟨e, he, h2⟩ := List.mem_map.1 hm
  rw [List.mem_filter, decide_eq_true_eq] at he
  simp only [Prod.mk.injEq] at h2
  exact ⟨e, List.mem_of_mem_take he.1, h2.2, h2.1, by rw [← h2.1, ← h2.2]; exact he.2⟩
theorem eG_rt (h : HdsAre g l) (hvg : VG g) {k a b : Nat} (hm : (b, a) ∈ qE g l k) : Rt (eG g) a b ∧ a ≠ b ∧ a < g.n.toNat ∧ b < g.n.toNat ∧ hdN l (a : Int) = a ∧ hdN l (b : Int) = b := by
  obtain ⟨⟨x, y⟩, he, h1, h2, hne⟩ := mem_qE hm
  obtain ⟨⟨x0, x1⟩, y0, y1⟩ := hvg.inn _ he
  dsimp only at h1 h2 x0 x1 y0 y1
  obtain ⟨x, rfl⟩ : ∃ z : Nat, x = (z : Int) := ⟨x.toNat, by omega⟩
  obtain ⟨y, rfl⟩ : ∃ z : Nat, y = (z : Int) := ⟨y.toNat, by omega⟩
  have hx : x < g.n.toNat := by omega
  have hy : y < g.n.toNat := by omega
  have hE : eG g x y := ⟨hx, mem_suc.2 ⟨_, he, rfl, rfl⟩⟩
  have kx := (h.hd hx).2
  have ky := (h.hd hy).2
  have sx := h.self hvg hx
  have sy := h.self hvg hy
  have lx := h.lt hvg hx
  have ly := h.lt hvg hy
  rw [h1] at kx sx lx
  rw [h2] at ky sy ly
  exact ⟨(kx.1.2.trans (Rt.one hE)).trans ky.1.1, hne, lx, ly, sx, sy⟩
theorem plus_rt (h : HdsAre g l) (hvg : VG g) {k a b : Nat} (hp : Plus (fun b a => (b, a) ∈ qE g l k) b a) : Rt (eG g) a b := by
  induction hp with
  | one h1 => exact (eG_rt h hvg h1).1
  | cons h1 _ ih => exact ih.trans (eG_rt h hvg h1).1
/-- Between heads there is no cycle. -/
theorem qE_acyclic (h : HdsAre g l) (hvg : VG g) (k c : Nat) : ¬ Plus (fun b a => (b, a) ∈ qE g l k) c c := fun hp => by
  have key : ∀ a, (c, a) ∈ qE g l k → Rt (eG g) c a → False := fun a hm hr => by
    obtain ⟨h1, hne, ha, hc, sa, sc⟩ := eG_rt h hvg hm
    have e1 := (h.hd ha).2
    have e2 := (h.hd hc).2
    rw [sa] at e1
    rw [sc] at e2
    exact hne (e1.unique (e2.congr ⟨hr, h1⟩))
  cases hp with
  | one h1 => exact key c h1 (.refl c)
  | cons h1 h2 => exact key _ h1 (plus_rt h hvg h2)
end
/-- The order of the components, by their heads. -/
def OrdIs (g : G) (l : List Int) (L : List Nat) : Prop := Go.Kah.Whole (qE g l g.es.length) g.n.toNat (fun v => hdN l (v : Int) = v) L
/-- The members of the component whose head is h, of the nodes below k. -/
def compK (l : List Int) (h k : Nat) : List Int := castL ((List.range k).filter fun v => decide (hdN l (v : Int) = h))
/-- What split gives. -/
structure PartsAre (g : G) (ls : List (List Int)) (of : List Int) : Prop where
  ex : ∃ l L, HdsAre g l ∧ OrdIs g l L ∧ ls = L.map (fun h => compK l h g.n.toNat) ∧ of.length = g.n.toNat ∧ ∀ v, v < g.n.toNat → ∃ i : Nat, nth of v = (i : Int) ∧ i < L.length ∧ nth L i = hdN l (v : Int)
theorem PartsAre.unique {g : G} {ls ls2 : List (List Int)} {of of2 : List Int} (h : PartsAre g ls of) (k : PartsAre g ls2 of2) : ls = ls2 ∧ of = of2 := by
  obtain ⟨l, L, h1, h2, rfl, h4, h5⟩ := h.ex
  obtain ⟨l2, L2, k1, k2, rfl, k4, k5⟩ := k.ex
  obtain rfl := h1.unique k1
  obtain rfl := h2.unique k2
  refine ⟨rfl, nth_ext (h4.trans k4.symm) fun v hv => ?_⟩
  obtain ⟨i, i1, i2, i3⟩ := h5 v (by omega)
  obtain ⟨j, j1, j2, j3⟩ := k5 v (by omega)
  rw [i1, j1]
  have := (List.getElem_inj h2.nd (i := i) (j := j) (h₀ := i2) (h₁ := j2)).1 (by rw [← nth_eq _ _ i2, ← nth_eq _ _ j2, i3, j3])
  rw [this]
theorem qE_inn {g : G} {l : List Int} (h : HdsAre g l) (hvg : VG g) (k : Nat) : ∀ b a, (b, a) ∈ qE g l k → (hdN l (b : Int) = b ∧ b < g.n.toNat) ∧ hdN l (a : Int) = a ∧ a < g.n.toNat := fun b a hm => by
  obtain ⟨-, -, ha, hb, sa, sb⟩ := eG_rt h hvg hm
  exact ⟨⟨sb, hb⟩, sa, ha⟩
theorem qE_len (g : G) (l : List Int) (k : Nat) : (qE g l k).length ≤ g.es.length := by
  unfold qE
  rw [List.length_map]
  exact Nat.le_trans (List.length_filter_le _ _) (by rw [List.length_take]; omega)
theorem cnt_le (E : Ed) (D : List Nat) (w : Nat) : cnt E D w ≤ E.length := List.length_filter_le _ _
theorem row_le (E : Ed) (u : Nat) : (row E u).length ≤ E.length := by unfold row; rw [List.length_map]; exact List.length_filter_le _ _
/-- The heads below k to which no edge leads. -/
def rdyK (g : G) (l : List Int) (k : Nat) : List Nat := (List.range k).filter fun v => decide (hdN l (v : Int) = v) && decide (cnt (qE g l g.es.length) [] v = 0)
theorem rdy_yes {g : G} {l : List Int} {k : Nat} (h1 : hdN l (k : Int) = k) (h2 : cnt (qE g l g.es.length) [] k = 0) : rdyK g l (k + 1) = rdyK g l k ++ [k] := by
  unfold rdyK; rw [List.range_succ, List.filter_append]; simp [h1, h2]
theorem rdy_no {g : G} {l : List Int} {k : Nat} (h : ¬ (hdN l (k : Int) = k ∧ cnt (qE g l g.es.length) [] k = 0)) : rdyK g l (k + 1) = rdyK g l k := by
  unfold rdyK; rw [List.range_succ, List.filter_append]
  have : (decide (hdN l (k : Int) = k) && decide (cnt (qE g l g.es.length) [] k = 0)) = false := by
    rw [Bool.and_eq_false_iff, decide_eq_false_iff_not, decide_eq_false_iff_not]; exact Classical.not_and_iff_not_or_not.1 h
  simp [this]
theorem rdy_nd (g : G) (l : List Int) (k : Nat) : (rdyK g l k).Nodup := List.nodup_range.filter _
theorem mem_rdy {g : G} {l : List Int} {k v : Nat} : v ∈ rdyK g l k ↔ v < k ∧ hdN l (v : Int) = v ∧ cnt (qE g l g.es.length) [] v = 0 := by
  unfold rdyK; rw [List.mem_filter, List.mem_range, Bool.and_eq_true, decide_eq_true_eq, decide_eq_true_eq]
theorem rdy_start {g : G} {l : List Int} {R : List Nat} (hR : R.Perm (rdyK g l g.n.toNat)) : Go.Kah.HB (qE g l g.es.length) g.n.toNat (fun v => hdN l (v : Int) = v) [] R (Go.Spl.pendL (qE g l g.es.length) g.n.toNat) :=
  .start (Go.Spl.pendL_len _ _) (hR.nodup_iff.2 (rdy_nd _ _ _)) (fun w hw => Go.Spl.pendL_nth hw) fun w => by
    rw [hR.mem_iff, mem_rdy]
    constructor
    · rintro ⟨h1, h2, h3⟩; exact ⟨h2, h1, by rw [Go.Spl.pendL_nth h1, h3]; rfl⟩
    · rintro ⟨h1, h2, h3⟩; rw [Go.Spl.pendL_nth h2] at h3; exact ⟨h2, h1, by omega⟩
end Go.Proofs.Ytchmjgjagaaomaa
