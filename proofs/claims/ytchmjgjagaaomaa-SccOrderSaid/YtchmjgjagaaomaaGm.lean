/- Plain: the edges between components, by their heads. -/
import Derived.Test.YtchmjgjagaaomaaSct
import Derived.Test.YtchmjgjagaaomaaGy
import Derived.Test.YtchmjgjagaaomaaScp
import Derived.Test.YtchmjgjagaaomaaGh
namespace Go.Spl
open Go.Dfl (nth nth_set nth_mem mem_nth nth_eq nth_ext nth_append take_snoc)
open Go.Kah (cnt row Ed)
def pendL (E : Ed) (n : Nat) : List Int := (List.range n).map fun w => ((cnt E [] w : Nat) : Int)
def nextL (E : Ed) (n : Nat) : List (List Int) := (List.range n).map fun u => (row E u).map fun x : Nat => (x : Int)
theorem pendL_len (E : Ed) (n : Nat) : (pendL E n).length = n := by simp [pendL]
theorem nextL_len (E : Ed) (n : Nat) : (nextL E n).length = n := by simp [nextL]
theorem pendL_nth {E : Ed} {n w : Nat} (h : w < n) : nth (pendL E n) w = ((cnt E [] w : Nat) : Int) := by
  unfold pendL; rw [nth_eq _ _ (by simpa using h)]; simp
theorem nextL_nth {E : Ed} {n u : Nat} (h : u < n) : nth (nextL E n) u = (row E u).map fun x : Nat => (x : Int) := by
  unfold nextL; rw [nth_eq _ _ (by simpa using h)]; simp
theorem cnt_nil (D : List Nat) (w : Nat) : cnt [] D w = 0 := rfl
theorem pendL_nil (n : Nat) : pendL [] n = List.replicate n 0 := nth_ext (by simp [pendL]) fun i hi => by
  rw [pendL_len] at hi
  rw [pendL_nth hi, nth_eq _ _ (by simpa using hi), List.getElem_replicate]; rfl
theorem nextL_nil (n : Nat) : nextL [] n = List.replicate n [] := nth_ext (by simp [nextL]) fun i hi => by
  rw [nextL_len] at hi
  rw [nextL_nth hi, nth_eq _ _ (by simpa using hi), List.getElem_replicate]; rfl
theorem pendL_add {E : Ed} {n u w : Nat} (hw : w < n) : pendL (E ++ [(u, w)]) n = (pendL E n).set w (nth (pendL E n) w + 1) := nth_ext (by rw [List.length_set, pendL_len, pendL_len]) fun i hi => by
  rw [pendL_len] at hi
  rw [pendL_nth hi, nth_set, pendL_len, pendL_nth hw, pendL_nth hi, Go.Kah.cnt_one]
  by_cases e : w = i
  · subst e; rw [if_pos ⟨rfl, by simp⟩, if_pos ⟨rfl, hw⟩]; omega
  · rw [if_neg (fun h => e h.1.symm), if_neg (fun h => e h.1)]; rfl
theorem nextL_add {E : Ed} {n u w : Nat} (hu : u < n) : nextL (E ++ [(u, w)]) n = (nextL E n).set u (nth (nextL E n) u ++ [(w : Int)]) := nth_ext (by rw [List.length_set, nextL_len, nextL_len]) fun i hi => by
  rw [nextL_len] at hi
  rw [nextL_nth hi, nth_set, nextL_len, nextL_nth hu, nextL_nth hi, Go.Kah.row_one]
  by_cases e : u = i
  · subst e; rw [if_pos rfl, if_pos ⟨rfl, hu⟩, List.map_append]; rfl
  · rw [if_neg (fun h => e h.symm), if_neg (fun h => e h.1)]; simp
end Go.Spl
namespace Go.Proofs.Ytchmjgjagaaomaa
open Go.RowKit Go.Dfl Go.Gra Go.Tj
open Go.Kah (cnt row Ed Plus)
/-- The head of a node, as a number. -/
def hdN (l : List Int) (v : Int) : Nat := (nth l v.toNat).toNat
/-- The edges between heads, turned round, of the first k edges. -/
def qE (g : G) (l : List Int) (k : Nat) : Ed := ((g.es.take k).filter fun e => decide (hdN l e.1 ≠ hdN l e.2)).map fun e => (hdN l e.2, hdN l e.1)
theorem qE_yes {g : G} {l : List Int} {k : Nat} (hk : k < g.es.length) (h : hdN l (nth g.es k).1 ≠ hdN l (nth g.es k).2) : qE g l (k + 1) = qE g l k ++ [(hdN l (nth g.es k).2, hdN l (nth g.es k).1)] := by
  unfold qE
  rw [take_snoc _ _ hk, List.filter_append, List.map_append]
  simp [h]
theorem qE_no {g : G} {l : List Int} {k : Nat} (hk : k < g.es.length) (h : hdN l (nth g.es k).1 = hdN l (nth g.es k).2) : qE g l (k + 1) = qE g l k := by
  unfold qE
  rw [take_snoc _ _ hk, List.filter_append, List.map_append]
  simp [h]
section
variable {g : G} {l : List Int}
theorem HdsAre.hd (h : HdsAre g l) {v : Nat} (hv : v < g.n.toNat) : nth l v = (hdN l (v : Int) : Nat) ∧ IsHd (eG g) v (hdN l (v : Int)) := by
  obtain ⟨m, h1, h2⟩ := h.2 v hv
  have : hdN l (v : Int) = m := by unfold hdN; rw [Int.toNat_natCast, h1]; rfl
  rw [this]; exact ⟨h1, h2⟩
/-- Who reaches a node is a node. -/
theorem rt_lt {a b : Nat} (hvg : VG g) (h : Rt (eG g) a b) (ha : a < g.n.toNat) : b < g.n.toNat := h.closed (P := fun x => x < g.n.toNat) (fun x y _ hy => by
  obtain ⟨e, he, -, h2⟩ := mem_suc.1 hy.2
  have := (hvg.inn e he).2
  omega) ha
theorem HdsAre.lt (h : HdsAre g l) (hvg : VG g) {v : Nat} (hv : v < g.n.toNat) : hdN l (v : Int) < g.n.toNat := rt_lt hvg (h.hd hv).2.1.1 hv
/-- A head is its own. -/
theorem HdsAre.self (h : HdsAre g l) (hvg : VG g) {v : Nat} (hv : v < g.n.toNat) : hdN l (hdN l (v : Int) : Int) = hdN l (v : Int) :=
  (h.hd (h.lt hvg hv)).2.unique ((h.hd hv).2.congr (h.hd hv).2.1)
theorem mem_qE {k a b : Nat} (hm : (b, a) ∈ qE g l k) : ∃ e ∈ g.es, hdN l e.1 = a ∧ hdN l e.2 = b ∧ a ≠ b := by
  unfold qE at hm
  obtain ⟨e, he, h2⟩ := List.mem_map.1 hm
  rw [List.mem_filter, decide_eq_true_eq] at he
  simp only [Prod.mk.injEq] at h2
  exact ⟨e, List.mem_of_mem_take he.1, h2.2, h2.1, by rw [← h2.1, ← h2.2]; exact he.2⟩
theorem eG_rt (h : HdsAre g l) (hvg : VG g) {k a b : Nat} (hm : (b, a) ∈ qE g l k) : Rt (eG g) a b ∧ a ≠ b ∧ a < g.n.toNat ∧ b < g.n.toNat ∧ hdN l (a : Int) = a ∧ hdN l (b : Int) = b := by
  obtain ⟨⟨x, y⟩, he, h1, h2, hne⟩ := mem_qE hm
  obtain ⟨⟨x0, x1⟩, y0, y1⟩ := hvg.inn _ he
  dsimp only at h1 h2 x0 x1 y0 y1
  obtain ⟨x, rfl⟩ : ∃ z : Nat, x = (z : Int) := ⟨x.toNat, by omega⟩
  obtain ⟨y, rfl⟩ : ∃ z : Nat, y = (z : Int) := ⟨y.toNat, by omega⟩
  have hx : x < g.n.toNat := by omega
  have hy : y < g.n.toNat := by omega
  have hE : eG g x y := ⟨hx, mem_suc.2 ⟨_, he, rfl, rfl⟩⟩
  have kx := (h.hd hx).2
  have ky := (h.hd hy).2
  have sx := h.self hvg hx
  have sy := h.self hvg hy
  have lx := h.lt hvg hx
  have ly := h.lt hvg hy
  rw [h1] at kx sx lx
  rw [h2] at ky sy ly
  exact ⟨(kx.1.2.trans (Rt.one hE)).trans ky.1.1, hne, lx, ly, sx, sy⟩
theorem plus_rt (h : HdsAre g l) (hvg : VG g) {k a b : Nat} (hp : Plus (fun b a => (b, a) ∈ qE g l k) b a) : Rt (eG g) a b := by
  induction hp with
  | one h1 => exact (eG_rt h hvg h1).1
  | cons h1 _ ih => exact ih.trans (eG_rt h hvg h1).1
/-- Between heads there is no cycle. -/
theorem qE_acyclic (h : HdsAre g l) (hvg : VG g) (k c : Nat) : ¬ Plus (fun b a => (b, a) ∈ qE g l k) c c := fun hp => by
  have key : ∀ a, (c, a) ∈ qE g l k → Rt (eG g) c a → False := fun a hm hr => by
    obtain ⟨h1, hne, ha, hc, sa, sc⟩ := eG_rt h hvg hm
    have e1 := (h.hd ha).2
    have e2 := (h.hd hc).2
    rw [sa] at e1
    rw [sc] at e2
    exact hne (e1.unique (e2.congr ⟨hr, h1⟩))
  cases hp with
  | one h1 => exact key c h1 (.refl c)
  | cons h1 h2 => exact key _ h1 (plus_rt h hvg h2)
end
/-- The order of the components, by their heads. -/
def OrdIs (g : G) (l : List Int) (L : List Nat) : Prop := Go.Kah.Whole (qE g l g.es.length) g.n.toNat (fun v => hdN l (v : Int) = v) L
/-- The members of the component whose head is h, of the nodes below k. -/
def compK (l : List Int) (h k : Nat) : List Int := castL ((List.range k).filter fun v => decide (hdN l (v : Int) = h))
/-- What split gives. -/
structure PartsAre (g : G) (ls : List (List Int)) (of : List Int) : Prop where
  ex : ∃ l L, HdsAre g l ∧ OrdIs g l L ∧ ls = L.map (fun h => compK l h g.n.toNat) ∧ of.length = g.n.toNat ∧ ∀ v, v < g.n.toNat → ∃ i : Nat, nth of v = (i : Int) ∧ i < L.length ∧ nth L i = hdN l (v : Int)
theorem PartsAre.unique {g : G} {ls ls2 : List (List Int)} {of of2 : List Int} (h : PartsAre g ls of) (k : PartsAre g ls2 of2) : ls = ls2 ∧ of = of2 := by
  obtain ⟨l, L, h1, h2, rfl, h4, h5⟩ := h.ex
  obtain ⟨l2, L2, k1, k2, rfl, k4, k5⟩ := k.ex
  obtain rfl := h1.unique k1
  obtain rfl := h2.unique k2
  refine ⟨rfl, nth_ext (h4.trans k4.symm) fun v hv => ?_⟩
  obtain ⟨i, i1, i2, i3⟩ := h5 v (by omega)
  obtain ⟨j, j1, j2, j3⟩ := k5 v (by omega)
  rw [i1, j1]
  have := (List.getElem_inj h2.nd (i := i) (j := j) (h₀ := i2) (h₁ := j2)).1 (by rw [← nth_eq _ _ i2, ← nth_eq _ _ j2, i3, j3])
  rw [this]
theorem qE_inn {g : G} {l : List Int} (h : HdsAre g l) (hvg : VG g) (k : Nat) : ∀ b a, (b, a) ∈ qE g l k → (hdN l (b : Int) = b ∧ b < g.n.toNat) ∧ hdN l (a : Int) = a ∧ a < g.n.toNat := fun b a hm => by
  obtain ⟨-, -, ha, hb, sa, sb⟩ := eG_rt h hvg hm
  exact ⟨⟨sb, hb⟩, sa, ha⟩
theorem qE_len (g : G) (l : List Int) (k : Nat) : (qE g l k).length ≤ g.es.length := by
  unfold qE
  rw [List.length_map]
  exact Nat.le_trans (List.length_filter_le _ _) (by rw [List.length_take]; omega)
theorem cnt_le (E : Ed) (D : List Nat) (w : Nat) : cnt E D w ≤ E.length := List.length_filter_le _ _
theorem row_le (E : Ed) (u : Nat) : (row E u).length ≤ E.length := by unfold row; rw [List.length_map]; exact List.length_filter_le _ _
/-- The heads below k to which no edge leads. -/
def rdyK (g : G) (l : List Int) (k : Nat) : List Nat := (List.range k).filter fun v => decide (hdN l (v : Int) = v) && decide (cnt (qE g l g.es.length) [] v = 0)
theorem rdy_yes {g : G} {l : List Int} {k : Nat} (h1 : hdN l (k : Int) = k) (h2 : cnt (qE g l g.es.length) [] k = 0) : rdyK g l (k + 1) = rdyK g l k ++ [k] := by
  unfold rdyK; rw [List.range_succ, List.filter_append]; simp [h1, h2]
theorem rdy_no {g : G} {l : List Int} {k : Nat} (h : ¬ (hdN l (k : Int) = k ∧ cnt (qE g l g.es.length) [] k = 0)) : rdyK g l (k + 1) = rdyK g l k := by
  unfold rdyK; rw [List.range_succ, List.filter_append]
  have : (decide (hdN l (k : Int) = k) && decide (cnt (qE g l g.es.length) [] k = 0)) = false := by
    rw [Bool.and_eq_false_iff, decide_eq_false_iff_not, decide_eq_false_iff_not]; exact Classical.not_and_iff_not_or_not.1 h
  simp [this]
theorem rdy_nd (g : G) (l : List Int) (k : Nat) : (rdyK g l k).Nodup := List.nodup_range.filter _
theorem mem_rdy {g : G} {l : List Int} {k v : Nat} : v ∈ rdyK g l k ↔ v < k ∧ hdN l (v : Int) = v ∧ cnt (qE g l g.es.length) [] v = 0 := by
  unfold rdyK; rw [List.mem_filter, List.mem_range, Bool.and_eq_true, decide_eq_true_eq, decide_eq_true_eq]
theorem rdy_start {g : G} {l : List Int} {R : List Nat} (hR : R.Perm (rdyK g l g.n.toNat)) : Go.Kah.HB (qE g l g.es.length) g.n.toNat (fun v => hdN l (v : Int) = v) [] R (Go.Spl.pendL (qE g l g.es.length) g.n.toNat) :=
  .start (Go.Spl.pendL_len _ _) (hR.nodup_iff.2 (rdy_nd _ _ _)) (fun w hw => Go.Spl.pendL_nth hw) fun w => by
    rw [hR.mem_iff, mem_rdy]
    constructor
    · rintro ⟨h1, h2, h3⟩; exact ⟨h2, h1, by rw [Go.Spl.pendL_nth h1, h3]; rfl⟩
    · rintro ⟨h1, h2, h3⟩; rw [Go.Spl.pendL_nth h2] at h3; exact ⟨h2, h1, by omega⟩
end Go.Proofs.Ytchmjgjagaaomaa

/- Memory of split: what is kept when the heap works. -/
namespace Go.Dfl
open Go.RowKit
theorem Own.same {α : Type} {f : α → Value} {w w' : World} {base : Nat} {e : TypeId} {v : Value} {l : List α} (h : Own f w base e v l) (hk : ∀ q, v.ownBlock = some q → w'.heap[q]? = w.heap[q]?) : Own f w' base e v l := by
  obtain ⟨h1, h2 | ⟨g, cap, cur, rfl, hg, hh, r⟩⟩ := h
  · exact ⟨h1, .inl h2⟩
  · exact ⟨h1, .inr ⟨g, cap, cur, rfl, hg, (hk g rfl).trans hh, r⟩⟩
end Go.Dfl
namespace Go.Proofs.Ytchmjgjagaaomaa
open Go.RowKit Go.Dfl Go.Gra Go.Tj
theorem HpV.wider {keep keep' : Nat → Prop} {bq B n c : Nat} {s : Option Addr} {l : List Nat} {W : World} (h : HpV keep bq B s n c l W) (hk : ∀ q, keep' q → q ≠ bq ∧ (Value.slice s n c).ownBlock ≠ some q ∧ q < W.heap.size) : HpV keep' bq B s n c l W :=
  ⟨h.cell, h.own, h.len, h.frz, h.nb, fun e => (hk _ e).1 rfl, fun q hq e => (hk q e).2.1 hq, fun q hq => (hk q hq).2.2, h.top⟩
theorem HpO.wider {keep keep' : Nat → Prop} {bq B : Nat} {l : List Nat} {W : World} (h : HpO keep bq B l W) (hk : ∀ s n c, HpV keep bq B s n c l W → ∀ q, keep' q → q ≠ bq ∧ (Value.slice s n c).ownBlock ≠ some q ∧ q < W.heap.size) : HpO keep' bq B l W := by
  obtain ⟨⟨s, n, c, hv⟩, hh⟩ := h
  exact ⟨⟨s, n, c, hv.wider (hk s n c hv)⟩, hh⟩
theorem HpO.below {keep : Nat → Prop} {bq B : Nat} {l : List Nat} {W W' : World} (h : HpO keep bq B l W) (hb : Below W.heap.size W W') : HpO keep bq B l W' ∧ HpF keep W W' := by
  obtain ⟨⟨s, n, c, hv⟩, hh⟩ := h
  have := hv.below hb
  exact ⟨⟨⟨s, n, c, this.1⟩, hh⟩, this.2⟩
/-- A store into a block that the heap keeps. -/
theorem HpO.setCell {keep : Nat → Prop} {bq B : Nat} {l : List Nat} {W : World} (h : HpO keep bq B l W) {p : Addr} (hp : keep p.block) (u : Value) : HpO keep bq B l (W.setCell p u) := by
  obtain ⟨⟨s, n, c, hv⟩, hh⟩ := h
  refine ⟨⟨s, n, c, ?_, hv.own.setOther (fun e => hv.rk _ e hp) u, hv.len, by rw [World.frozen?_setCell]; exact hv.frz, hv.nb, hv.nk, hv.rk, fun q hq => by rw [World.size_setCell]; exact hv.kb q hq, by rw [World.size_setCell]; exact hv.top⟩, hh⟩
  rw [World.cell?_setCell_other _ _ _ _ (by intro e; first | exact hv.nk (by have e9 := congrArg Addr.block e; simp only at e9; rw [e9]; exact hp) | exact hv.nk (by have e9 := congrArg Addr.block e; simp only at e9; rw [← e9]; exact hp))]
  exact hv.cell
/-- What an own row keeps under a heap operation. -/
theorem own_hpf {keep : Nat → Prop} {W W' : World} (hf : HpF keep W W') {base : Nat} {e : TypeId} {v : Value} {l : List Int} (h : OwnI W base e v l) (hk : ∀ q, v.ownBlock = some q → keep q) : OwnI W' base e v l := h.same fun q hq => hf.blk q (hk q hq)
theorem HpF.below {keep : Nat → Prop} {W W' W3 : World} (hf : HpF keep W W') {A : Nat} (hb : Below A W3 W) (hk : ∀ q, q < A → keep q) : Below A W3 W' :=
  ⟨hf.os.trans hb.os, hf.tape.trans hb.tape, hf.out.trans hb.output, Nat.le_trans hb.size hf.size, fun q hq => (hf.blk q (hk q hq)).trans (hb.block q hq)⟩
theorem ownN_same {w w' : World} {base : Nat} {eo : TypeId} {v : Value} {vs : List Value} {ll : List (List Int)} (h : OwnN IIg w base eo v vs ll) (hk : ∀ q, Foot v vs q → w'.heap[q]? = w.heap[q]?) : OwnN IIg w' base eo v vs ll :=
  ⟨h.out.same fun q e => hk q (.inl e), h.len, fun i hi => Go.Dfl.Own.same (h.inn i hi) fun q e => hk q (.inr ⟨i, by rw [h.len]; exact hi, e⟩), h.sep, h.apart⟩
/-- What the counts and the rows keep under a heap operation. -/
theorem KhP.hpf {keep : Nat → Prop} {W3 W W' : World} {B4 n pc nc : Nat} {ps ns : Option Addr} {P : List Int} {vs : List Value} {ll : List (List Int)} (h : KhP W3 B4 n pc nc ps ns P vs ll W) (hf : HpF keep W W') (h3 : ∀ q, q < W3.heap.size → keep q) (hp : ∀ q, (Value.slice ps n pc).ownBlock = some q → keep q) (hr : ∀ q, Foot (.slice ns n nc) vs q → keep q) : KhP W3 B4 n pc nc ps ns P vs ll W' :=
  ⟨own_hpf hf h.pend hp, h.plen, h.pb, ownN_same h.rows fun q hq => hf.blk q (hr q hq), h.llen, hf.below h.bel h3, h.siz⟩
/-- An empty row, just laid, and the box that holds it. -/
theorem hpO_new {keep : Nat → Prop} (W : World) (hk : ∀ q, keep q → q < W.heap.size) :
    HpO keep (W.heap.size + 1) W.heap.size [] ((W.alloc (.cells #[] 3)).alloc (.cells #[.slice (some ⟨W.heap.size, 0, none⟩) 0 0] 64)) := by
  have z1 : (W.alloc (.cells #[] 3)).heap.size = W.heap.size + 1 := World.size_alloc _ _
  have g2 := grownBy_alloc (W.alloc (.cells #[] 3)) (.cells #[.slice (some ⟨W.heap.size, 0, none⟩) 0 0] 64)
  have c1 := cell_alloc1 (W.alloc (.cells #[] 3)) (.slice (some ⟨W.heap.size, 0, none⟩) 0 0) 64
  have f1 := frozen_alloc1 (W.alloc (.cells #[] 3)) (.slice (some ⟨W.heap.size, 0, none⟩) 0 0) 64
  rw [z1] at c1 f1
  have ho : OwnI (W.alloc (.cells #[] 3)) W.heap.size 3 (.slice (some ⟨W.heap.size, 0, none⟩) 0 0) (castL []) :=
    ⟨by simp [castL], .inr ⟨W.heap.size, 0, #[], rfl, Nat.le_refl _, (by show (W.heap.push _)[W.heap.size]? = some _; simp), by simp [castL], by unfold maxLen; omega, by simp, by simp [castL]⟩⟩
  refine ⟨⟨some ⟨W.heap.size, 0, none⟩, 0, 0, c1, ho.alloc _, rfl, f1, ?_, fun e => ?_, fun q hq e => ?_, fun q hq => ?_, ?_⟩, fun c c0 c1 => by simp at c1⟩
  · intro e
    have e9 : some W.heap.size = some (W.heap.size + 1) := e
    simp at e9
  · have := hk _ e; omega
  · have e9 : some W.heap.size = some q := hq
    have := Option.some.inj e9
    have := hk _ e; omega
  · have := hk _ hq; rw [World.size_alloc, z1]; omega
  · rw [World.size_alloc, z1]; omega
end Go.Proofs.Ytchmjgjagaaomaa

/- Memory of split behind loop 2: the heap, the counts, the rows and the index. -/
namespace Go.Proofs.Ytchmjgjagaaomaa
open Go.RowKit Go.Dfl Go.Gra Go.Tj
theorem hpF_set (W : World) (p : Addr) (u : Value) : HpF (fun q => q ≠ p.block ∧ q < W.heap.size) W (W.setCell p u) :=
  ⟨rfl, rfl, rfl, by rw [World.size_setCell]; exact Nat.le_refl _, fun q hq => by rw [Below.heap_setCell _ _ _ _ hq.1]⟩
/-- What the heap keeps. -/
def kpX (B6 : Nat) (xv : Value) (q : Nat) : Prop := q < B6 ∨ xv.ownBlock = some q
structure LpM (W1 : World) (B4 B6 Bx n pc nc xc : Nat) (ps ns xs : Option Addr) (us : List Value) (ll : List (List Int)) (R : List Nat) (P X : List Int) (Z : World) : Prop where
  hp : HpO (kpX B6 (.slice xs n xc)) (B6 + 1) B6 R Z
  kh : KhP W1 B4 n pc nc ps ns P us ll Z
  ix : OwnI Z Bx 3 (.slice xs n xc) X
  xl : X.length = n
  w1 : W1.heap.size ≤ B6
  pB : ∀ q, (Value.slice ps n pc).ownBlock = some q → q < B6
  fB : ∀ q, Foot (.slice ns n nc) us q → q < B6
  xB : B6 ≤ Bx
section
variable {W1 : World} {B4 B6 Bx n pc nc xc : Nat} {ps ns xs : Option Addr} {us : List Value} {ll : List (List Int)} {R R' : List Nat} {P X : List Int} {Z Z' : World}
theorem LpM.op (h : LpM W1 B4 B6 Bx n pc nc xc ps ns xs us ll R P X Z) (hf : HpF (kpX B6 (.slice xs n xc)) Z Z') (hO : HpO (kpX B6 (.slice xs n xc)) (B6 + 1) B6 R' Z') : LpM W1 B4 B6 Bx n pc nc xc ps ns xs us ll R' P X Z' :=
  ⟨hO, h.kh.hpf hf (fun _ hq => .inl (Nat.lt_of_lt_of_le hq h.w1)) (fun q hq => .inl (h.pB q hq)) (fun q hq => .inl (h.fB q hq)), own_hpf hf h.ix (fun _ hq => .inr hq), h.xl, h.w1, h.pB, h.fB, h.xB⟩
theorem LpM.below (h : LpM W1 B4 B6 Bx n pc nc xc ps ns xs us ll R P X Z) (hb : Below Z.heap.size Z Z') : LpM W1 B4 B6 Bx n pc nc xc ps ns xs us ll R P X Z' := h.op (h.hp.below hb).2 (h.hp.below hb).1
theorem LpM.setP (h : LpM W1 B4 B6 Bx n pc nc xc ps ns xs us ll R P X Z) {b : Nat} (hb : b < n) (x : Int) : LpM W1 B4 B6 Bx n pc nc xc ps ns xs us ll R (P.set b x) X (Z.setCell ⟨blk ps, ofs ps + b, none⟩ (.int .i64 x)) := by
  have hob := own_blk h.kh.pend h.kh.plen (by omega)
  have h1 := h.pB _ hob
  refine ⟨h.hp.setCell (p := ⟨blk ps, ofs ps + b, none⟩) (.inl h1) _, h.kh.set hb x, h.ix.setOther (p := ⟨blk ps, ofs ps + b, none⟩) (fun e => ?_) _, h.xl, h.w1, h.pB, h.fB, h.xB⟩
  have h2 : Bx ≤ blk ps := (h.ix.lt _ e).1
  have h3 := h.xB
  omega
theorem LpM.setX (h : LpM W1 B4 B6 Bx n pc nc xc ps ns xs us ll R P X Z) {b : Nat} (hb : b < n) (x : Int) : LpM W1 B4 B6 Bx n pc nc xc ps ns xs us ll R P (X.set b x) (Z.setCell ⟨blk xs, ofs xs + b, none⟩ (.int .i64 x)) := by
  have hob := own_blk h.ix h.xl (by omega)
  have h1 := (h.ix.lt _ hob).1
  have h2 := h.xB
  have hk : ∀ q, q < B6 → q ≠ blk xs := fun q hq e => by omega
  refine ⟨h.hp.setCell (p := ⟨blk xs, ofs xs + b, none⟩) (.inr hob) _, h.kh.hpf (hpF_set Z ⟨blk xs, ofs xs + b, none⟩ (.int .i64 x)) (fun q hq => ⟨hk q (Nat.lt_of_lt_of_le hq h.w1), Nat.lt_of_lt_of_le hq h.kh.bel.size⟩) (fun q hq => ⟨hk q (h.pB q hq), (h.kh.pend.lt q hq).2⟩) (fun q hq => ⟨hk q (h.fB q hq), (h.kh.rows.foot kIIg q hq).2⟩), h.ix.set b x, by rw [List.length_set]; exact h.xl, h.w1, h.pB, h.fB, h.xB⟩
theorem LpM.start (hO : HpO (fun q => q < B6) (B6 + 1) B6 R Z) (hk : KhP W1 B4 n pc nc ps ns P us ll Z) (hx : OwnI Z' Z.heap.size 3 (.slice xs n xc) X) (hb : Below Z.heap.size Z Z') (xl : X.length = n) (w1 : W1.heap.size ≤ B6) (pB : ∀ q, (Value.slice ps n pc).ownBlock = some q → q < B6) (fB : ∀ q, Foot (.slice ns n nc) us q → q < B6) : LpM W1 B4 B6 Z.heap.size n pc nc xc ps ns xs us ll R P X Z' := by
  obtain ⟨⟨s, m, c, hv⟩, hh⟩ := hO
  have hv' := hv.below hb
  have hb6 : B6 ≤ Z.heap.size := hv.top
  have hin := hv.in
  refine ⟨⟨⟨s, m, c, hv'.1.wider fun q hq => ?_⟩, hh⟩, hk.below hb, hx, xl, w1, pB, fB, hb6⟩
  rcases hq with hq | hq
  · exact ⟨fun e => by omega, fun e => hv.rk q e hq, by have := hb.size; omega⟩
  · obtain ⟨h1, h2⟩ := hx.lt q hq
    exact ⟨fun e => by omega, fun e => by have := (hv.own.lt q e).2; omega, h2⟩
end
end Go.Proofs.Ytchmjgjagaaomaa
