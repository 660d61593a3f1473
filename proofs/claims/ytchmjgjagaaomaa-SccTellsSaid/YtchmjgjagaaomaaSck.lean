/- Plain: what the index of the components says of two nodes; the distances. -/
import Derived.Test.YtchmjgjagaaomaaScw
import Derived.Test.YtchmjgjagaaomaaGdr
import Derived.Test.YtchmjgjagaaomaaGv
namespace Go.Proofs.Ytchmjgjagaaomaa
open Go.RowKit Go.Dfl Go.Gra Go.Tj
theorem rch_of_rt {g : G} {a b : Nat} (h : Rt (eG g) a b) : Rch g.es a b := by
  induction h with
  | refl => exact .refl _
  | step _ h2 ih => exact .step ih h2.2
theorem rt_of_rch {g : G} (hvg : VG g) {a b : Nat} (h : Rch g.es a b) (ha : a < g.n.toNat) : Rt (eG g) a b := by
  induction h with
  | refl => exact .refl _
  | step _ h2 ih => exact .step ih ⟨rt_lt hvg ih ha, h2⟩
theorem dist_rt {g : G} (hvg : VG g) {v w : Nat} (hv : v < g.n.toNat) (hw : w < g.n.toNat) : 0 ≤ nth (distL g [(v : Int)]) w ↔ Rt (eG g) v w := by
  rw [distL_reach hvg hw, mem_reachL hvg]
  constructor
  · rintro ⟨x, hx, -, hr⟩
    rw [List.mem_singleton] at hx
    rw [hx, Int.toNat_natCast] at hr
    exact rt_of_rch hvg hr hv
  · intro h
    exact ⟨(v : Int), by simp, nodeB_iff.2 ⟨by omega, by omega⟩, by rw [Int.toNat_natCast]; exact rch_of_rt h⟩
theorem PartsAre.mut {g : G} {ls : List (List Int)} {of : List Int} (h : PartsAre g ls of) {v w : Nat} (hv : v < g.n.toNat) (hw : w < g.n.toNat) : nth of v = nth of w ↔ Sc (eG g) v w := by
  obtain ⟨l, L, h1, h2, -, h4, h5⟩ := h.ex
  obtain ⟨i, i1, i2, i3⟩ := h5 v hv
  obtain ⟨j, j1, j2, j3⟩ := h5 w hw
  have kv := (h1.hd hv).2
  have kw := (h1.hd hw).2
  rw [i1, j1]
  constructor
  · intro e
    obtain rfl : i = j := by omega
    rw [i3] at j3
    rw [← j3] at kw
    exact kv.1.trans kw.1.symm
  · intro e
    have e9 : hdN l (v : Int) = hdN l (w : Int) := (kv.congr e).unique kw
    have := (List.getElem_inj h2.nd (i := i) (j := j) (h₀ := i2) (h₁ := j2)).1 (by rw [← nth_eq _ _ i2, ← nth_eq _ _ j2, i3, j3, e9])
    rw [this]
theorem PartsAre.len {g : G} {ls : List (List Int)} {of : List Int} (h : PartsAre g ls of) : of.length = g.n.toNat := by
  obtain ⟨l, L, h1, h2, -, h4, h5⟩ := h.ex
  exact h4
theorem ints_one (W : World) (x : Int) (t : TypeId) : Ints (W.alloc (.cells #[.int .i64 x] t)) (.slice (some ⟨W.heap.size, 0, none⟩) 1 1) [x] := by
  have hnew := cells_new (W := W) (cs := [.int .i64 x]) (t := t) rfl
  refine ⟨some ⟨W.heap.size, 0, none⟩, 1, rfl, by simp, by unfold maxLen; omega, fun i hi => ⟨rfl, by simp [blk], fun j hj => ?_⟩⟩
  obtain rfl : i = 0 := by simp at hi; omega
  obtain rfl : j = 0 := by omega
  exact hnew 0 _ rfl
end Go.Proofs.Ytchmjgjagaaomaa
