/- Plain: what the index of the components says of two nodes; the distances. -/
import Derived.Test.YtchmjgjagaaomaaScw
import Derived.Test.YtchmjgjagaaomaaGdr
import Derived.Test.YtchmjgjagaaomaaGv
namespace Go.Proofs.Ytchmjgjagaaomaa
open Go.RowKit Go.Dfl Go.Gra Go.Tj
theorem rch_of_rt {g : G} {a b : Nat} (h : Rt (eG g) a b) : Rch g.es a b := by
  induction h with
  | refl => exact .refl _
  | step _ h2 ih => exact .step ih h2.2
theorem rt_of_rch {g : G} (hvg : VG g) {a b : Nat} (h : Rch g.es a b) (ha : a < g.n.toNat) : Rt (eG g) a b := by
  induction h with
  | refl => exact .refl _
  | step _ h2 ih => exact .step ih ⟨rt_lt hvg ih ha, h2⟩
theorem dist_rt {g : G} (hvg : VG g) {v w : Nat} (hv : v < g.n.toNat) (hw : w < g.n.toNat) : 0 ≤ nth (distL g [(v : Int)]) w ↔ Rt (eG g) v w := by
  rw [distL_reach hvg hw, mem_reachL hvg]
  constructor
  · rintro ⟨x, hx, -, hr⟩
    rw [List.mem_singleton] at hx
    rw [hx, Int.toNat_natCast] at hr
    exact rt_of_rch hvg hr hv
  · intro h
    exact ⟨(v : Int), by simp, nodeB_iff.2 ⟨by omega, by omega⟩, by rw [Int.toNat_natCast]; exact rch_of_rt h⟩
theorem PartsAre.mut {g : G} {ls : List (List Int)} {of : List Int} (h : PartsAre g ls of) {v w : Nat} (hv : v < g.n.toNat) (hw : w < g.n.toNat) : nth of v = nth of w ↔ Sc (eG g) v w := by
  obtain ⟨l, L, h1, h2, -, h4, h5⟩ := h.ex
  obtain ⟨i, i1, i2, i3⟩ := h5 v hv
  obtain ⟨j, j1, j2, j3⟩ := h5 w hw
  have kv := (h1.hd hv).2
  have kw := (h1.hd hw).2
  rw [i1, j1]
  constructor
  · intro e
    obtain rfl : i = j := by omega
    rw [i3] at j3
    rw [← j3] at kw
    exact kv.1.trans kw.1.symm
  · intro e
    have e9 : hdN l (v : Int) = hdN l (w : Int) := (kv.congr e).unique kw
    have := (List.getElem_inj h2.nd (i := i) (j := j) (h₀ := i2) (h₁ := j2)).1 (by rw [← nth_eq _ _ i2, ← nth_eq _ _ j2, i3, j3, e9])
    rw [this]
theorem PartsAre.len {g : G} {ls : List (List Int)} {of : List Int} (h : PartsAre g ls of) : of.length = g.n.toNat := by
  obtain ⟨l, L, h1, h2, -, h4, h5⟩ := h.ex
  exact h4
theorem ints_one (W : World) (x : Int) (t : TypeId) : Ints (W.alloc (.cells #[.int .i64 x] t)) (.slice (some ⟨W.heap.size, 0, none⟩) 1 1) [x] := by
  have hnew := cells_new (W := W) (cs := [.int .i64 x]) (t := t) rfl
  refine ⟨some ⟨W.heap.size, 0, none⟩, 1, rfl, by simp, by unfold maxLen; omega, fun i hi => ⟨rfl, by simp [blk], fun j hj => ?_⟩⟩
  obtain rfl : i = 0 := by simp at hi; omega
  obtain rfl : j = 0 := by omega
  exact hnew 0 _ rfl
end Go.Proofs.Ytchmjgjagaaomaa

/- Plain: the components one after the other. -/
namespace Go.Dfl
section
variable {α : Type}
/-- How many elements stand ahead of the i-th list. -/
def offs (ls : List (List α)) (i : Nat) : Nat := (ls.take i).flatten.length
theorem offs_zero (ls : List (List α)) : offs ls 0 = 0 := rfl
theorem offs_succ {ls : List (List α)} {i : Nat} (hi : i < ls.length) : offs ls (i + 1) = offs ls i + (nth ls i).length := by
  unfold offs; rw [take_snoc _ _ hi, List.flatten_append, List.length_append]; simp
theorem offs_all (ls : List (List α)) : offs ls ls.length = ls.flatten.length := by unfold offs; rw [List.take_length]
theorem nth_flat [Inhabited α] {ls : List (List α)} {i k : Nat} (hi : i < ls.length) (hk : k < (nth ls i).length) : offs ls i + k < ls.flatten.length ∧ nth ls.flatten (offs ls i + k) = nth (nth ls i) k := by
  have h1 : ls.flatten = (ls.take i).flatten ++ (nth ls i ++ (ls.drop (i + 1)).flatten) := by
    have h2 : ls = ls.take i ++ (nth ls i :: ls.drop (i + 1)) := by
      rw [nth_eq _ _ hi, List.getElem_cons_drop, List.take_append_drop]
    conv => lhs; rw [h2]
    rw [List.flatten_append, List.flatten_cons]
  have h3 : offs ls i = (ls.take i).flatten.length := rfl
  constructor
  · rw [h1, List.length_append, List.length_append]; omega
  · rw [h1, nth_append, if_neg (by omega), h3, Nat.add_sub_cancel_left, nth_append, if_pos hk]
theorem offs_le (ls : List (List α)) (i : Nat) : offs ls i ≤ ls.flatten.length := by
  unfold offs
  conv => rhs; rw [← List.take_append_drop i ls, List.flatten_append, List.length_append]
  omega
end
end Go.Dfl
namespace Go.Proofs.Ytchmjgjagaaomaa
open Go.RowKit Go.Dfl Go.Gra Go.Tj
theorem mem_compK {l : List Int} {h k : Nat} {x : Int} : x ∈ compK l h k ↔ ∃ v : Nat, v < k ∧ hdN l (v : Int) = h ∧ x = (v : Int) := by
  unfold compK castL
  rw [List.mem_map]
  constructor
  · rintro ⟨v, hv, rfl⟩
    rw [List.mem_filter, List.mem_range, decide_eq_true_eq] at hv
    exact ⟨v, hv.1, hv.2, rfl⟩
  · rintro ⟨v, h1, h2, rfl⟩
    exact ⟨v, by rw [List.mem_filter, List.mem_range, decide_eq_true_eq]; exact ⟨h1, h2⟩, rfl⟩
theorem compK_asc (l : List Int) (h k : Nat) : (compK l h k).Pairwise (· < ·) := by
  unfold compK castL
  rw [List.pairwise_map]
  exact (List.pairwise_lt_range.filter _).imp fun h => by omega
/-- What the components have. -/
structure Cov (g : G) (ls : List (List Int)) : Prop where
  asc : ∀ i, i < ls.length → (nth ls i).Pairwise (· < ·)
  nd : ls.flatten.Nodup
  mem : ∀ x : Int, x ∈ ls.flatten ↔ 0 ≤ x ∧ x < g.n
  len : ls.flatten.length = g.n.toNat
theorem PartsAre.cov {g : G} {ls : List (List Int)} {of : List Int} (hvg : VG g) (h : PartsAre g ls of) : Cov g ls := by
  obtain ⟨l, L, h1, h2, rfl, h4, h5⟩ := h.ex
  have hm : ∀ x : Int, x ∈ (L.map fun h => compK l h g.n.toNat).flatten ↔ 0 ≤ x ∧ x < g.n := fun x => by
    rw [List.mem_flatten]
    constructor
    · rintro ⟨m, hm, hx⟩
      obtain ⟨h, hh, rfl⟩ := List.mem_map.1 hm
      obtain ⟨v, hv, -, rfl⟩ := mem_compK.1 hx
      omega
    · rintro ⟨h0, hx⟩
      obtain ⟨v, rfl⟩ : ∃ v : Nat, x = (v : Int) := ⟨x.toNat, by omega⟩
      have hv : v < g.n.toNat := by omega
      refine ⟨compK l (hdN l (v : Int)) g.n.toNat, List.mem_map.2 ⟨hdN l (v : Int), (h2.mem _).2 ⟨h1.self hvg hv, h1.lt hvg hv⟩, rfl⟩, mem_compK.2 ⟨v, hv, rfl, rfl⟩⟩
  have hnd : (L.map fun h => compK l h g.n.toNat).flatten.Nodup := by
    rw [List.nodup_iff_pairwise_ne, List.pairwise_flatten]
    constructor
    · intro m hm
      obtain ⟨h, hh, rfl⟩ := List.mem_map.1 hm
      exact (compK_asc l h g.n.toNat).imp fun h => by omega
    · rw [List.pairwise_map]
      refine h2.nd.imp fun {a b} hab x hx y hy e => hab ?_
      obtain ⟨v, -, hv, rfl⟩ := mem_compK.1 hx
      obtain ⟨w, -, hw, rfl⟩ := mem_compK.1 hy
      obtain rfl : v = w := by omega
      omega
  refine ⟨fun i hi => ?_, hnd, hm, ?_⟩
  · rw [List.length_map] at hi
    rw [comps_nth hi]; exact compK_asc _ _ _
  · have hn0 := hvg.n0
    have k1 := Go.Kah.nodup_le _ ((List.range g.n.toNat).map fun x : Nat => (x : Int)) hnd (fun x hx => by
      have := (hm x).1 hx
      exact List.mem_map.2 ⟨x.toNat, List.mem_range.2 (by omega), by omega⟩)
    have k2 := Go.Kah.nodup_le ((List.range g.n.toNat).map fun x : Nat => (x : Int)) _ (by
      rw [List.nodup_iff_pairwise_ne, List.pairwise_map]; exact List.nodup_range.imp fun h e => h (by omega)) (fun x hx => by
      obtain ⟨v, hv, rfl⟩ := List.mem_map.1 hx
      rw [List.mem_range] at hv
      exact (hm _).2 ⟨by omega, by omega⟩)
    rw [List.length_map, List.length_range] at k1 k2
    omega
end Go.Proofs.Ytchmjgjagaaomaa
