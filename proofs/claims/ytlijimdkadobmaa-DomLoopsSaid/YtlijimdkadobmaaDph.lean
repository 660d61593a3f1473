/- Plain: the head of a loop dominates its nodes, and a back edge leads to it. -/
import Derived.Test.YtlijimdkadobmaaDnj
namespace Go.Gra
open Go.Dfl (nth nth_mem mem_nth nth_eq nth_ext)
open Go.Dm (Av Dom)
theorem av_rch {g : G} (hvg : VG g) {r a v s : Nat} (h : ∃ k, Av (dmC g r) a k v) (hs : Rch (cutG g (a : Int)).es v s) : ∃ k, Av (dmC g r) a k s := by
  induction hs with
  | refl => exact h
  | step _ hc ih =>
    obtain ⟨k, hk⟩ := ih
    obtain ⟨c1, -, c3⟩ := (cut_suc hvg).1 hc
    exact ⟨k + 1, .step hk c1 c3⟩
theorem lpq_dom {g : G} (hvg : VG g) {r hd v : Nat} (hr : r < g.n.toNat) (h : LpQ g r hd (startsN g r hd) v) : Dom (dmC g r) v hd := by
  obtain ⟨h1, -, s, h3, h4, h5⟩ := h
  refine ⟨h1, fun k hk => ?_⟩
  obtain ⟨j, hj⟩ := av_rch hvg ⟨k, hk⟩ h5
  obtain ⟨h6, h7⟩ := List.mem_filter.1 h3
  exact ((domB_iff hvg hr (pre_lt hvg h6)).1 h7).2 j hj
/-- A start is the head or one of the other nodes. -/
theorem start_node {g : G} (hvg : VG g) {r hd s : Nat} (hr : r < g.n.toNat) (h : s ∈ startsN g r hd) : hd ∈ suc g.es s ∧ (s = hd ∨ LpQ g r hd (startsN g r hd) s) ∧ hd ∈ postL g r := by
  obtain ⟨h6, h7⟩ := List.mem_filter.1 h
  have hdm := (domB_iff hvg hr (pre_lt hvg h6)).1 h7
  refine ⟨(mem_pre hvg).1 h6, ?_, dom_mem (dmC_ok hvg hr) hdm⟩
  by_cases e : s = hd
  · exact .inl e
  · exact .inr (lpq_start h hdm.1 e)
theorem headsTo_asc (g : G) (r k : Nat) : (headsTo g r k).Pairwise (· < ·) := List.pairwise_lt_range.filter _
theorem mem_headsTo {g : G} {r k h : Nat} : h ∈ headsTo g r k ↔ h < k ∧ startsN g r h ≠ [] := by
  unfold headsTo; rw [List.mem_filter, List.mem_range]; simp
end Go.Gra
