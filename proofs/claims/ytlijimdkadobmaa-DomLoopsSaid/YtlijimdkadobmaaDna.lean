/- Plain: the depth-first order of a graph serves the search of dominators. -/
import Derived.Test.YtlijimdkadobmaaGu
import Derived.Test.YtlijimdkadobmaaGls
import Derived.Test.YtlijimdkadobmaaGj
namespace Go.Gra
open Go.Dfl (nth nth_mem mem_nth nth_eq nth_ext nth_append)
/-- Each of the new nodes has a parent behind it, or is in Q. -/
def Par (es : List (Int × Int)) (Q : Nat → Prop) (m : List Nat) : Prop := ∀ i, i < m.length → Q (nth m i) ∨ ∃ j, i < j ∧ j < m.length ∧ nth m i ∈ suc es (nth m j)
theorem Par.append {es : List (Int × Int)} {Q : Nat → Prop} {a b : List Nat} (ha : Par es Q a) (hb : Par es Q b) : Par es Q (a ++ b) := by
  intro i hi
  rw [List.length_append] at hi
  by_cases h : i < a.length
  · rw [nth_append, if_pos h]
    rcases ha i h with h1 | ⟨j, h1, h2, h3⟩
    · exact .inl h1
    · exact .inr ⟨j, h1, by rw [List.length_append]; omega, by rw [nth_append, if_pos h2]; exact h3⟩
  · rw [nth_append, if_neg h]
    rcases hb (i - a.length) (by omega) with h1 | ⟨j, h1, h2, h3⟩
    · exact .inl h1
    · exact .inr ⟨j + a.length, by omega, by rw [List.length_append]; omega, by rw [nth_append (i := j + a.length), if_neg (by omega), Nat.add_sub_cancel]; exact h3⟩
theorem Par.close {es : List (Int × Int)} {v : Nat} {m : List Nat} (h : Par es (· ∈ suc es v) m) : Par es (· = v) (m ++ [v]) := by
  intro i hi
  rw [List.length_append, List.length_singleton] at hi
  by_cases hl : i < m.length
  · rw [nth_append, if_pos hl]
    rcases h i hl with h1 | ⟨j, h1, h2, h3⟩
    · exact .inr ⟨m.length, hl, by simp, by rw [nth_append, if_neg (Nat.lt_irrefl _), Nat.sub_self]; exact h1⟩
    · exact .inr ⟨j, h1, by simp; omega, by rw [nth_append, if_pos h2]; exact h3⟩
  · refine .inl ?_
    rw [nth_append, if_neg hl, show i - m.length = 0 by omega]; rfl
theorem Par.imp {es : List (Int × Int)} {Q R : Nat → Prop} {m : List Nat} (h : Par es Q m) (hi : ∀ x, Q x → R x) : Par es R m := fun i hl => (h i hl).imp (hi _) fun h => h
theorem dst_par {es : List (Int × Int)} {k : Nat} (ih : ∀ (v : Nat) (s : List Nat × List Nat), ∃ m, (dfs es k v s).2 = s.2 ++ m ∧ Par es (· = v) m) (v : Nat) : ∀ (l : List Nat) (t : List Nat × List Nat), (∀ w ∈ l, w ∈ suc es v) → ∃ m, (l.foldl (dst es k) t).2 = t.2 ++ m ∧ Par es (· ∈ suc es v) m
  | [], t, _ => ⟨[], by simp, fun i hi => by simp at hi⟩
  | w :: l, t, h => by
    have h1 : ∃ m, (dst es k t w).2 = t.2 ++ m ∧ Par es (· ∈ suc es v) m := by
      unfold dst
      split
      · exact ⟨[], by simp, fun i hi => by simp at hi⟩
      · obtain ⟨m, h1, h2⟩ := ih w t
        exact ⟨m, h1, h2.imp fun x hx => by rw [hx]; exact h w (by simp)⟩
    obtain ⟨m, h1, h2⟩ := h1
    obtain ⟨m', h3, h4⟩ := dst_par ih v l (dst es k t w) fun y hy => h y (List.mem_cons_of_mem _ hy)
    exact ⟨m ++ m', by rw [List.foldl_cons, h3, h1, List.append_assoc], h2.append h4⟩
theorem dfs_par {es : List (Int × Int)} : ∀ (k v : Nat) (s : List Nat × List Nat), ∃ m, (dfs es k v s).2 = s.2 ++ m ∧ Par es (· = v) m
  | 0, v, s => ⟨[], by simp [dfs], fun i hi => by simp at hi⟩
  | k + 1, v, s => by
    obtain ⟨m, h1, h2⟩ := dst_par (dfs_par k) v (suc es v) (s.1 ++ [v], s.2) fun w hw => hw
    refine ⟨m ++ [v], ?_, h2.close⟩
    rw [dfs_succ]
    dsimp only
    rw [h1, List.append_assoc]
theorem postL_par {g : G} {r : Nat} : Par g.es (· = r) (postL g r) := by
  obtain ⟨m, h1, h2⟩ := dfs_par (es := g.es) g.n.toNat r ([], [])
  unfold postL
  rw [h1]; exact h2
theorem idx_nth {l : List Nat} (h : l.Nodup) {i : Nat} (hi : i < l.length) : l.idxOf (nth l i) = i := by
  rw [nth_eq _ _ hi]; exact h.idxOf_getElem i hi
theorem nth_idx {l : List Nat} {x : Nat} (h : x ∈ l) : nth l (l.idxOf x) = x := by
  have h1 := List.idxOf_lt_length_of_mem h
  rw [nth_eq _ _ h1]; exact List.getElem_idxOf h1
/-- The nodes that are reached from a root, and their postorder. -/
def dmC (g : G) (r : Nat) : Go.Dm.Cx := ⟨fun p v => v ∈ suc g.es p, r, g.n.toNat, fun v => v ∈ postL g r, fun v => (postL g r).idxOf v⟩
theorem post_lt {g : G} (h : VG g) {r : Nat} (hr : r < g.n.toNat) {x : Nat} (hx : x ∈ postL g r) : x < g.n.toNat := by
  have h1 := ((postL_spec h hr).2.1 x).1 hx
  cases h1 with
  | refl => exact hr
  | step _ hc => exact suc_node h hc
theorem dmC_ok {g : G} (h : VG g) {r : Nat} (hr : r < g.n.toNat) : (dmC g r).Ok := by
  obtain ⟨hnd, hmem, ⟨m, hm⟩, -⟩ := postL_spec h hr
  have hrm : r ∈ postL g r := by rw [hm]; simp
  have hlast : (postL g r).idxOf r = m.length := by
    have h1 : nth (postL g r) m.length = r := by rw [hm, nth_append, if_neg (Nat.lt_irrefl _), Nat.sub_self]; rfl
    have h2 := idx_nth hnd (i := m.length) (by rw [hm]; simp)
    rw [h1] at h2; exact h2
  refine ⟨hrm, fun v hv => post_lt h hr hv, fun v w hv he => (hmem w).2 (.step ((hmem v).1 hv) he), fun v w hv hw e => ?_, fun v hv => ?_, fun v hv hn => ?_⟩
  · rw [← nth_idx hv, ← nth_idx hw]; exact congrArg _ e
  · show (postL g r).idxOf v ≤ (postL g r).idxOf r
    have h1 := List.idxOf_lt_length_of_mem hv
    rw [hlast]
    have h2 : (postL g r).length = m.length + 1 := by rw [hm]; simp
    omega
  · have h1 := List.idxOf_lt_length_of_mem hv
    rcases postL_par (g := g) (r := r) _ h1 with h2 | ⟨j, h2, h3, h4⟩
    · rw [nth_idx hv] at h2; exact absurd h2 hn
    · rw [nth_idx hv] at h4
      exact ⟨nth (postL g r) j, nth_mem _ _ h3, h4, by show (postL g r).idxOf v < _; rw [show (dmC g r).ord (nth (postL g r) j) = j from idx_nth hnd h3]; exact h2⟩
theorem dmC_last {g : G} (h : VG g) {r : Nat} (hr : r < g.n.toNat) : (postL g r).idxOf r + 1 = (postL g r).length ∧ (postL g r).length ≤ g.n.toNat := by
  obtain ⟨hnd, hmem, ⟨m, hm⟩, -⟩ := postL_spec h hr
  have h1 : nth (postL g r) m.length = r := by rw [hm, nth_append, if_neg (Nat.lt_irrefl _), Nat.sub_self]; rfl
  have h2 := idx_nth hnd (i := m.length) (by rw [hm]; simp)
  rw [h1] at h2
  exact ⟨by rw [h2, hm]; simp, nodup_len _ _ hnd fun x hx => post_lt h hr hx⟩
/-- The predecessors of a node, as the edges have them. -/
def sw (es : List (Int × Int)) : List (Int × Int) := es.map fun e => (e.2, e.1)
theorem sw_len (es : List (Int × Int)) : (sw es).length = es.length := by simp [sw]
theorem sw_nth {es : List (Int × Int)} {k : Nat} (h : k < es.length) : nth (sw es) k = ((nth es k).2, (nth es k).1) := by
  rw [nth_eq _ _ (by rw [sw_len]; exact h), nth_eq _ _ h]; simp [sw]
def pre (es : List (Int × Int)) (v : Nat) : List Nat := (es.filter fun e => decide (e.2 = (v : Int))).map fun e => e.1.toNat
theorem mem_pre {g : G} (h : VG g) {p v : Nat} : p ∈ pre g.es v ↔ v ∈ suc g.es p := by
  unfold pre suc
  simp only [List.mem_map, List.mem_filter, decide_eq_true_eq]
  constructor
  · rintro ⟨e, ⟨he, h1⟩, h2⟩
    have := h.inn e he
    exact ⟨e, ⟨he, by omega⟩, by omega⟩
  · rintro ⟨e, ⟨he, h1⟩, h2⟩
    have := h.inn e he
    exact ⟨e, ⟨he, by omega⟩, by omega⟩
theorem succK_sw {g : G} (h : VG g) (v : Nat) : succK (sw g.es) (v : Int) g.es.length = (pre g.es v).map fun x : Nat => (x : Int) := by
  unfold succK pre
  rw [List.take_of_length_le (by rw [sw_len]; exact Nat.le_refl _), List.map_map]
  unfold sw
  rw [List.filter_map, List.map_map]
  refine List.map_congr_left fun e he => ?_
  have := h.inn e (List.mem_filter.1 he).1
  simp only [Function.comp]
  omega
end Go.Gra
