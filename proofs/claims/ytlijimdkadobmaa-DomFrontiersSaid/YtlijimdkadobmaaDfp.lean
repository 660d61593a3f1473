/- Plain: dominance frontiers. -/
import Derived.Test.YtlijimdkadobmaaDph
namespace Go.Gra
open Go.Dfl (nth nth_mem mem_nth nth_eq nth_ext nth_set nth_append take_snoc)
open Go.Dm (Dom)
theorem dom_trans {C : Go.Dm.Cx} (_hC : C.Ok) {v a b : Nat} (h : Dom C v a) (k : Dom C a b) : Dom C v b := ⟨h.1, fun j hj => (hj.or a).elim (k.2 j) (h.2 j)⟩
/-- y is in the frontier of n because of the edge from p. -/
def tgt (g : G) (r n y p : Nat) : Bool := domB g r n p && (decide (n = y) || !domB g r n y)
def preP (g : G) (r y k n : Nat) : Bool := ((pre g.es y).take k).any (tgt g r n y)
def frB (g : G) (r n y : Nat) : Bool := (pre g.es y).any (tgt g r n y)
def frL (g : G) (r n k : Nat) : List Nat := (List.range k).filter (frB g r n)
theorem preP_succ {g : G} {r y k n : Nat} (h : k < (pre g.es y).length) : preP g r y (k + 1) n = (preP g r y k n || tgt g r n y (nth (pre g.es y) k)) := by
  unfold preP; rw [take_snoc _ _ h, List.any_append]; simp
theorem preP_all (g : G) (r y n : Nat) : preP g r y (pre g.es y).length n = frB g r n y := by unfold preP frB; rw [List.take_length]
theorem preP_zero (g : G) (r y n : Nat) : preP g r y 0 n = false := by simp [preP]
theorem frL_lt {g : G} {r n k x : Nat} (h : x ∈ frL g r n k) : x < k := List.mem_range.1 (List.mem_filter.1 h).1
theorem frL_len (g : G) (r n k : Nat) : (frL g r n k).length ≤ k := Nat.le_trans (List.length_filter_le _ _) (by rw [List.length_range]; exact Nat.le_refl _)
theorem frL_succ (g : G) (r n k : Nat) : frL g r n (k + 1) = frL g r n k ++ if frB g r n k then [k] else [] := by
  unfold frL; rw [List.range_succ, List.filter_append]; cases h : frB g r n k <;> simp [h]
/-- A row while y is looked at. -/
def frRow (g : G) (r y n : Nat) (b : Bool) : List Int := (frL g r n y ++ if b then [y] else []).map fun x : Nat => (x : Int)
def rowsF (g : G) (r y : Nat) (P : Nat → Bool) : List (List Int) := (List.range g.n.toNat).map fun n => frRow g r y n (P n)
def frZ (g : G) (r : Nat) : List (List Int) := (List.range g.n.toNat).map fun n => (frL g r n g.n.toNat).map fun x : Nat => (x : Int)
theorem rowsF_len (g : G) (r y : Nat) (P : Nat → Bool) : (rowsF g r y P).length = g.n.toNat := by simp [rowsF]
theorem rowsF_nth {g : G} {r y n : Nat} {P : Nat → Bool} (h : n < g.n.toNat) : nth (rowsF g r y P) n = frRow g r y n (P n) := by
  unfold rowsF; rw [nth_eq _ _ (by simpa using h)]; simp
theorem frZ_len (g : G) (r : Nat) : (frZ g r).length = g.n.toNat := by simp [frZ]
theorem frZ_nth {g : G} {r n : Nat} (h : n < g.n.toNat) : nth (frZ g r) n = (frL g r n g.n.toNat).map fun x : Nat => (x : Int) := by
  unfold frZ; rw [nth_eq _ _ (by simpa using h)]; simp
theorem rowsF_congr {g : G} {r y : Nat} {P Q : Nat → Bool} (h : ∀ n, n < g.n.toNat → P n = Q n) : rowsF g r y P = rowsF g r y Q := by
  unfold rowsF; exact List.map_congr_left fun n hn => by rw [h n (List.mem_range.1 hn)]
theorem rowsF_zero (g : G) (r : Nat) : rowsF g r 0 (preP g r 0 0) = List.replicate g.n.toNat [] := by
  refine nth_ext (by rw [rowsF_len, List.length_replicate]) fun i hi => ?_
  rw [rowsF_len] at hi
  rw [rowsF_nth hi, nth_eq _ _ (by simpa using hi), List.getElem_replicate, preP_zero]
  simp [frRow, frL]
theorem rowsF_next (g : G) (r y : Nat) : rowsF g r y (preP g r y (pre g.es y).length) = rowsF g r (y + 1) (preP g r (y + 1) 0) := by
  refine nth_ext (by rw [rowsF_len, rowsF_len]) fun i hi => ?_
  rw [rowsF_len] at hi
  rw [rowsF_nth hi, rowsF_nth hi, preP_all, preP_zero]
  unfold frRow; rw [frL_succ]; simp
theorem rowsF_end (g : G) (r : Nat) : rowsF g r g.n.toNat (preP g r g.n.toNat 0) = frZ g r := by
  refine nth_ext (by rw [rowsF_len, frZ_len]) fun i hi => ?_
  rw [rowsF_len] at hi
  rw [rowsF_nth hi, frZ_nth hi, preP_zero]; simp [frRow]
theorem rowsF_put {g : G} {r y n : Nat} {P Q : Nat → Bool} (hn : n < g.n.toNat) (hP : P n = false) (hQ : ∀ m, m < g.n.toNat → Q m = (P m || decide (m = n))) : (rowsF g r y P).set n (nth (rowsF g r y P) n ++ [(y : Int)]) = rowsF g r y Q := by
  refine nth_ext (by rw [List.length_set, rowsF_len, rowsF_len]) fun i hi => ?_
  rw [List.length_set, rowsF_len] at hi
  rw [nth_set, rowsF_len, rowsF_nth hi, rowsF_nth hn, rowsF_nth hi, hQ i hi]
  by_cases e : n = i
  · subst e; rw [if_pos ⟨rfl, hn⟩, hP]; simp [frRow]
  · rw [if_neg fun h => e h.1, decide_eq_false (fun h => e h.symm), Bool.or_false]
theorem frRow_len (g : G) (r y n : Nat) (b : Bool) : (frRow g r y n b).length ≤ y + 1 := by
  unfold frRow; rw [List.length_map, List.length_append]
  have := frL_len g r n y
  cases b <;> simp <;> omega
/-- The last number of a row tells whether y is in it. -/
theorem frRow_last {g : G} {r y n : Nat} {b : Bool} {k : Nat} (hk : (frRow g r y n b).length = k + 1) : (nth (frRow g r y n b) k = (y : Int)) ↔ b = true := by
  unfold frRow at hk ⊢
  cases b
  · simp only [Bool.false_eq_true, if_false, List.append_nil, iff_false] at hk ⊢
    rw [List.length_map] at hk
    have h1 : nth ((frL g r n y).map fun x : Nat => (x : Int)) k ∈ (frL g r n y).map fun x : Nat => (x : Int) := nth_mem _ _ (by rw [List.length_map]; omega)
    obtain ⟨x, hx, he⟩ := List.mem_map.1 h1
    have := frL_lt hx
    rw [← he]; omega
  · simp only [if_true, iff_true] at hk ⊢
    rw [List.length_map, List.length_append, List.length_singleton] at hk
    rw [List.map_append, nth_append, if_neg (by rw [List.length_map]; omega), List.length_map, show k - (frL g r n y).length = 0 by omega]; rfl
theorem frRow_some {g : G} {r y n : Nat} : (frRow g r y n true).length ≠ 0 := by simp [frRow]
/-- Does n dominate c, if this is a node? -/
def domI (g : G) (r n : Nat) (c : Int) : Bool := decide (0 ≤ c) && domB g r n c.toNat
theorem domI_nat (g : G) (r n c : Nat) : domI g r n (c : Int) = domB g r n c := by unfold domI; simp
theorem domI_neg (g : G) (r n : Nat) : domI g r n (-1) = false := rfl
/-- What is in the rows, while one goes up from p. -/
def chP (g : G) (r y k p : Nat) (c : Int) (n : Nat) : Bool := preP g r y k n || (domB g r n p && !domI g r n c)
/-- Where one stands. -/
structure Chn (g : G) (r y p : Nat) (uf : List Int) (c : Int) : Prop where
  pin : p ∈ postL g r
  yin : y ∈ postL g r
  e : y ∈ suc g.es p
  at' : (c = -1 ∧ nth uf y = -1) ∨ ∃ c' : Nat, c = (c' : Int) ∧ c' ∈ postL g r ∧ Dom (dmC g r) p c' ∧ ∀ u : Nat, nth uf y = (u : Int) → Dom (dmC g r) c' u
section
variable {g : G} {r y k p : Nat} {uf : List Int}
theorem domB_pos (hvg : VG g) (hr : r < g.n.toNat) {n c : Nat} (hc : c ∈ postL g r) : domB g r n c = true ↔ Dom (dmC g r) c n := domB_iff hvg hr (post_lt hvg hr hc)
theorem up_or (hi : Idm g r uf) (hvg : VG g) (hr : r < g.n.toNat) (hy : y ∈ postL g r) : (nth uf y = -1 ∧ y = r) ∨ ∃ w : Nat, nth uf y = (w : Int) ∧ w ∈ postL g r ∧ y ≠ r ∧ ∀ z, Dom (dmC g r) w z ↔ Dom (dmC g r) y z ∧ z ≠ y := by
  by_cases e : y = r
  · exact .inl ⟨hi.no y (post_lt hvg hr hy) (.inr e), e⟩
  · obtain ⟨w, h1, h2, -, h4⟩ := hi.yes y hy e
    exact .inr ⟨w, h1, h2, e, h4⟩
theorem Chn.start (hi : Idm g r uf) (hvg : VG g) (hr : r < g.n.toNat) (hp : p ∈ postL g r) (he : y ∈ suc g.es p) : Chn g r y p uf (p : Int) := by
  have hC := dmC_ok hvg hr
  have hy : y ∈ postL g r := hC.cl p y hp he
  refine ⟨hp, hy, he, .inr ⟨p, rfl, hp, Dom.refl (C := dmC g r) hp, fun u hu => ?_⟩⟩
  rcases up_or hi hvg hr hy with ⟨h1, -⟩ | ⟨w, h1, h2, h3, h4⟩
  · omega
  · obtain rfl : w = u := by omega
    obtain ⟨h5, h6⟩ := (h4 w).1 (Dom.refl (C := dmC g r) h2)
    exact h5.pred h6 hp he
/-- If one has gone as far as the immediate dominator, all is in. -/
theorem Chn.last (hi : Idm g r uf) (hvg : VG g) (hr : r < g.n.toNat) (hk : k < (pre g.es y).length) (hp : p = nth (pre g.es y) k) {c : Int} (h : Chn g r y p uf c) (hc : c = nth uf y) (n : Nat) : chP g r y k p c n = preP g r y (k + 1) n := by
  rw [preP_succ hk, ← hp]
  unfold chP tgt
  refine congrArg _ (congrArg _ ?_)
  rcases up_or hi hvg hr h.yin with ⟨h1, h2⟩ | ⟨w, h1, h2, h3, h4⟩
  · rw [hc, h1, domI_neg]
    by_cases e : n = y
    · simp [e]
    · have : domB g r n y = false := by
        cases hd : domB g r n y
        · rfl
        · have h9 := (domB_pos hvg hr h.yin).1 hd
          rw [h2] at h9
          exact absurd ((Go.Dm.dom_root (C := dmC g r) h9).trans h2.symm) e
      simp [this]
  · rw [hc, h1, domI_nat]
    have hw : domB g r n w = (domB g r n y && !decide (n = y)) := by
      rw [Bool.eq_iff_iff, domB_pos hvg hr h2, h4, Bool.and_eq_true, domB_pos hvg hr h.yin]; simp
    rw [hw]; cases domB g r n y <;> simp
/-- If what comes next is in, so is all that comes behind it. -/
theorem Chn.cut (hvg : VG g) (hr : r < g.n.toNat) (hi : Idm g r uf) (hk : k < (pre g.es y).length) (hp : p = nth (pre g.es y) k) {c : Nat} (h : Chn g r y p uf (c : Int)) (hb : preP g r y k c = true) {n : Nat} : chP g r y k p (c : Int) n = preP g r y (k + 1) n := by
  obtain ⟨c', hc, hcm, hcd, hcu⟩ := h.at'.resolve_left (by omega)
  obtain rfl : c = c' := by omega
  have hC := dmC_ok hvg hr
  rw [preP_succ hk, ← hp]
  unfold chP
  rw [domI_nat, Bool.eq_iff_iff, Bool.or_eq_true, Bool.or_eq_true]
  obtain ⟨q, hq, ht⟩ := List.any_eq_true.1 hb
  unfold tgt at ht
  rw [Bool.and_eq_true] at ht
  have hqm : q ∈ pre g.es y := List.mem_of_mem_take hq
  have hqd := (domB_iff hvg hr (pre_lt hvg hqm)).1 ht.1
  constructor
  · rintro (h1 | h1)
    · exact .inl h1
    · right
      unfold tgt
      rw [Bool.and_eq_true] at h1 ⊢
      refine ⟨h1.1, ?_⟩
      by_cases e : n = y
      · simp [e]
      · have : domB g r n y = false := by
          cases hd : domB g r n y
          · rfl
          · exfalso
            have h2 : domB g r n c = false := by simpa using h1.2
            rcases up_or hi hvg hr h.yin with ⟨h3, h4⟩ | ⟨w, h3, h4, h5, h6⟩
            · have h9 := (domB_pos hvg hr h.yin).1 hd
              rw [h4] at h9
              exact e ((Go.Dm.dom_root (C := dmC g r) h9).trans h4.symm)
            · have h7 : Dom (dmC g r) w n := (h6 n).2 ⟨(domB_pos hvg hr h.yin).1 hd, e⟩
              have h8 := (domB_pos hvg hr hcm).2 (dom_trans hC (hcu w h3) h7)
              rw [h2] at h8; cases h8
        simp [this]
  · rintro (h1 | h1)
    · exact .inl h1
    · unfold tgt at h1
      rw [Bool.and_eq_true] at h1
      cases hd : domB g r n c
      · right; rw [h1.1]; rfl
      · left
        refine List.any_eq_true.2 ⟨q, hq, ?_⟩
        unfold tgt
        rw [Bool.and_eq_true]
        exact ⟨(domB_iff hvg hr (pre_lt hvg hqm)).2 (dom_trans hC hqd ((domB_pos hvg hr hcm).1 hd)), h1.2⟩
theorem Chn.step (hvg : VG g) (hr : r < g.n.toNat) (hi : Idm g r uf) {c : Nat} (h : Chn g r y p uf (c : Int)) (hne : (c : Int) ≠ nth uf y) : c ∈ postL g r ∧ Chn g r y p uf (nth uf c) ∧ (∀ n, n < g.n.toNat → chP g r y k p (nth uf c) n = (chP g r y k p (c : Int) n || decide (n = c))) ∧ (nth uf c = -1 ∨ ∃ w : Nat, nth uf c = (w : Int) ∧ w ∈ postL g r ∧ (postL g r).idxOf c < (postL g r).idxOf w) := by
  obtain ⟨c', hc, hcm, hcd, hcu⟩ := h.at'.resolve_left (by omega)
  obtain rfl : c = c' := by omega
  have hC := dmC_ok hvg hr
  have hcp : domB g r c p = true := (domB_pos hvg hr h.pin).2 hcd
  have hcc : domB g r c c = true := (domB_pos hvg hr hcm).2 (Dom.refl (C := dmC g r) hcm)
  refine ⟨hcm, ?_⟩
  rcases up_or hi hvg hr hcm with ⟨h1, h2⟩ | ⟨w, h1, h2, h3, h4⟩
  · have hyu : nth uf y = -1 := by
      rcases up_or hi hvg hr h.yin with ⟨h3, -⟩ | ⟨u, h3, h4, h5, h6⟩
      · exact h3
      · exfalso
        have h7 : u = r := Go.Dm.dom_root (C := dmC g r) (by have := hcu u h3; rwa [h2] at this)
        exact hne (by rw [h3, h7, h2])
    refine ⟨⟨h.pin, h.yin, h.e, .inl ⟨h1, hyu⟩⟩, fun n hn => ?_, .inl h1⟩
    unfold chP
    rw [h1, domI_neg, domI_nat]
    have h8 : domB g r n c = decide (n = c) := by
      rw [Bool.eq_iff_iff, domB_pos hvg hr hcm, decide_eq_true_eq]
      constructor
      · intro h9
        rw [h2] at h9 ⊢
        exact Go.Dm.dom_root (C := dmC g r) h9
      · rintro rfl; exact Dom.refl (C := dmC g r) hcm
    rw [h8]
    by_cases e : n = c
    · subst e; rw [hcp]; simp
    · simp [e]
  · refine ⟨⟨h.pin, h.yin, h.e, .inr ⟨w, h1, h2, dom_trans hC hcd ((h4 w).1 (Dom.refl (C := dmC g r) h2)).1, fun u hu => (h4 u).2 ⟨hcu u hu, fun e => hne (by rw [hu, e])⟩⟩⟩, fun n hn => ?_, .inr ⟨w, h1, h2, ?_⟩⟩
    · unfold chP
      rw [h1, domI_nat, domI_nat]
      have h8 : domB g r n w = (domB g r n c && !decide (n = c)) := by
        rw [Bool.eq_iff_iff, domB_pos hvg hr h2, h4, Bool.and_eq_true, domB_pos hvg hr hcm]; simp
      rw [h8]
      by_cases e : n = c
      · subst e; rw [hcp]; simp
      · simp [e]
    · obtain ⟨w', h5, -, h6, -⟩ := hi.yes c hcm h3
      obtain rfl : w = w' := by omega
      exact h6
theorem preP_skip (hvg : VG g) (hr : r < g.n.toNat) (hk : k < (pre g.es y).length) (hp : ¬ nth (pre g.es y) k ∈ postL g r) (n : Nat) : preP g r y (k + 1) n = preP g r y k n := by
  rw [preP_succ hk]
  have : domB g r n (nth (pre g.es y) k) = false := by
    cases hd : domB g r n (nth (pre g.es y) k)
    · rfl
    · exact absurd ((domB_iff hvg hr (pre_lt hvg (nth_mem _ _ hk))).1 hd).1 hp
  unfold tgt; rw [this]; simp
theorem chP_start (n : Nat) : chP g r y k p (p : Int) n = preP g r y k n := by
  unfold chP; rw [domI_nat]; cases domB g r n p <;> simp
end
end Go.Gra
