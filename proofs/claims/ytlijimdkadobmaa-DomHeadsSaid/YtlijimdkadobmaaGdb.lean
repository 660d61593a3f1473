/- Plain: bounds of the distances, and what a visit leaves as it is. -/
import Derived.Test.YtlijimdkadobmaaGdq
import Derived.Test.YtlijimdkadobmaaGa
namespace Go.Gra
open Go.Dfl (nth nth_mem mem_nth nth_eq nth_ext nth_set)
theorem Rch.trans {es : List (Int × Int)} {a b c : Nat} (h : Rch es a b) (k : Rch es b c) : Rch es a c := by
  induction k with
  | refl => exact h
  | step _ hy ih => exact .step ih hy
theorem Rch.one {es : List (Int × Int)} {a b : Nat} (h : b ∈ suc es a) : Rch es a b := .step (.refl _) h
theorem nodup_le {α : Type} [DecidableEq α] : ∀ (l m : List α), l.Nodup → (∀ x ∈ l, x ∈ m) → l.length ≤ m.length
  | [], _, _, _ => by simp
  | a :: l, m, hn, h => by
    rw [List.nodup_cons] at hn
    have h1 := nodup_le l (m.erase a) hn.2 fun x hx => by
      have hne : x ≠ a := fun e => hn.1 (e ▸ hx)
      exact (List.mem_erase_of_ne hne).2 (h x (List.mem_cons_of_mem _ hx))
    have h2 := List.length_erase_of_mem (h a (by simp))
    have h3 : 0 < m.length := List.length_pos_of_mem (h a (by simp))
    simp only [List.length_cons]
    omega
theorem nodup_snoc' {o : List Nat} {x : Nat} (h : o.Nodup) (hx : ¬ x ∈ o) : (o ++ [x]).Nodup := by
  rw [List.nodup_append]
  exact ⟨h, by simp, fun a ha b hb e => by rw [List.mem_singleton.1 hb] at e; exact hx (e ▸ ha)⟩
/-- The state of the search, with its bounds. -/
structure CohB (n : Nat) (s : List Int × List Nat) : Prop where
  coh : Coh n s
  nd : s.2.Nodup
  top : ∀ w, w < n → nth s.1 w ≤ s.2.length
  low : ∀ w, w < n → -1 ≤ nth s.1 w
theorem CohB.qlen {n : Nat} {s : List Int × List Nat} (h : CohB n s) : s.2.length ≤ n := nodup_len n s.2 h.nd h.coh.mem
theorem CohB.dvs {n : Nat} {s : List Int × List Nat} (h : CohB n s) {w : Nat} (hw : w < n) {d : Int} (hd : 0 ≤ d) (hd2 : d ≤ s.2.length + 1) : CohB n (dvs d s w) ∧ s.2.length ≤ (dvs d s w).2.length := by
  obtain ⟨h1, h2⟩ := dvs_coh h.coh hw hd
  have h3 : s.2.length ≤ (Go.Gra.dvs d s w).2.length := by rw [h2]; exact vst_len _ _
  refine ⟨⟨h1, ?_, fun y hy => ?_, fun y hy => ?_⟩, h3⟩
  · rw [h2]; unfold vst
    split
    · exact h.nd
    · rename_i hx; exact nodup_snoc' h.nd hx
  · have ht := h.top y hy
    unfold Go.Gra.dvs
    split
    · dsimp only
      rw [nth_set, List.length_append, List.length_singleton]
      split <;> omega
    · exact ht
  · have ht := h.low y hy
    unfold Go.Gra.dvs
    split
    · dsimp only
      rw [nth_set]
      split <;> omega
    · exact ht
theorem CohB.dvsl {n : Nat} {d : Int} (hd : 0 ≤ d) : ∀ {l : List Nat} {s : List Int × List Nat}, CohB n s → d ≤ s.2.length + 1 → (∀ w ∈ l, w < n) → CohB n (l.foldl (Go.Gra.dvs d) s)
  | [], _, h, _, _ => h
  | w :: l, s, h, h2, hl => by
    obtain ⟨h3, h4⟩ := h.dvs (hl w (by simp)) hd h2
    rw [List.foldl_cons]
    exact CohB.dvsl hd h3 (by omega) fun y hy => hl y (List.mem_cons_of_mem _ hy)
theorem dvs_prefix (d : Int) (s : List Int × List Nat) (w : Nat) : s.2 <+: (dvs d s w).2 := by
  unfold dvs
  split
  · exact List.prefix_append _ _
  · exact List.prefix_refl _
theorem dvsl_prefix (d : Int) : ∀ (l : List Nat) (s : List Int × List Nat), s.2 <+: (l.foldl (dvs d) s).2
  | [], _ => List.prefix_refl _
  | w :: l, s => (dvs_prefix d s w).trans (dvsl_prefix d l (dvs d s w))
theorem nth_prefix {a b : List Nat} (h : a <+: b) {i : Nat} (hi : i < a.length) : nth b i = nth a i := by
  obtain ⟨c, rfl⟩ := h
  rw [nth_eq _ _ hi, nth_eq _ _ (by rw [List.length_append]; omega), List.getElem_append_left hi]
theorem dvsl_old {n : Nat} {d : Int} (hd : 0 ≤ d) {x : Nat} : ∀ {l : List Nat} {s : List Int × List Nat}, Coh n s → x ∈ s.2 → (∀ w ∈ l, w < n) → nth (l.foldl (dvs d) s).1 x = nth s.1 x
  | [], _, _, _, _ => rfl
  | w :: l, s, h, hx, hl => by
    obtain ⟨h1, h2⟩ := dvs_old h hx (w := w) d
    rw [List.foldl_cons, dvsl_old hd (dvs_coh h (hl w (by simp)) hd).1 h1 fun y hy => hl y (List.mem_cons_of_mem _ hy), h2]
/-- The start with one root. -/
def root0 (n r : Nat) : List Int × List Nat := ((List.replicate n (-1 : Int)).set r 0, [r])
theorem root0_dS {n r : Nat} (h : r < n) : dS (n : Int) [(r : Int)] = root0 n r := by
  have hv : nodeB (n : Int) (r : Int) = true := nodeB_iff.2 ⟨by omega, by omega⟩
  have hn1 : nth (List.replicate n (-1 : Int)) r < 0 := by rw [nth_eq _ _ (by simpa using h)]; simp
  simp only [dS, List.foldl_cons, List.foldl_nil, hv, if_true, Int.toNat_natCast, root0]
  unfold dvs
  rw [if_pos hn1]; rfl
theorem root0_coh {n r : Nat} (h : r < n) : CohB n (root0 n r) := by
  have h1 : dvs 0 (List.replicate n (-1 : Int), []) r = root0 n r := by
    unfold dvs
    rw [if_pos (by rw [nth_eq _ _ (by simpa using h)]; simp)]; rfl
  have h2 := (dvs_coh (coh_start n) h (d := 0) (Int.le_refl _)).1
  rw [h1] at h2
  refine ⟨h2, by simp [root0], fun w hw => ?_, fun w hw => ?_⟩
  all_goals
    simp only [root0, nth_set, List.length_replicate, List.length_singleton]
    split
    · omega
    · rw [nth_eq _ _ (by simpa using hw), List.getElem_replicate]; omega
theorem dG_cohB {g : G} (h : VG g) : ∀ (k i : Nat) (s : List Int × List Nat), CohB g.n.toNat s → CohB g.n.toNat (dG g.es k i s)
  | 0, _, _, hs => hs
  | k + 1, i, s, hs => by
    unfold dG
    split
    · rename_i hlt
      have hq := nth_mem _ _ hlt
      have hv := hs.coh.mem _ hq
      have hd := (hs.coh.iff _ hv).2 hq
      have ht := hs.top _ hv
      exact dG_cohB h k (i + 1) _ (CohB.dvsl (d := nth s.1 (nth s.2 i) + 1) (by omega) hs (by omega) fun w hw => suc_node h hw)
    · exact hs
theorem distL_top {g : G} (h : VG g) {r : Nat} (hr : r < g.n.toNat) {w : Nat} (hw : w < g.n.toNat) : nth (distL g [(r : Int)]) w ≤ g.n.toNat := by
  have hnn : (g.n.toNat : Int) = g.n := Int.toNat_of_nonneg h.n0
  have hs : dS g.n [(r : Int)] = root0 g.n.toNat r := by rw [← root0_dS hr, hnn]
  unfold distL
  rw [hs]
  have h1 := dG_cohB h (g.n.toNat + 1) 0 _ (root0_coh hr)
  have h2 := h1.top w hw
  have h3 := h1.qlen
  omega
end Go.Gra
