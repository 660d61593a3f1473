/- Plain: every distance but 0 comes from a node that is nearer. -/
import Derived.Test.YtlijimdkadobmaaGdp
namespace Go.Gra
open Go.Dfl (nth nth_mem mem_nth nth_eq nth_ext nth_set)
/-- Where the distances come from. -/
def Stp (es : List (Int × Int)) (st : List Nat) (s : List Int × List Nat) : Prop := ∀ w ∈ s.2, (nth s.1 w = 0 ∧ w ∈ st) ∨ ∃ u ∈ s.2, w ∈ suc es u ∧ nth s.1 w = nth s.1 u + 1
theorem dvs_old {n : Nat} {s : List Int × List Nat} (h : Coh n s) {w x : Nat} (hx : x ∈ s.2) (d : Int) : x ∈ (dvs d s w).2 ∧ nth (dvs d s w).1 x = nth s.1 x := by
  have h0 := (h.iff x (h.mem x hx)).2 hx
  unfold dvs
  split
  · rename_i h1
    refine ⟨List.mem_append.2 (.inl hx), ?_⟩
    rw [nth_set, if_neg]
    rintro ⟨rfl, -⟩; omega
  · exact ⟨hx, rfl⟩
theorem dvs_stp {n : Nat} {es : List (Int × Int)} {st : List Nat} {s : List Int × List Nat} (h : Coh n s) (hs : Stp es st s) {u w : Nat} (hu : u ∈ s.2) (hw : w ∈ suc es u) (hwn : w < n) : Stp es st (dvs (nth s.1 u + 1) s w) := by
  intro x hx
  by_cases hxo : x ∈ s.2
  · obtain ⟨-, e1⟩ := dvs_old h hxo (w := w) (nth s.1 u + 1)
    rcases hs x hxo with h1 | ⟨y, hy, h2, h3⟩
    · exact .inl ⟨by rw [e1]; exact h1.1, h1.2⟩
    · obtain ⟨e2, e3⟩ := dvs_old h hy (w := w) (nth s.1 u + 1)
      exact .inr ⟨y, e2, h2, by rw [e1, e3]; exact h3⟩
  · obtain ⟨e2, e3⟩ := dvs_old h hu (w := w) (nth s.1 u + 1)
    refine .inr ⟨u, e2, ?_⟩
    rw [e3]
    have hi := h.iff w hwn
    unfold dvs at hx ⊢
    by_cases h0 : nth s.1 w < 0
    · rw [if_pos h0] at hx ⊢
      rcases List.mem_append.1 hx with h1 | h1
      · exact absurd h1 hxo
      · obtain rfl := List.mem_singleton.1 h1
        exact ⟨hw, by rw [nth_set, if_pos ⟨rfl, by rw [h.len]; exact hwn⟩]⟩
    · rw [if_neg h0] at hx
      exact absurd hx hxo
theorem dvsl_stp {n : Nat} {es : List (Int × Int)} {st : List Nat} {u : Nat} {d : Int} : ∀ {l : List Nat} {s : List Int × List Nat}, Coh n s → Stp es st s → u ∈ s.2 → d = nth s.1 u + 1 → (∀ w ∈ l, w ∈ suc es u ∧ w < n) → Stp es st (l.foldl (dvs d) s)
  | [], _, _, hs, _, _, _ => hs
  | w :: l, s, h, hs, hu, hd, hl => by
    subst hd
    obtain ⟨h1, h2⟩ := hl w (by simp)
    have h0 := (h.iff u (h.mem u hu)).2 hu
    obtain ⟨e1, e2⟩ := dvs_old h hu (w := w) (nth s.1 u + 1)
    rw [List.foldl_cons]
    exact dvsl_stp (dvs_coh h h2 (by omega)).1 (dvs_stp h hs hu h1 h2) e1 (by rw [e2]) fun y hy => hl y (List.mem_cons_of_mem _ hy)
theorem dG_stp {g : G} (h : VG g) {st : List Nat} : ∀ (k i : Nat) (s : List Int × List Nat), Coh g.n.toNat s → Stp g.es st s → Stp g.es st (dG g.es k i s)
  | 0, _, _, _, hs => hs
  | k + 1, i, s, hc, hs => by
    unfold dG
    split
    · rename_i hlt
      have hq := nth_mem _ _ hlt
      have hd := (hc.iff _ (hc.mem _ hq)).2 hq
      exact dG_stp h k (i + 1) _ (dvsl_coh (d := nth s.1 (nth s.2 i) + 1) (by omega) hc fun w hw => suc_node h hw).1 (dvsl_stp hc hs hq rfl fun w hw => ⟨hw, suc_node h hw⟩)
    · exact hs
/-- One root: a distance is 0 at the root alone; any other comes from a node that is nearer by 1. -/
theorem distL_step {g : G} (h : VG g) {r : Nat} (hr : nodeB g.n r = true) {w : Nat} (hw : w < g.n.toNat) (h0 : 0 ≤ nth (distL g [(r : Int)]) w) :
    (nth (distL g [(r : Int)]) w = 0 ∧ w = r) ∨ ∃ u, u < g.n.toNat ∧ w ∈ suc g.es u ∧ 0 ≤ nth (distL g [(r : Int)]) u ∧ nth (distL g [(r : Int)]) w = nth (distL g [(r : Int)]) u + 1 := by
  have hrn : r < g.n.toNat := by have := nodeB_iff.1 hr; omega
  have hc := (dvs_coh (coh_start g.n.toNat) hrn (d := 0) (Int.le_refl _)).1
  have he : dS g.n [(r : Int)] = dvs 0 (List.replicate g.n.toNat (-1), []) r := by simp [dS, hr]
  have hn1 : nth (List.replicate g.n.toNat (-1 : Int)) r < 0 := by rw [nth_eq _ _ (by simpa using hrn)]; simp
  have hs : Stp g.es [r] (dvs 0 (List.replicate g.n.toNat (-1), []) r) := by
    unfold dvs
    rw [if_pos hn1]
    intro x hx
    obtain rfl := List.mem_singleton.1 (by simpa using hx)
    exact .inl ⟨by rw [nth_set, if_pos ⟨rfl, by simpa using hrn⟩], by simp⟩
  have hC := (dG_coh h (g.n.toNat + 1) 0 _ hc).1
  have hS := dG_stp h (g.n.toNat + 1) 0 _ hc hs
  unfold distL at h0 ⊢
  rw [he] at h0 ⊢
  rcases hS w ((hC.iff w hw).1 h0) with ⟨h1, h2⟩ | ⟨u, hu, h2, h3⟩
  · exact .inl ⟨h1, List.mem_singleton.1 h2⟩
  · exact .inr ⟨u, hC.mem u hu, h2, (hC.iff u (hC.mem u hu)).2 hu, h3⟩
end Go.Gra
