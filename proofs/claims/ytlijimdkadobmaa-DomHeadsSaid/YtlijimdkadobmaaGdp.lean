/- Plain: the distances as both breadth-first searches compute them; their queue is that of Reach. -/
import Derived.Test.YtlijimdkadobmaaGrz
namespace Go.Gra
open Go.Dfl (nth nth_mem mem_nth nth_eq nth_ext nth_set)
/-- One node that is met at the distance d. -/
def dvs (d : Int) (s : List Int × List Nat) (w : Nat) : List Int × List Nat := if nth s.1 w < 0 then (s.1.set w d, s.2 ++ [w]) else s
/-- The queue from its i-th node on, for k rounds at most. -/
def dG (es : List (Int × Int)) : Nat → Nat → List Int × List Nat → List Int × List Nat
  | 0, _, s => s
  | k + 1, i, s => if i < s.2.length then dG es k (i + 1) ((suc es (nth s.2 i)).foldl (dvs (nth s.1 (nth s.2 i) + 1)) s) else s
/-- The distances are known of just the nodes in the queue. -/
structure Coh (n : Nat) (s : List Int × List Nat) : Prop where
  len : s.1.length = n
  mem : ∀ w ∈ s.2, w < n
  iff : ∀ w, w < n → (0 ≤ nth s.1 w ↔ w ∈ s.2)
theorem dvs_coh {n : Nat} {s : List Int × List Nat} (h : Coh n s) {w : Nat} (hw : w < n) {d : Int} (hd : 0 ≤ d) : Coh n (dvs d s w) ∧ (dvs d s w).2 = vst s.2 w := by
  unfold dvs vst
  have hi := h.iff w hw
  by_cases h0 : nth s.1 w < 0
  · have hn : ¬ w ∈ s.2 := fun hm => by have := hi.2 hm; omega
    rw [if_pos h0, if_neg hn]
    refine ⟨⟨by rw [List.length_set]; exact h.len, fun y hy => ?_, fun y hy => ?_⟩, rfl⟩
    · rcases List.mem_append.1 hy with h1 | h1
      · exact h.mem y h1
      · rw [List.mem_singleton.1 h1]; exact hw
    · rw [nth_set, List.mem_append, List.mem_singleton]
      by_cases e : w = y
      · subst e; rw [if_pos ⟨rfl, by rw [h.len]; exact hw⟩]; exact ⟨fun _ => .inr rfl, fun _ => hd⟩
      · rw [if_neg (fun h => e h.1), h.iff y hy]
        exact ⟨.inl, fun h1 => h1.resolve_right fun e2 => e e2.symm⟩
  · rw [if_neg h0, if_pos (hi.1 (by omega))]
    exact ⟨h, rfl⟩
theorem dvsl_coh {n : Nat} {d : Int} (hd : 0 ≤ d) : ∀ {l : List Nat} {s : List Int × List Nat}, Coh n s → (∀ w ∈ l, w < n) → Coh n (l.foldl (dvs d) s) ∧ (l.foldl (dvs d) s).2 = l.foldl vst s.2
  | [], _, h, _ => ⟨h, rfl⟩
  | w :: l, s, h, hl => by
    obtain ⟨h1, h2⟩ := dvs_coh h (hl w (by simp)) hd
    obtain ⟨h3, h4⟩ := dvsl_coh hd (l := l) h1 fun y hy => hl y (List.mem_cons_of_mem _ hy)
    exact ⟨h3, by rw [List.foldl_cons, List.foldl_cons, h4, h2]⟩
theorem dG_coh {g : G} (h : VG g) : ∀ (k i : Nat) (s : List Int × List Nat), Coh g.n.toNat s → Coh g.n.toNat (dG g.es k i s) ∧ (dG g.es k i s).2 = bfsG g.es k i s.2
  | 0, _, _, hs => ⟨hs, rfl⟩
  | k + 1, i, s, hs => by
    unfold dG bfsG
    by_cases hlt : i < s.2.length
    · rw [if_pos hlt, if_pos hlt]
      have hq := nth_mem _ _ hlt
      have hd := (hs.iff _ (hs.mem _ hq)).2 hq
      obtain ⟨h1, h2⟩ := dvsl_coh (d := nth s.1 (nth s.2 i) + 1) (by omega) (l := suc g.es (nth s.2 i)) hs fun w hw => suc_node h hw
      obtain ⟨h3, h4⟩ := dG_coh h k (i + 1) _ h1
      exact ⟨h3, by rw [h4, h2]⟩
    · rw [if_neg hlt, if_neg hlt]
      exact ⟨hs, rfl⟩
/-- The start: the nodes that are asked for are met at the distance 0. -/
def dS (n : Int) (l : List Int) : List Int × List Nat := l.foldl (fun s v => if nodeB n v then dvs 0 s v.toNat else s) (List.replicate n.toNat (-1), [])
theorem coh_start (n : Nat) : Coh n (List.replicate n (-1), []) := ⟨by simp, fun w hw => by simp at hw, fun w hw => by
  rw [nth_eq _ _ (by simpa using hw)]; simp⟩
theorem dSl_coh {n : Int} : ∀ {l : List Int} {s : List Int × List Nat}, Coh n.toNat s → Coh n.toNat (l.foldl (fun s v => if nodeB n v then dvs 0 s v.toNat else s) s) ∧ (l.foldl (fun s v => if nodeB n v then dvs 0 s v.toNat else s) s).2 = l.foldl (fun o v => if nodeB n v then vst o v.toNat else o) s.2
  | [], s, h => ⟨h, rfl⟩
  | v :: l, s, h => by
    rw [List.foldl_cons, List.foldl_cons]
    by_cases hv : nodeB n v = true
    · rw [if_pos hv, if_pos hv]
      obtain ⟨h1, h2⟩ := dvs_coh (d := 0) h (w := v.toNat) (by have := nodeB_iff.1 hv; omega) (Int.le_refl _)
      rw [← h2]
      exact dSl_coh h1
    · rw [if_neg hv, if_neg hv]
      exact dSl_coh h
/-- The distances. -/
def distL (g : G) (l : List Int) : List Int := (dG g.es (g.n.toNat + 1) 0 (dS g.n l)).1
theorem distL_len {g : G} (h : VG g) (l : List Int) : (distL g l).length = g.n.toNat := (dG_coh h _ _ _ (dSl_coh (coh_start _)).1).1.len
theorem distL_reach {g : G} (h : VG g) {l : List Int} {y : Nat} (hy : y < g.n.toNat) : 0 ≤ nth (distL g l) y ↔ y ∈ reachL g l := by
  obtain ⟨h1, h2⟩ := dSl_coh (n := g.n) (l := l) (coh_start g.n.toNat)
  obtain ⟨h3, h4⟩ := dG_coh h (g.n.toNat + 1) 0 _ h1
  have h5 := h3.iff y hy
  rw [h4, h2] at h5
  exact h5
end Go.Gra
