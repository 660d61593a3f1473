/- Plain: the distances as both breadth-first searches compute them; their queue is that of Reach. -/
import Derived.Test.YtchmjgjagaaomaaGt
import Derived.Test.YtchmjgjagaaomaaGa
namespace Go.Gra
open Go.Dfl (nth nth_mem mem_nth nth_eq nth_ext nth_set)
/-- One node that is met at the distance d. -/
def dvs (d : Int) (s : List Int × List Nat) (w : Nat) : List Int × List Nat := if nth s.1 w < 0 then (s.1.set w d, s.2 ++ [w]) else s
/-- The queue from its i-th node on, for k rounds at most. -/
def dG (es : List (Int × Int)) : Nat → Nat → List Int × List Nat → List Int × List Nat
  | 0, _, s => s
  | k + 1, i, s => if i < s.2.length then dG es k (i + 1) ((suc es (nth s.2 i)).foldl (dvs (nth s.1 (nth s.2 i) + 1)) s) else s
/-- The distances are known of just the nodes in the queue. -/
structure Coh (n : Nat) (s : List Int × List Nat) : Prop where
  len : s.1.length = n
  mem : ∀ w ∈ s.2, w < n
  iff : ∀ w, w < n → (0 ≤ nth s.1 w ↔ w ∈ s.2)
theorem dvs_coh {n : Nat} {s : List Int × List Nat} (h : Coh n s) {w : Nat} (hw : w < n) {d : Int} (hd : 0 ≤ d) : Coh n (dvs d s w) ∧ (dvs d s w).2 = vst s.2 w := by
  unfold dvs vst
  have hi := h.iff w hw
  by_cases h0 : nth s.1 w < 0
  · have hn : ¬ w ∈ s.2 := fun hm => by have := hi.2 hm; omega
    rw [if_pos h0, if_neg hn]
    refine ⟨⟨by rw [List.length_set]; exact h.len, fun y hy => ?_, fun y hy => ?_⟩, rfl⟩
    · rcases List.mem_append.1 hy with h1 | h1
      · exact h.mem y h1
      · rw [List.mem_singleton.1 h1]; exact hw
    · rw [nth_set, List.mem_append, List.mem_singleton]
      by_cases e : w = y
      · subst e; rw [if_pos ⟨rfl, by rw [h.len]; exact hw⟩]; exact ⟨fun _ => .inr rfl, fun _ => hd⟩
      · rw [if_neg (fun h => e h.1), h.iff y hy]
        exact ⟨.inl, fun h1 => h1.resolve_right fun e2 => e e2.symm⟩
  · rw [if_neg h0, if_pos (hi.1 (by omega))]
    exact ⟨h, rfl⟩
theorem dvsl_coh {n : Nat} {d : Int} (hd : 0 ≤ d) : ∀ {l : List Nat} {s : List Int × List Nat}, Coh n s → (∀ w ∈ l, w < n) → Coh n (l.foldl (dvs d) s) ∧ (l.foldl (dvs d) s).2 = l.foldl vst s.2
  | [], _, h, _ => ⟨h, rfl⟩
  | w :: l, s, h, hl => by
    obtain ⟨h1, h2⟩ := dvs_coh h (hl w (by simp)) hd
    obtain ⟨h3, h4⟩ := dvsl_coh hd (l := l) h1 fun y hy => hl y (List.mem_cons_of_mem _ hy)
    exact ⟨h3, by rw [List.foldl_cons, List.foldl_cons, h4, h2]⟩
theorem dG_coh {g : G} (h : VG g) : ∀ (k i : Nat) (s : List Int × List Nat), Coh g.n.toNat s → Coh g.n.toNat (dG g.es k i s) ∧ (dG g.es k i s).2 = bfsG g.es k i s.2
  | 0, _, _, hs => ⟨hs, rfl⟩
  | k + 1, i, s, hs => by
    unfold dG bfsG
    by_cases hlt : i < s.2.length
    · rw [if_pos hlt, if_pos hlt]
      have hq := nth_mem _ _ hlt
      have hd := (hs.iff _ (hs.mem _ hq)).2 hq
      obtain ⟨h1, h2⟩ := dvsl_coh (d := nth s.1 (nth s.2 i) + 1) (by omega) (l := suc g.es (nth s.2 i)) hs fun w hw => suc_node h hw
      obtain ⟨h3, h4⟩ := dG_coh h k (i + 1) _ h1
      exact ⟨h3, by rw [h4, h2]⟩
    · rw [if_neg hlt, if_neg hlt]
      exact ⟨hs, rfl⟩
/-- The start: the nodes that are asked for are met at the distance 0. -/
def dS (n : Int) (l : List Int) : List Int × List Nat := l.foldl (fun s v => if nodeB n v then dvs 0 s v.toNat else s) (List.replicate n.toNat (-1), [])
theorem coh_start (n : Nat) : Coh n (List.replicate n (-1), []) := ⟨by simp, fun w hw => by simp at hw, fun w hw => by
  rw [nth_eq _ _ (by simpa using hw)]; simp⟩
theorem dSl_coh {n : Int} : ∀ {l : List Int} {s : List Int × List Nat}, Coh n.toNat s → Coh n.toNat (l.foldl (fun s v => if nodeB n v then dvs 0 s v.toNat else s) s) ∧ (l.foldl (fun s v => if nodeB n v then dvs 0 s v.toNat else s) s).2 = l.foldl (fun o v => if nodeB n v then vst o v.toNat else o) s.2
  | [], s, h => ⟨h, rfl⟩
  | v :: l, s, h => by
    rw [List.foldl_cons, List.foldl_cons]
    by_cases hv : nodeB n v = true
    · rw [if_pos hv, if_pos hv]
      obtain ⟨h1, h2⟩ := dvs_coh (d := 0) h (w := v.toNat) (by have := nodeB_iff.1 hv; omega) (Int.le_refl _)
      rw [← h2]
      exact dSl_coh h1
    · rw [if_neg hv, if_neg hv]
      exact dSl_coh h
/-- The distances. -/
def distL (g : G) (l : List Int) : List Int := (dG g.es (g.n.toNat + 1) 0 (dS g.n l)).1
theorem distL_len {g : G} (h : VG g) (l : List Int) : (distL g l).length = g.n.toNat := (dG_coh h _ _ _ (dSl_coh (coh_start _)).1).1.len
theorem distL_reach {g : G} (h : VG g) {l : List Int} {y : Nat} (hy : y < g.n.toNat) : 0 ≤ nth (distL g l) y ↔ y ∈ reachL g l := by
  obtain ⟨h1, h2⟩ := dSl_coh (n := g.n) (l := l) (coh_start g.n.toNat)
  obtain ⟨h3, h4⟩ := dG_coh h (g.n.toNat + 1) 0 _ h1
  have h5 := h3.iff y hy
  rw [h4, h2] at h5
  exact h5
end Go.Gra

/- Plain: every distance but 0 comes from a node that is nearer. -/
namespace Go.Gra
open Go.Dfl (nth nth_mem mem_nth nth_eq nth_ext nth_set)
/-- Where the distances come from. -/
def Stp (es : List (Int × Int)) (st : List Nat) (s : List Int × List Nat) : Prop := ∀ w ∈ s.2, (nth s.1 w = 0 ∧ w ∈ st) ∨ ∃ u ∈ s.2, w ∈ suc es u ∧ nth s.1 w = nth s.1 u + 1
theorem dvs_old {n : Nat} {s : List Int × List Nat} (h : Coh n s) {w x : Nat} (hx : x ∈ s.2) (d : Int) : x ∈ (dvs d s w).2 ∧ nth (dvs d s w).1 x = nth s.1 x := by
  have h0 := (h.iff x (h.mem x hx)).2 hx
  unfold dvs
  split
  · rename_i h1
    refine ⟨List.mem_append.2 (.inl hx), ?_⟩
    rw [nth_set, if_neg]
    rintro ⟨rfl, -⟩; omega
  · exact ⟨hx, rfl⟩
theorem dvs_stp {n : Nat} {es : List (Int × Int)} {st : List Nat} {s : List Int × List Nat} (h : Coh n s) (hs : Stp es st s) {u w : Nat} (hu : u ∈ s.2) (hw : w ∈ suc es u) (hwn : w < n) : Stp es st (dvs (nth s.1 u + 1) s w) := by
  intro x hx
  by_cases hxo : x ∈ s.2
  · obtain ⟨-, e1⟩ := dvs_old h hxo (w := w) (nth s.1 u + 1)
    rcases hs x hxo with h1 | ⟨y, hy, h2, h3⟩
    · exact .inl ⟨by rw [e1]; exact h1.1, h1.2⟩
    · obtain ⟨e2, e3⟩ := dvs_old h hy (w := w) (nth s.1 u + 1)
      exact .inr ⟨y, e2, h2, by rw [e1, e3]; exact h3⟩
  · obtain ⟨e2, e3⟩ := dvs_old h hu (w := w) (nth s.1 u + 1)
    refine .inr ⟨u, e2, ?_⟩
    rw [e3]
    have hi := h.iff w hwn
    unfold dvs at hx ⊢
    by_cases h0 : nth s.1 w < 0
    · rw [if_pos h0] at hx ⊢
      rcases List.mem_append.1 hx with h1 | h1
      · exact absurd h1 hxo
      · obtain rfl := List.mem_singleton.1 h1
        exact ⟨hw, by rw [nth_set, if_pos ⟨rfl, by rw [h.len]; exact hwn⟩]⟩
    · rw [if_neg h0] at hx
      exact absurd hx hxo
theorem dvsl_stp {n : Nat} {es : List (Int × Int)} {st : List Nat} {u : Nat} {d : Int} : ∀ {l : List Nat} {s : List Int × List Nat}, Coh n s → Stp es st s → u ∈ s.2 → d = nth s.1 u + 1 → (∀ w ∈ l, w ∈ suc es u ∧ w < n) → Stp es st (l.foldl (dvs d) s)
  | [], _, _, hs, _, _, _ => hs
  | w :: l, s, h, hs, hu, hd, hl => by
    subst hd
    obtain ⟨h1, h2⟩ := hl w (by simp)
    have h0 := (h.iff u (h.mem u hu)).2 hu
    obtain ⟨e1, e2⟩ := dvs_old h hu (w := w) (nth s.1 u + 1)
    rw [List.foldl_cons]
    exact dvsl_stp (dvs_coh h h2 (by omega)).1 (dvs_stp h hs hu h1 h2) e1 (by rw [e2]) fun y hy => hl y (List.mem_cons_of_mem _ hy)
theorem dG_stp {g : G} (h : VG g) {st : List Nat} : ∀ (k i : Nat) (s : List Int × List Nat), Coh g.n.toNat s → Stp g.es st s → Stp g.es st (dG g.es k i s)
  | 0, _, _, _, hs => hs
  | k + 1, i, s, hc, hs => by
    unfold dG
    split
    · rename_i hlt
      have hq := nth_mem _ _ hlt
      have hd := (hc.iff _ (hc.mem _ hq)).2 hq
      exact dG_stp h k (i + 1) _ (dvsl_coh (d := nth s.1 (nth s.2 i) + 1) (by omega) hc fun w hw => suc_node h hw).1 (dvsl_stp hc hs hq rfl fun w hw => ⟨hw, suc_node h hw⟩)
    · exact hs
/-- One root: a distance is 0 at the root alone; any other comes from a node that is nearer by 1. -/
theorem distL_step {g : G} (h : VG g) {r : Nat} (hr : nodeB g.n r = true) {w : Nat} (hw : w < g.n.toNat) (h0 : 0 ≤ nth (distL g [(r : Int)]) w) :
    (nth (distL g [(r : Int)]) w = 0 ∧ w = r) ∨ ∃ u, u < g.n.toNat ∧ w ∈ suc g.es u ∧ 0 ≤ nth (distL g [(r : Int)]) u ∧ nth (distL g [(r : Int)]) w = nth (distL g [(r : Int)]) u + 1 := by
  have hrn : r < g.n.toNat := by have := nodeB_iff.1 hr; omega
  have hc := (dvs_coh (coh_start g.n.toNat) hrn (d := 0) (Int.le_refl _)).1
  have he : dS g.n [(r : Int)] = dvs 0 (List.replicate g.n.toNat (-1), []) r := by simp [dS, hr]
  have hn1 : nth (List.replicate g.n.toNat (-1 : Int)) r < 0 := by rw [nth_eq _ _ (by simpa using hrn)]; simp
  have hs : Stp g.es [r] (dvs 0 (List.replicate g.n.toNat (-1), []) r) := by
    unfold dvs
    rw [if_pos hn1]
    intro x hx
    obtain rfl := List.mem_singleton.1 (by simpa using hx)
    exact .inl ⟨by rw [nth_set, if_pos ⟨rfl, by simpa using hrn⟩], by simp⟩
  have hC := (dG_coh h (g.n.toNat + 1) 0 _ hc).1
  have hS := dG_stp h (g.n.toNat + 1) 0 _ hc hs
  unfold distL at h0 ⊢
  rw [he] at h0 ⊢
  rcases hS w ((hC.iff w hw).1 h0) with ⟨h1, h2⟩ | ⟨u, hu, h2, h3⟩
  · exact .inl ⟨h1, List.mem_singleton.1 h2⟩
  · exact .inr ⟨u, hC.mem u hu, h2, (hC.iff u (hC.mem u hu)).2 hu, h3⟩
end Go.Gra

/- Plain: bounds of the distances, and what a visit leaves as it is. -/
namespace Go.Gra
open Go.Dfl (nth nth_mem mem_nth nth_eq nth_ext nth_set)
theorem Rch.trans {es : List (Int × Int)} {a b c : Nat} (h : Rch es a b) (k : Rch es b c) : Rch es a c := by
  induction k with
  | refl => exact h
  | step _ hy ih => exact .step ih hy
theorem Rch.one {es : List (Int × Int)} {a b : Nat} (h : b ∈ suc es a) : Rch es a b := .step (.refl _) h
theorem nodup_le {α : Type} [DecidableEq α] : ∀ (l m : List α), l.Nodup → (∀ x ∈ l, x ∈ m) → l.length ≤ m.length
  | [], _, _, _ => by simp
  | a :: l, m, hn, h => by
    rw [List.nodup_cons] at hn
    have h1 := nodup_le l (m.erase a) hn.2 fun x hx => by
      have hne : x ≠ a := fun e => hn.1 (e ▸ hx)
      exact (List.mem_erase_of_ne hne).2 (h x (List.mem_cons_of_mem _ hx))
    have h2 := List.length_erase_of_mem (h a (by simp))
    have h3 : 0 < m.length := List.length_pos_of_mem (h a (by simp))
    simp only [List.length_cons]
    omega
theorem nodup_snoc' {o : List Nat} {x : Nat} (h : o.Nodup) (hx : ¬ x ∈ o) : (o ++ [x]).Nodup := by
  rw [List.nodup_append]
  exact ⟨h, by simp, fun a ha b hb e => by rw [List.mem_singleton.1 hb] at e; exact hx (e ▸ ha)⟩
/-- The state of the search, with its bounds. -/
structure CohB (n : Nat) (s : List Int × List Nat) : Prop where
  coh : Coh n s
  nd : s.2.Nodup
  top : ∀ w, w < n → nth s.1 w ≤ s.2.length
  low : ∀ w, w < n → -1 ≤ nth s.1 w
theorem CohB.qlen {n : Nat} {s : List Int × List Nat} (h : CohB n s) : s.2.length ≤ n := nodup_len n s.2 h.nd h.coh.mem
theorem CohB.dvs {n : Nat} {s : List Int × List Nat} (h : CohB n s) {w : Nat} (hw : w < n) {d : Int} (hd : 0 ≤ d) (hd2 : d ≤ s.2.length + 1) : CohB n (dvs d s w) ∧ s.2.length ≤ (dvs d s w).2.length := by
  obtain ⟨h1, h2⟩ := dvs_coh h.coh hw hd
  have h3 : s.2.length ≤ (Go.Gra.dvs d s w).2.length := by rw [h2]; exact vst_len _ _
  refine ⟨⟨h1, ?_, fun y hy => ?_, fun y hy => ?_⟩, h3⟩
  · rw [h2]; unfold vst
    split
    · exact h.nd
    · rename_i hx; exact nodup_snoc' h.nd hx
  · have ht := h.top y hy
    unfold Go.Gra.dvs
    split
    · dsimp only
      rw [nth_set, List.length_append, List.length_singleton]
      split <;> omega
    · exact ht
  · have ht := h.low y hy
    unfold Go.Gra.dvs
    split
    · dsimp only
      rw [nth_set]
      split <;> omega
    · exact ht
theorem CohB.dvsl {n : Nat} {d : Int} (hd : 0 ≤ d) : ∀ {l : List Nat} {s : List Int × List Nat}, CohB n s → d ≤ s.2.length + 1 → (∀ w ∈ l, w < n) → CohB n (l.foldl (Go.Gra.dvs d) s)
  | [], _, h, _, _ => h
  | w :: l, s, h, h2, hl => by
    obtain ⟨h3, h4⟩ := h.dvs (hl w (by simp)) hd h2
    rw [List.foldl_cons]
    exact CohB.dvsl hd h3 (by omega) fun y hy => hl y (List.mem_cons_of_mem _ hy)
theorem dvs_prefix (d : Int) (s : List Int × List Nat) (w : Nat) : s.2 <+: (dvs d s w).2 := by
  unfold dvs
  split
  · exact List.prefix_append _ _
  · exact List.prefix_refl _
theorem dvsl_prefix (d : Int) : ∀ (l : List Nat) (s : List Int × List Nat), s.2 <+: (l.foldl (dvs d) s).2
  | [], _ => List.prefix_refl _
  | w :: l, s => (dvs_prefix d s w).trans (dvsl_prefix d l (dvs d s w))
theorem nth_prefix {a b : List Nat} (h : a <+: b) {i : Nat} (hi : i < a.length) : nth b i = nth a i := by
  obtain ⟨c, rfl⟩ := h
  rw [nth_eq _ _ hi, nth_eq _ _ (by rw [List.length_append]; omega), List.getElem_append_left hi]
theorem dvsl_old {n : Nat} {d : Int} (hd : 0 ≤ d) {x : Nat} : ∀ {l : List Nat} {s : List Int × List Nat}, Coh n s → x ∈ s.2 → (∀ w ∈ l, w < n) → nth (l.foldl (dvs d) s).1 x = nth s.1 x
  | [], _, _, _, _ => rfl
  | w :: l, s, h, hx, hl => by
    obtain ⟨h1, h2⟩ := dvs_old h hx (w := w) d
    rw [List.foldl_cons, dvsl_old hd (dvs_coh h (hl w (by simp)) hd).1 h1 fun y hy => hl y (List.mem_cons_of_mem _ hy), h2]
/-- The start with one root. -/
def root0 (n r : Nat) : List Int × List Nat := ((List.replicate n (-1 : Int)).set r 0, [r])
theorem root0_dS {n r : Nat} (h : r < n) : dS (n : Int) [(r : Int)] = root0 n r := by
  have hv : nodeB (n : Int) (r : Int) = true := nodeB_iff.2 ⟨by omega, by omega⟩
  have hn1 : nth (List.replicate n (-1 : Int)) r < 0 := by rw [nth_eq _ _ (by simpa using h)]; simp
  simp only [dS, List.foldl_cons, List.foldl_nil, hv, if_true, Int.toNat_natCast, root0]
  unfold dvs
  rw [if_pos hn1]; rfl
theorem root0_coh {n r : Nat} (h : r < n) : CohB n (root0 n r) := by
  have h1 : dvs 0 (List.replicate n (-1 : Int), []) r = root0 n r := by
    unfold dvs
    rw [if_pos (by rw [nth_eq _ _ (by simpa using h)]; simp)]; rfl
  have h2 := (dvs_coh (coh_start n) h (d := 0) (Int.le_refl _)).1
  rw [h1] at h2
  refine ⟨h2, by simp [root0], fun w hw => ?_, fun w hw => ?_⟩
  all_goals
    simp only [root0, nth_set, List.length_replicate, List.length_singleton]
    split
    · omega
    · rw [nth_eq _ _ (by simpa using hw), List.getElem_replicate]; omega
theorem dG_cohB {g : G} (h : VG g) : ∀ (k i : Nat) (s : List Int × List Nat), CohB g.n.toNat s → CohB g.n.toNat (dG g.es k i s)
  | 0, _, _, hs => hs
  | k + 1, i, s, hs => by
    unfold dG
    split
    · rename_i hlt
      have hq := nth_mem _ _ hlt
      have hv := hs.coh.mem _ hq
      have hd := (hs.coh.iff _ hv).2 hq
      have ht := hs.top _ hv
      exact dG_cohB h k (i + 1) _ (CohB.dvsl (d := nth s.1 (nth s.2 i) + 1) (by omega) hs (by omega) fun w hw => suc_node h hw)
    · exact hs
theorem distL_top {g : G} (h : VG g) {r : Nat} (hr : r < g.n.toNat) {w : Nat} (hw : w < g.n.toNat) : nth (distL g [(r : Int)]) w ≤ g.n.toNat := by
  have hnn : (g.n.toNat : Int) = g.n := Int.toNat_of_nonneg h.n0
  have hs : dS g.n [(r : Int)] = root0 g.n.toNat r := by rw [← root0_dS hr, hnn]
  unfold distL
  rw [hs]
  have h1 := dG_cohB h (g.n.toNat + 1) 0 _ (root0_coh hr)
  have h2 := h1.top w hw
  have h3 := h1.qlen
  omega
end Go.Gra

/- The memory of distances. -/
namespace Go.Proofs.Ytchmjgjagaaomaa
open Go.RowKit Go.Dfl Go.Gra Go.Shelf

theorem own_one' {α : Type} (f : α → Value) {w : World} {base : Nat} {e : TypeId} {B : Nat} (x : α) (h : B = w.heap.size) (hb : base ≤ w.heap.size) : Go.Dfl.Own f (w.alloc (.cells #[f x] e)) base e (.slice (some ⟨B, 0, none⟩) 1 1) [x] := by
  subst h
  exact World.ownsRow_lit (size := 1) w #[f x] 1 hb (by unfold maxLen; omega) rfl
theorem own_at {α : Type} {f : α → Value} {w : World} {base : Nat} {e : TypeId} {s : Option Addr} {n cap : Nat} {l : List α} (h : Go.Dfl.Own f w base e (.slice s n cap) l) (hn : 0 < l.length) : (Value.slice s n cap).ownBlock = some (blk s) ∧ ofs s = 0 := by
  obtain ⟨-, ⟨-, h3⟩ | ⟨g, cap2, cur, hv, -⟩⟩ := h
  · omega
  · simp only [Value.slice.injEq] at hv
    obtain ⟨rfl, -, -⟩ := hv
    exact ⟨rfl, rfl⟩
theorem frozen_kept {W W' : World} {row : Option Nat} {b : Nat} (hg : W.grownBy W' row) (hb : b < W.heap.size) (hr : some b ≠ row) (hf : W.frozen? ⟨b, 0, none⟩ = false) : W'.frozen? ⟨b, 0, none⟩ = false := by
  rw [World.frozen?_of_block (a := ⟨b, 0, none⟩) (hg.block b hb hr)]; exact hf
theorem frozen_alloc1 (W : World) (v : Value) (t : TypeId) : (W.alloc (.cells #[v] t)).frozen? ⟨W.heap.size, 0, none⟩ = false := by
  unfold World.frozen?; dsimp only; rw [heap_alloc_new]; simp
/-- The state of the first loop. -/
structure D1 (W1 : World) (bf n cap : Nat) (s : Option Addr) (l : List Int) (Z : World) : Prop where
  bx : Z.cell? ⟨bf, 0, none⟩ = some (.slice s n cap)
  row : OwnI Z W1.heap.size 3 (.slice s n cap) l
  bel : Below W1.heap.size W1 Z
  ge : W1.heap.size ≤ bf
  sep : ∀ k, (Value.slice s n cap).ownBlock = some k → k ≠ bf
  len : l.length = n
theorem D1.set {W1 : World} {bf n cap : Nat} {s : Option Addr} {l : List Int} {Z : World} (h : D1 W1 bf n cap s l Z) {i : Nat} (hi : i < n) (x : Int) : D1 W1 bf n cap s (l.set i x) (Z.setCell ⟨blk s, ofs s + i, none⟩ (.int .i64 x)) := by
  obtain ⟨ho, -⟩ := own_at h.row (by rw [h.len]; omega)
  have hlt := h.row.lt _ ho
  refine ⟨?_, h.row.set i x, h.bel.setCell (p := ⟨blk s, ofs s + i, none⟩) hlt.1 _, h.ge, h.sep, by rw [List.length_set]; exact h.len⟩
  exact (grownBy_setCell Z ⟨blk s, ofs s + i, none⟩ (.int .i64 x)).cell h.bx fun e => h.sep _ ho (Option.some.inj e).symm
/-- The state of the second loop: the distances (box bf), the queue (box bo), the place in it (box bi). -/
structure DsW (bf bo bi B n cap : Nat) (s : Option Addr) (t : List Int × List Nat) (ov : Value) (i : Nat) (W : World) : Prop where
  bx : W.cell? ⟨bf, 0, none⟩ = some (.slice s n cap)
  row : OwnI W B 3 (.slice s n cap) t.1
  lx : W.cell? ⟨bo, 0, none⟩ = some ov
  lfr : W.frozen? ⟨bo, 0, none⟩ = false
  lst : OwnI W B 3 ov (t.2.map fun x : Nat => (x : Int))
  ix : W.cell? ⟨bi, 0, none⟩ = some (.int .i64 (i : Int))
  ifr : W.frozen? ⟨bi, 0, none⟩ = false
  ne : bf ≠ bo ∧ bf ≠ bi ∧ bo ≠ bi ∧ B ≤ bf ∧ B ≤ bo ∧ B ≤ bi ∧ B ≤ W.heap.size
  sep : ∀ k, (Value.slice s n cap).ownBlock = some k → k ≠ bf ∧ k ≠ bo ∧ k ≠ bi ∧ ov.ownBlock ≠ some k
  sep2 : ∀ k, ov.ownBlock = some k → k ≠ bf ∧ k ≠ bo ∧ k ≠ bi
  coh : CohB n t
section
variable {bf bo bi B n cap : Nat} {s : Option Addr} {t : List Int × List Nat} {ov : Value} {i : Nat} {W W' : World}
theorem DsW.lts (h : DsW bf bo bi B n cap s t ov i W) : bf < W.heap.size ∧ bo < W.heap.size ∧ bi < W.heap.size :=
  ⟨World.block_lt_of_cell? W ⟨bf, 0, none⟩ h.bx, World.block_lt_of_cell? W ⟨bo, 0, none⟩ h.lx, World.block_lt_of_cell? W ⟨bi, 0, none⟩ h.ix⟩
theorem DsW.grown (h : DsW bf bo bi B n cap s t ov i W) {row : Option Nat} (hg : W.grownBy W' row) (hr : ∀ k, row = some k → k ≠ bf ∧ k ≠ bo ∧ k ≠ bi ∧ (Value.slice s n cap).ownBlock ≠ some k ∧ ov.ownBlock ≠ some k) : DsW bf bo bi B n cap s t ov i W' := by
  obtain ⟨l1, l2, l3⟩ := h.lts
  obtain ⟨n1, n2, n3, n4, n5, n6, n7⟩ := h.ne
  refine ⟨hg.cell h.bx fun e => (hr _ e.symm).1 rfl, h.row.grown hg ?_, hg.cell h.lx fun e => (hr _ e.symm).2.1 rfl, frozen_kept hg l2 (fun e => (hr _ e.symm).2.1 rfl) h.lfr, h.lst.grown hg ?_, hg.cell h.ix fun e => (hr _ e.symm).2.2.1 rfl, frozen_kept hg l3 (fun e => (hr _ e.symm).2.2.1 rfl) h.ifr, ⟨n1, n2, n3, n4, n5, n6, Nat.le_trans n7 hg.size⟩, h.sep, h.sep2, h.coh⟩
  · cases e : row with
    | none => cases (Value.slice s n cap).ownBlock <;> simp
    | some k => exact .inr (hr k e).2.2.2.1
  · cases e : row with
    | none => cases ov.ownBlock <;> simp
    | some k => exact .inr (hr k e).2.2.2.2
theorem D1.start {W1 : World} {bf n cap r : Nat} {s : Option Addr} {Z : World} (h : D1 W1 bf n cap s (List.replicate n (-1)) Z) (hr : r < n) :
    DsW bf (Z.heap.size + 1) (Z.heap.size + 1 + 1) W1.heap.size n cap s (root0 n r) (.slice (some ⟨Z.heap.size, 0, none⟩) 1 1) 0 ((((Z.setCell ⟨blk s, ofs s + r, none⟩ (.int .i64 0)).alloc (.cells #[.int .i64 (r : Int)] 3)).alloc (.cells #[.slice (some ⟨Z.heap.size, 0, none⟩) 1 1] 32)).alloc (.cells #[.int .i64 0] 3))
    ∧ Below W1.heap.size W1 ((((Z.setCell ⟨blk s, ofs s + r, none⟩ (.int .i64 0)).alloc (.cells #[.int .i64 (r : Int)] 3)).alloc (.cells #[.slice (some ⟨Z.heap.size, 0, none⟩) 1 1] 32)).alloc (.cells #[.int .i64 0] 3)) := by
  have h1 := h.set hr 0
  obtain ⟨ho, -⟩ := own_at h.row (by rw [h.len]; omega)
  have hlt := h.row.lt _ ho
  have hbf := World.block_lt_of_cell? Z ⟨bf, 0, none⟩ h.bx
  dsimp only at hbf
  have hsz : (Z.setCell ⟨blk s, ofs s + r, none⟩ (.int .i64 0)).heap.size = Z.heap.size := World.size_setCell _ _ _
  generalize Z.setCell ⟨blk s, ofs s + r, none⟩ (.int .i64 0) = V at *
  rw [← hsz] at hlt hbf ⊢
  have gA := grownBy_alloc V (.cells #[.int .i64 (r : Int)] 3)
  have gB := grownBy_alloc (V.alloc (.cells #[.int .i64 (r : Int)] 3)) (.cells #[.slice (some ⟨V.heap.size, 0, none⟩) 1 1] 32)
  have gC := grownBy_alloc ((V.alloc (.cells #[.int .i64 (r : Int)] 3)).alloc (.cells #[.slice (some ⟨V.heap.size, 0, none⟩) 1 1] 32)) (.cells #[.int .i64 0] 3)
  have hVB := h1.bel.size
  have ho1 := own_one' (Value.int .i64) (w := V) (base := W1.heap.size) (e := 3) (B := V.heap.size) (r : Int) rfl hVB
  have c2 := cell_alloc1 (V.alloc (.cells #[.int .i64 (r : Int)] 3)) (.slice (some ⟨V.heap.size, 0, none⟩) 1 1) 32
  have f2 := frozen_alloc1 (V.alloc (.cells #[.int .i64 (r : Int)] 3)) (.slice (some ⟨V.heap.size, 0, none⟩) 1 1) 32
  have c3 := cell_alloc1 ((V.alloc (.cells #[.int .i64 (r : Int)] 3)).alloc (.cells #[.slice (some ⟨V.heap.size, 0, none⟩) 1 1] 32)) (.int .i64 0) 3
  have f3 := frozen_alloc1 ((V.alloc (.cells #[.int .i64 (r : Int)] 3)).alloc (.cells #[.slice (some ⟨V.heap.size, 0, none⟩) 1 1] 32)) (.int .i64 0) 3
  simp only [World.size_alloc] at c2 f2 c3 f3
  refine ⟨⟨gC.cell (gB.cell (gA.cell h1.bx (by simp)) (by simp)) (by simp), (((h1.row.alloc _).alloc _).alloc _), gC.cell c2 (by simp), frozen_kept gC (by simp only [World.size_alloc]; omega) (by simp) f2, ((ho1.alloc _).alloc _), c3, f3, ⟨by omega, by omega, by omega, h.ge, by omega, by omega, by simp only [World.size_alloc]; omega⟩, fun k e => ?_, fun k e => ?_, root0_coh hr⟩, ?_⟩
  · have := h1.row.lt k e
    refine ⟨h.sep k e, by omega, by omega, fun e2 => ?_⟩
    have := Option.some.inj e2
    dsimp only at this
    omega
  · have := Option.some.inj e
    dsimp only at this
    omega
  · exact ((h1.bel.alloc hVB _).alloc (by simp only [World.size_alloc]; omega) _).alloc (by simp only [World.size_alloc]; omega) _
/-- The place in a new box. -/
theorem DsW.move (h : DsW bf bo bi B n cap s t ov i W) (hg : W.grownBy W' none) {b j : Nat} (hb : W.heap.size ≤ b) (hc : W'.cell? ⟨b, 0, none⟩ = some (.int .i64 (j : Int))) (hf : W'.frozen? ⟨b, 0, none⟩ = false) : DsW bf bo b B n cap s t ov j W' := by
  obtain ⟨l1, l2, l3⟩ := h.lts
  have h2 := h.grown hg (by simp)
  obtain ⟨n1, n2, n3, n4, n5, n6, n7⟩ := h2.ne
  exact ⟨h2.bx, h2.row, h2.lx, h2.lfr, h2.lst, hc, hf, ⟨n1, by omega, by omega, n4, n5, by have := h.ne; omega, n7⟩, fun k e => ⟨(h.sep k e).1, (h.sep k e).2.1, by have := (h.row.lt k e).2; omega, (h.sep k e).2.2.2⟩, fun k e => ⟨(h.sep2 k e).1, (h.sep2 k e).2.1, by have := (h.lst.lt k e).2; omega⟩, h2.coh⟩
/-- What a visit leaves alone. -/
structure DsK (bo B : Nat) (rv ov ov' : Value) (W W' : World) : Prop where
  below : Below B W W'
  oth : KeepsOthers W W'
  blk : ∀ k, k < W.heap.size → k ≠ bo → rv.ownBlock ≠ some k → ov.ownBlock ≠ some k → W'.heap[k]? = W.heap[k]?
  at_ : ov'.ownBlock = ov.ownBlock ∨ ∀ k, ov'.ownBlock = some k → W.heap.size ≤ k
theorem DsW.box (h : DsW bf bo bi B n cap s t ov i W) {x : Nat} (hx : x < n) {d : Int} {w3 : World} (hgr : ((W.setCell ⟨blk s, ofs s + x, none⟩ (.int .i64 d)).alloc (.cells #[.int .i64 (x : Int)] 3)).grownBy w3 ov.ownBlock) :
    w3.cell? ⟨bo, 0, none⟩ = some ov ∧ w3.frozen? ⟨bo, 0, none⟩ = false := by
  obtain ⟨l1, l2, l3⟩ := h.lts
  obtain ⟨ho, -⟩ := own_at h.row (by rw [h.coh.coh.len]; omega)
  obtain ⟨s1, s2, s3, s4⟩ := h.sep _ ho
  have gS := grownBy_setCell W ⟨blk s, ofs s + x, none⟩ (.int .i64 d)
  have gA := grownBy_alloc (W.setCell ⟨blk s, ofs s + x, none⟩ (.int .i64 d)) (.cells #[.int .i64 (x : Int)] 3)
  have hz1 : (W.setCell ⟨blk s, ofs s + x, none⟩ (.int .i64 d)).heap.size = W.heap.size := World.size_setCell _ _ _
  have hz2 : ((W.setCell ⟨blk s, ofs s + x, none⟩ (.int .i64 d)).alloc (.cells #[.int .i64 (x : Int)] 3)).heap.size = W.heap.size + 1 := by rw [World.size_alloc, World.size_setCell]
  have hlo : some bo ≠ ov.ownBlock := fun e => (h.sep2 _ e.symm).2.1 rfl
  exact ⟨hgr.cell (gA.cell (gS.cell h.lx (fun e => s2 (Option.some.inj e).symm)) (by simp)) hlo, frozen_kept hgr (by rw [hz2]; omega) hlo (frozen_kept gA (by rw [hz1]; exact l2) (by simp) (frozen_kept gS l2 (fun e => s2 (Option.some.inj e).symm) h.lfr))⟩
theorem DsW.lstSet (h : DsW bf bo bi B n cap s t ov i W) {x : Nat} (hx : x < n) (d : Int) : OwnI (W.setCell ⟨blk s, ofs s + x, none⟩ (.int .i64 d)) B 3 ov (t.2.map fun x : Nat => (x : Int)) := by
  obtain ⟨ho, -⟩ := own_at h.row (by rw [h.coh.coh.len]; omega)
  exact h.lst.setOther (p := ⟨blk s, ofs s + x, none⟩) (h.sep _ ho).2.2.2 _
/-- A new node is met. -/
theorem DsW.add (h : DsW bf bo bi B n cap s t ov i W) {x : Nat} (hx : x < n) (hneg : nth t.1 x < 0) {d : Int} (hd : 0 ≤ d) (hd2 : d ≤ t.2.length + 1) {w3 : World} {v' : Value}
    (hown : OwnI w3 B 3 v' ((t.2.map fun x : Nat => (x : Int)) ++ [(x : Int)])) (hgr : ((W.setCell ⟨blk s, ofs s + x, none⟩ (.int .i64 d)).alloc (.cells #[.int .i64 (x : Int)] 3)).grownBy w3 ov.ownBlock)
    (hat : v'.ownBlock = ov.ownBlock ∨ v'.ownBlock = some ((W.setCell ⟨blk s, ofs s + x, none⟩ (.int .i64 d)).alloc (.cells #[.int .i64 (x : Int)] 3)).heap.size) :
    DsW bf bo bi B n cap s (dvs d t x) v' i (w3.setCell ⟨bo, 0, none⟩ v') ∧ DsK bo B (.slice s n cap) ov v' W (w3.setCell ⟨bo, 0, none⟩ v') := by
  obtain ⟨l1, l2, l3⟩ := h.lts
  obtain ⟨n1, n2, n3, n4, n5, n6, n7⟩ := h.ne
  obtain ⟨ho, -⟩ := own_at h.row (by rw [h.coh.coh.len]; omega)
  obtain ⟨s1, s2, s3, s4⟩ := h.sep _ ho
  have gS := grownBy_setCell W ⟨blk s, ofs s + x, none⟩ (.int .i64 d)
  have gA := grownBy_alloc (W.setCell ⟨blk s, ofs s + x, none⟩ (.int .i64 d)) (.cells #[.int .i64 (x : Int)] 3)
  have gB := grownBy_setCell w3 ⟨bo, 0, none⟩ v'
  have hz2 : ((W.setCell ⟨blk s, ofs s + x, none⟩ (.int .i64 d)).alloc (.cells #[.int .i64 (x : Int)] 3)).heap.size = W.heap.size + 1 := by rw [World.size_alloc, World.size_setCell]
  have hz1 : (W.setCell ⟨blk s, ofs s + x, none⟩ (.int .i64 d)).heap.size = W.heap.size := World.size_setCell _ _ _
  have hz3 := hgr.size
  rw [hz2] at hz3 hat
  have e1' : (⟨blk s, ofs s + x, none⟩ : Addr).block = blk s := rfl
  have e2' : (⟨bo, 0, none⟩ : Addr).block = bo := rfl
  have hbs := h.row.lt _ ho
  have hdv : dvs d t x = (t.1.set x d, t.2 ++ [x]) := by unfold dvs; rw [if_pos hneg]
  have hob : ∀ k, v'.ownBlock = some k → (ov.ownBlock = some k ∨ k = W.heap.size + 1) := fun k e => by
    rcases hat with h1 | h1
    · exact .inl (h1 ▸ e)
    · exact .inr (Option.some.inj (e.symm.trans h1))
  have hkeep : ∀ k, k < W.heap.size → k ≠ bo → (Value.slice s n cap).ownBlock ≠ some k → ov.ownBlock ≠ some k → (w3.setCell ⟨bo, 0, none⟩ v').heap[k]? = W.heap[k]? := fun k hk hkb hks hko => by
    rw [gB.block k (by omega) (fun e => hkb (Option.some.inj e)), hgr.block k (by rw [hz2]; omega) (fun e => hko e.symm), gA.block k (by rw [hz1]; exact hk) (by simp), gS.block k hk (fun e => hks (by rw [ho]; exact e.symm))]
  have hbfk := hkeep bf l1 n1 (fun e => (h.sep _ e).1 rfl) (fun e => (h.sep2 _ e).1 rfl)
  have hbik := hkeep bi l3 (fun e => n3 e.symm) (fun e => (h.sep _ e).2.2.1 rfl) (fun e => (h.sep2 _ e).2.2 rfl)
  have hlo : some bo ≠ ov.ownBlock := fun e => (h.sep2 _ e.symm).2.1 rfl
  have c1 : w3.cell? ⟨bo, 0, none⟩ = some ov := hgr.cell (gA.cell (gS.cell h.lx (fun e => s2 (Option.some.inj e).symm)) (by simp)) hlo
  have f1 : w3.frozen? ⟨bo, 0, none⟩ = false := frozen_kept hgr (by rw [hz2]; omega) hlo (frozen_kept gA (by rw [hz1]; exact l2) (by simp) (frozen_kept gS l2 (fun e => s2 (Option.some.inj e).symm) h.lfr))
  refine ⟨⟨?_, ?_, World.cell?_setCell_same w3 _ _ c1, by rw [World.frozen?_setCell]; exact f1, ?_, ?_, ?_, ⟨n1, n2, n3, n4, n5, n6, by rw [World.size_setCell]; omega⟩, fun k e => ?_, fun k e => ?_, (h.coh.dvs hx hd hd2).1⟩, ?_, ?_, hkeep, ?_⟩
  · rw [World.cell?_of_block (a := ⟨bf, 0, none⟩) hbfk]; exact h.bx
  · rw [hdv]
    exact (((h.row.set x d).grown gA (by rw [ho]; simp)).grown hgr (.inr (by rw [ho]; exact fun e => s4 e.symm))).grown gB (.inr (by rw [ho]; exact fun e => s2 (Option.some.inj e)))
  · rw [hdv, List.map_append]
    exact hown.grown gB (.inr fun e => by
      rcases hob _ e with h1 | h1
      · exact (h.sep2 _ h1).2.1 rfl
      · omega)
  · rw [World.cell?_of_block (a := ⟨bi, 0, none⟩) hbik]; exact h.ix
  · rw [World.frozen?_of_block (a := ⟨bi, 0, none⟩) hbik]; exact h.ifr
  · refine ⟨(h.sep k e).1, (h.sep k e).2.1, (h.sep k e).2.2.1, fun e2 => ?_⟩
    rcases hob k e2 with h1 | h1
    · exact (h.sep k e).2.2.2 h1
    · have := h.row.lt k e; omega
  · rcases hob k e with h1 | h1
    · exact h.sep2 k h1
    · omega
  · exact ((((Below.refl B W).setCell (p := ⟨blk s, ofs s + x, none⟩) hbs.1 _).alloc (by rw [hz1]; omega) _).grown hgr (by rw [hz2]; omega) (fun k e => (h.lst.lt k e).1)).setCell (p := ⟨bo, 0, none⟩) n5 _
  · refine (((KeepsOthers.setCell W _ _).trans (KeepsOthers.alloc _ _)).trans (KeepsOthers.of_grownBy hgr fun j o' e ho' => ?_)).trans (KeepsOthers.setCell _ _ _)
    exact own_isCells ((h.lst.setOther (p := ⟨blk s, ofs s + x, none⟩) s4 (.int .i64 d)).alloc _) e ho'
  · rcases hat with h1 | h1
    · exact .inl h1
    · exact .inr fun k e => by rw [h1] at e; have := Option.some.inj e; omega
end
end Go.Proofs.Ytchmjgjagaaomaa
