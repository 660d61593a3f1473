/- Plain: no path is shorter than the distance. -/
import Derived.Test.YtjapnkhgijhakaaGin
namespace Go.Gra
open Go.Dfl (nth nth_mem mem_nth nth_eq nth_ext nth_set nth_append)
/-- The distances rise along the queue. -/
def Mono (s : List Int × List Nat) : Prop := ∀ p q, p ≤ q → q < s.2.length → nth s.1 (nth s.2 p) ≤ nth s.1 (nth s.2 q)
theorem dvs_mono {n : Nat} {s : List Int × List Nat} (h : Coh n s) (hm : Mono s) {d : Int} (_hd : 0 ≤ d) (ht : ∀ x ∈ s.2, nth s.1 x ≤ d) {w : Nat} (hw : w < n) : Mono (dvs d s w) ∧ (∀ x ∈ (dvs d s w).2, nth (dvs d s w).1 x ≤ d) ∧ w ∈ (dvs d s w).2 := by
  have hi := h.iff w hw
  by_cases h0 : nth s.1 w < 0
  · have hn : ¬ w ∈ s.2 := fun hx => by have := hi.2 hx; omega
    have hold : ∀ x, x ∈ s.2 → nth (s.1.set w d) x = nth s.1 x := fun x hx => by
      rw [nth_set, if_neg]
      rintro ⟨rfl, -⟩; exact hn hx
    have hnew : nth (s.1.set w d) w = d := by rw [nth_set, if_pos ⟨rfl, by rw [h.len]; exact hw⟩]
    have hdv : dvs d s w = (s.1.set w d, s.2 ++ [w]) := by unfold dvs; rw [if_pos h0]
    rw [hdv]
    refine ⟨fun p q hpq hq => ?_, fun x hx => ?_, by simp⟩
    · dsimp only at hq ⊢
      rw [List.length_append, List.length_singleton] at hq
      rw [nth_append, nth_append]
      by_cases hql : q < s.2.length
      · rw [if_pos hql, if_pos (by omega), hold _ (nth_mem _ _ (by omega)), hold _ (nth_mem _ _ hql)]
        exact hm p q hpq hql
      · rw [if_neg hql, show q - s.2.length = 0 by omega, show nth [w] 0 = w from rfl, hnew]
        by_cases hpl : p < s.2.length
        · rw [if_pos hpl, hold _ (nth_mem _ _ hpl)]
          exact ht _ (nth_mem _ _ hpl)
        · rw [if_neg hpl, show p - s.2.length = 0 by omega, show nth [w] 0 = w from rfl, hnew]
          exact Int.le_refl _
    · dsimp only at hx ⊢
      rcases List.mem_append.1 hx with hx | hx
      · rw [hold x hx]; exact ht x hx
      · rw [List.mem_singleton.1 hx, hnew]; exact Int.le_refl _
  · have hdv : dvs d s w = s := by unfold dvs; rw [if_neg h0]
    rw [hdv]
    exact ⟨hm, ht, hi.1 (by omega)⟩
theorem dvsl_mono {n : Nat} {d : Int} (hd : 0 ≤ d) : ∀ {l : List Nat} {s : List Int × List Nat}, Coh n s → Mono s → (∀ x ∈ s.2, nth s.1 x ≤ d) → (∀ w ∈ l, w < n) → Mono (l.foldl (dvs d) s) ∧ (∀ x ∈ (l.foldl (dvs d) s).2, nth (l.foldl (dvs d) s).1 x ≤ d) ∧ ∀ w ∈ l, w ∈ (l.foldl (dvs d) s).2
  | [], _, _, hm, ht, _ => ⟨hm, ht, fun w hw => by simp at hw⟩
  | w :: l, s, h, hm, ht, hl => by
    obtain ⟨h1, h2, h3⟩ := dvs_mono h hm hd ht (hl w (by simp))
    obtain ⟨k1, k2, k3⟩ := dvsl_mono hd (l := l) (dvs_coh h (hl w (by simp)) hd).1 h1 h2 fun y hy => hl y (List.mem_cons_of_mem _ hy)
    refine ⟨k1, k2, fun y hy => ?_⟩
    rcases List.mem_cons.1 hy with rfl | hy
    · obtain ⟨c, hc⟩ := dvsl_prefix d l (dvs d s y)
      rw [List.foldl_cons, ← hc]
      exact List.mem_append.2 (.inl h3)
    · exact k3 y hy
/-- What the search keeps: the first i nodes of the queue are dealt with. -/
structure Srch (n : Nat) (es : List (Int × Int)) (i : Nat) (s : List Int × List Nat) : Prop where
  coh : CohB n s
  mono : Mono s
  top : ∀ q, i < s.2.length → q < s.2.length → nth s.1 (nth s.2 q) ≤ nth s.1 (nth s.2 i) + 1
  edge : ∀ p, p < i → ∀ w ∈ suc es (nth s.2 p), w ∈ s.2 ∧ nth s.1 w ≤ nth s.1 (nth s.2 p) + 1
  le : i ≤ s.2.length
theorem dG_srch {g : G} (h : VG g) : ∀ (k i : Nat) (s : List Int × List Nat), k + i = g.n.toNat + 1 → Srch g.n.toNat g.es i s → Srch g.n.toNat g.es (dG g.es k i s).2.length (dG g.es k i s)
  | 0, i, s, hk, hs => by have := hs.coh.qlen; have := hs.le; omega
  | k + 1, i, s, hk, hs => by
    unfold dG
    by_cases hlt : i < s.2.length
    · rw [if_pos hlt]
      have hq := nth_mem _ _ hlt
      have hvn := hs.coh.coh.mem _ hq
      have hd := (hs.coh.coh.iff _ hvn).2 hq
      have htop := hs.coh.top _ hvn
      have hin : ∀ w ∈ suc g.es (nth s.2 i), w < g.n.toNat := fun w hw => suc_node h hw
      have hall : ∀ x ∈ s.2, nth s.1 x ≤ nth s.1 (nth s.2 i) + 1 := fun x hx => by
        obtain ⟨q, hq, rfl⟩ := mem_nth hx
        exact hs.top q hlt hq
      obtain ⟨m1, m2, m3⟩ := dvsl_mono (d := nth s.1 (nth s.2 i) + 1) (by omega) hs.coh.coh hs.mono hall hin
      have hpre := dvsl_prefix (nth s.1 (nth s.2 i) + 1) (suc g.es (nth s.2 i)) s
      have hold : ∀ x ∈ s.2, nth ((suc g.es (nth s.2 i)).foldl (dvs (nth s.1 (nth s.2 i) + 1)) s).1 x = nth s.1 x := fun x hx => dvsl_old (by omega) hs.coh.coh hx hin
      have hcb := CohB.dvsl (d := nth s.1 (nth s.2 i) + 1) (by omega) hs.coh (by omega) hin
      refine dG_srch h k (i + 1) _ (by omega) ?_
      generalize (suc g.es (nth s.2 i)).foldl (dvs (nth s.1 (nth s.2 i) + 1)) s = t at *
      have hvi : nth t.2 i = nth s.2 i := nth_prefix hpre hlt
      refine ⟨hcb, m1, fun q hi1 hq => ?_, fun p hp w hw => ?_, Nat.le_trans hlt hpre.length_le⟩
      · have h1 := m2 _ (nth_mem _ _ hq)
        have h2 := m1 i (i + 1) (by omega) hi1
        rw [hvi, hold _ (nth_mem _ _ hlt)] at h2
        omega
      · have hpl : p < s.2.length := by omega
        rw [nth_prefix hpre hpl] at hw ⊢
        rw [hold _ (nth_mem _ _ hpl)]
        by_cases e : p = i
        · subst e
          have h1 := m3 w hw
          exact ⟨h1, m2 w h1⟩
        · obtain ⟨h1, h2⟩ := hs.edge p (by omega) w hw
          refine ⟨hpre.subset h1, ?_⟩
          rw [hold w h1]; exact h2
    · rw [if_neg hlt]
      have : i = s.2.length := by have := hs.le; omega
      subst this
      exact hs
/-- An edge changes the distance by 1 at most. -/
theorem distL_edge {g : G} (h : VG g) {r : Nat} (hr : r < g.n.toNat) {u w : Nat} (hu : u < g.n.toNat) (h0 : 0 ≤ nth (distL g [(r : Int)]) u) (hw : w ∈ suc g.es u) : 0 ≤ nth (distL g [(r : Int)]) w ∧ nth (distL g [(r : Int)]) w ≤ nth (distL g [(r : Int)]) u + 1 := by
  have hnn : (g.n.toNat : Int) = g.n := Int.toNat_of_nonneg h.n0
  have hs : dS g.n [(r : Int)] = root0 g.n.toNat r := by rw [← root0_dS hr, hnn]
  have hc := root0_coh hr
  have hst : Srch g.n.toNat g.es 0 (root0 g.n.toNat r) := by
    refine ⟨hc, fun p q hpq hq => ?_, fun q hi hq => ?_, fun p hp => by omega, by omega⟩
    · have h1 : q = 0 := by simp [root0] at hq; exact hq
      have h2 : p = 0 := by omega
      rw [h1, h2]; exact Int.le_refl _
    · have h1 : q = 0 := by simp [root0] at hq; exact hq
      rw [h1]; omega
  have hf := dG_srch h (g.n.toNat + 1) 0 _ (by omega) hst
  unfold distL at h0 ⊢
  rw [hs] at h0 ⊢
  obtain ⟨p, hp, rfl⟩ := mem_nth ((hf.coh.coh.iff u hu).1 h0)
  obtain ⟨h1, h2⟩ := hf.edge p hp w hw
  exact ⟨(hf.coh.coh.iff w (suc_node h hw)).2 h1, h2⟩
/-- A walk along edges. -/
def Walk (g : G) (P : List Int) : Prop := ∀ j, j < P.length → nodeB g.n (nth P j) = true ∧ (0 < j → (nth P j).toNat ∈ suc g.es (nth P (j - 1)).toNat)
theorem walk_far {g : G} (h : VG g) {r : List (Int × Int)} (hr : RevOf g.es r) {P : List Int} (hP : Walk g P) {m : Nat} (hm : P.length = m + 1) : ∀ (d j : Nat), j + d = m → 0 ≤ nth (farL g.n r (nth P m).toNat) (nth P j).toNat ∧ nth (farL g.n r (nth P m).toNat) (nth P j).toNat ≤ d
  | 0, j, hj => by
    obtain rfl : j = m := by omega
    obtain ⟨hn, -⟩ := hP j (by omega)
    obtain ⟨n0, n1⟩ := nodeB_iff.1 hn
    have hb : nodeB g.n (((nth P j).toNat : Nat) : Int) = true := by rw [Int.toNat_of_nonneg n0]; exact hn
    have hvn : (nth P j).toNat < g.n.toNat := by omega
    have hreach : (nth P j).toNat ∈ reachL ⟨g.n, r⟩ [(((nth P j).toNat : Nat) : Int)] := (mem_reachL (h.rev hr)).2 ⟨_, by simp, hb, by rw [Int.toNat_natCast]; exact .refl _⟩
    have h0 := (distL_reach (h.rev hr) (l := [(((nth P j).toNat : Nat) : Int)]) (y := (nth P j).toNat) hvn).2 hreach
    have hz := (far_zero h hr hb hvn h0).2 rfl
    exact ⟨h0, by rw [hz]; exact Int.le_refl _⟩
  | d + 1, j, hj => by
    obtain ⟨h1, h2⟩ := walk_far h hr hP hm d (j + 1) (by omega)
    obtain ⟨hn, he⟩ := hP (j + 1) (by omega)
    obtain ⟨n0, n1⟩ := nodeB_iff.1 hn
    obtain ⟨hl, -⟩ := hP m (by omega)
    obtain ⟨l0, l1⟩ := nodeB_iff.1 hl
    have hed := (mem_suc_rev h hr).2 (he (by omega))
    rw [Nat.add_sub_cancel] at hed
    obtain ⟨k1, k2⟩ := distL_edge (h.rev hr) (r := (nth P m).toNat) (by show _ < g.n.toNat; omega) (u := (nth P (j + 1)).toNat) (by show _ < g.n.toNat; omega) h1 hed
    refine ⟨k1, ?_⟩
    change nth (farL g.n r (nth P m).toNat) (nth P j).toNat ≤ nth (farL g.n r (nth P m).toNat) (nth P (j + 1)).toNat + 1 at k2
    omega
theorem pathL_len (es : List (Int × Int)) (far : List Int) : ∀ (k v : Nat), (pathL es far k v).length = k + 1
  | 0, _ => rfl
  | k + 1, v => by rw [pathL, List.length_cons, pathL_len]
theorem pathL_head (es : List (Int × Int)) (far : List Int) (k v : Nat) : nth (pathL es far k v) 0 = v := by cases k <;> rfl
/-- The path that is chosen leads along edges to the end. -/
theorem pathL_spec {g : G} (h : VG g) {r : List (Int × Int)} (hr : RevOf g.es r) {b : Nat} (hb : nodeB g.n b = true) : ∀ (k v : Nat), v < g.n.toNat → nth (farL g.n r b) v = k → nth (pathL g.es (farL g.n r b) k v) k = b ∧ ∀ j, j < k → nth (pathL g.es (farL g.n r b) k v) (j + 1) ∈ suc g.es (nth (pathL g.es (farL g.n r b) k v) j)
  | 0, v, hv, hk => ⟨(far_zero h hr hb hv (by omega)).1 hk, fun j hj => by omega⟩
  | k + 1, v, hv, hk => by
    obtain ⟨h1, h2, h3⟩ := nxt_spec h hr hb hv (k := k) (by rw [hk]; omega)
    obtain ⟨i1, i2⟩ := pathL_spec h hr hb k _ h3 h2
    refine ⟨i1, fun j hj => ?_⟩
    cases j with
    | zero =>
      show nth (pathL g.es (farL g.n r b) k (nxt g.es (farL g.n r b) v)) 0 ∈ suc g.es v
      rw [pathL_head]; exact h1
    | succ j => exact i2 j (by omega)
/-- Of the path that is returned between the ends of a walk. -/
theorem walk_path {g : G} (hc : gCode g = 0) {P : List Int} (hP : Walk g P) {m : Nat} (hm : P.length = m + 1) {o : Bool} {l : List Nat} (h : PathIs g (nth P 0) (nth P m) o l) :
    o = true ∧ 0 < l.length ∧ l.length ≤ P.length ∧ ((nth l 0 : Nat) : Int) = nth P 0 ∧ ((nth l (l.length - 1) : Nat) : Int) = nth P m ∧ (∀ j, j + 1 < l.length → nth l (j + 1) ∈ suc g.es (nth l j)) ∧ (nth P m).toNat ∈ reachL g [nth P 0] := by
  have hvg := gCode_ok.1 hc
  obtain ⟨ha, -⟩ := hP 0 (by omega)
  obtain ⟨hb, -⟩ := hP m (by omega)
  obtain ⟨a0, a1⟩ := nodeB_iff.1 ha
  obtain ⟨b0, b1⟩ := nodeB_iff.1 hb
  have hb' : nodeB g.n (((nth P m).toNat : Nat) : Int) = true := by rw [Int.toNat_of_nonneg b0]; exact hb
  cases h with
  | bad h => exact absurd ⟨hc, ha, hb⟩ h
  | no h r hr hn =>
    have := walk_far hvg hr hP hm m 0 (by omega)
    omega
  | yes h r hr k hk =>
    have h1 := walk_far hvg hr hP hm m 0 (by omega)
    obtain ⟨s1, s2⟩ := pathL_spec hvg hr hb' k (nth P 0).toNat (by omega) hk
    rw [pathL_len]
    refine ⟨rfl, by omega, by omega, by rw [pathL_head]; omega, by rw [Nat.add_sub_cancel, s1]; omega, fun j hj => s2 j (by omega), ?_⟩
    refine (mem_reachL hvg).2 ⟨_, by simp, ha, ?_⟩
    have h2 := (distL_reach (hvg.rev hr) (l := [(((nth P m).toNat : Nat) : Int)]) (y := (nth P 0).toNat) (by show _ < g.n.toNat; omega)).1 (by show 0 ≤ nth (farL g.n r (nth P m).toNat) (nth P 0).toNat; omega)
    obtain ⟨v, hv, -, hR⟩ := (mem_reachL (hvg.rev hr)).1 h2
    rw [List.mem_singleton] at hv
    rw [hv, Int.toNat_natCast] at hR
    exact Rch.rev (g := ⟨g.n, r⟩) (hvg.rev hr) (hr.symm hvg.srt) hR
end Go.Gra
