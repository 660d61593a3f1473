/- Plain: dominators by leaving out a node, immediate dominators as lists. -/
import Derived.Test.YtlijimdkadobmaaDnd
namespace Go.Gra
open Go.Dfl (nth nth_mem mem_nth nth_eq nth_ext nth_set)
open Go.Dm (Cx Av Dom Anc Pr UpOk)
theorem asc_uniq : ∀ {l m : List Int}, l.Pairwise (· < ·) → m.Pairwise (· < ·) → (∀ x, x ∈ l ↔ x ∈ m) → l = m
  | [], [], _, _, _ => rfl
  | [], y :: m, _, _, h => absurd ((h y).2 (by simp)) (by simp)
  | x :: l, [], _, _, h => absurd ((h x).1 (by simp)) (by simp)
  | x :: l, y :: m, hl, hm, h => by
    rw [List.pairwise_cons] at hl hm
    have e : x = y := by
      rcases List.mem_cons.1 ((h x).1 (by simp)) with e | hx
      · exact e
      · rcases List.mem_cons.1 ((h y).2 (by simp)) with e | hy
        · exact e.symm
        · have := hl.1 y hy
          have := hm.1 x hx
          omega
    subst e
    rw [asc_uniq hl.2 hm.2 fun z => ?_]
    constructor
    · intro hz
      rcases List.mem_cons.1 ((h z).1 (List.mem_cons_of_mem _ hz)) with e | h1
      · subst e; have := hl.1 z hz; omega
      · exact h1
    · intro hz
      rcases List.mem_cons.1 ((h z).2 (List.mem_cons_of_mem _ hz)) with e | h1
      · subst e; have := hm.1 z hz; omega
      · exact h1
/-- The graph without the edges at a node. -/
def cutE (o : Int) (es : List (Int × Int)) : List (Int × Int) := es.filter fun e => decide (e.1 ≠ o) && decide (e.2 ≠ o)
def cutG (g : G) (o : Int) : G := ⟨g.n, cutE o g.es⟩
theorem cut_ok {g : G} (h : VG g) (o : Int) : VG (cutG g o) :=
  ⟨h.n0, h.n1, Nat.le_trans (List.length_filter_le _ _) h.len, fun e he => h.inn e (List.mem_filter.1 he).1, h.srt.filter _⟩
theorem cut_none {g : G} (h : VG g) : cutG g (-1) = g := by
  obtain ⟨n, es⟩ := g
  unfold cutG cutE
  rw [List.filter_eq_self.2 fun e he => ?_]
  have := h.inn e he
  dsimp only at this
  simp
  omega
def seenB (g : G) (r : Nat) (o : Int) (v : Nat) : Bool := decide (0 ≤ nth (distL (cutG g o) [(r : Int)]) v) && decide ((v : Int) ≠ o)
def domB (g : G) (r a b : Nat) : Bool := seenB g r (-1) b && (decide (a = b) || decide (a = r) || !seenB g r (a : Int) b)
theorem nodeB_nat {n : Int} {v : Nat} (h : v < n.toNat) : nodeB n (v : Int) = true := nodeB_iff.2 ⟨by omega, by omega⟩
theorem seen_rch {g : G} (h : VG g) {r v : Nat} (hr : r < g.n.toNat) (hv : v < g.n.toNat) {o : Int} : seenB g r o v = true ↔ (v : Int) ≠ o ∧ Rch (cutG g o).es r v := by
  unfold seenB
  rw [Bool.and_eq_true, decide_eq_true_eq, decide_eq_true_eq, distL_reach (cut_ok h o) hv, mem_reachL (cut_ok h o)]
  constructor
  · rintro ⟨⟨x, hx, -, h1⟩, h2⟩
    rw [List.mem_singleton.1 hx, Int.toNat_natCast] at h1
    exact ⟨h2, h1⟩
  · rintro ⟨h2, h1⟩
    exact ⟨⟨r, by simp, nodeB_nat (n := g.n) hr, by rw [Int.toNat_natCast]; exact h1⟩, h2⟩
theorem seen_all {g : G} (h : VG g) {r v : Nat} (hr : r < g.n.toNat) (hv : v < g.n.toNat) : seenB g r (-1) v = true ↔ v ∈ postL g r := by
  rw [seen_rch h hr hv, cut_none h, (postL_spec h hr).2.1]
  exact ⟨fun h => h.2, fun h => ⟨by omega, h⟩⟩
theorem cut_suc {g : G} (h : VG g) {a p v : Nat} : v ∈ suc (cutG g (a : Int)).es p ↔ v ∈ suc g.es p ∧ p ≠ a ∧ v ≠ a := by
  rw [mem_suc, mem_suc]
  unfold cutG cutE
  constructor
  · rintro ⟨e, he, h1, h2⟩
    rw [List.mem_filter] at he
    have := h.inn e he.1
    simp at he
    exact ⟨⟨e, he.1, h1, h2⟩, by omega, by omega⟩
  · rintro ⟨⟨e, he, h1, h2⟩, h3, h4⟩
    have := h.inn e he
    refine ⟨e, List.mem_filter.2 ⟨he, ?_⟩, h1, h2⟩
    simp; omega
theorem av_cut {g : G} (h : VG g) {r a v : Nat} (hra : r ≠ a) : (∃ k, Av (dmC g r) a k v) ↔ Rch (cutG g (a : Int)).es r v ∧ v ≠ a := by
  constructor
  · rintro ⟨k, hk⟩
    refine ⟨?_, hk.ne⟩
    induction hk with
    | start k hn => exact .refl _
    | step h1 he hn ih => exact .step ih ((cut_suc h).2 ⟨he, h1.ne, hn⟩)
  · rintro ⟨h1, -⟩
    induction h1 with
    | refl => exact ⟨0, .start 0 hra⟩
    | step _ hc ih =>
      obtain ⟨k, hk⟩ := ih
      obtain ⟨c1, c2, c3⟩ := (cut_suc h).1 hc
      exact ⟨k + 1, .step hk c1 c3⟩
theorem av_root {g : G} {r k v : Nat} : ¬ Av (dmC g r) r k v := by
  intro h
  induction h with
  | start k hn => exact hn rfl
  | step _ _ _ ih => exact ih
theorem domB_iff {g : G} (h : VG g) {r a b : Nat} (hr : r < g.n.toNat) (hb : b < g.n.toNat) : domB g r a b = true ↔ Dom (dmC g r) b a := by
  unfold domB
  rw [Bool.and_eq_true, seen_all h hr hb]
  constructor
  · rintro ⟨h1, h2⟩
    refine ⟨h1, fun k hk => ?_⟩
    rw [Bool.or_eq_true, Bool.or_eq_true, decide_eq_true_eq, decide_eq_true_eq, Bool.not_eq_true'] at h2
    rcases h2 with (rfl | rfl) | h2
    · exact hk.ne rfl
    · exact av_root hk
    · have hra : r ≠ a := fun e => av_root (e ▸ hk)
      obtain ⟨k1, k2⟩ := (av_cut h hra).1 ⟨k, hk⟩
      have := (seen_rch h hr hb (o := (a : Int))).2 ⟨by omega, k1⟩
      rw [this] at h2; cases h2
  · rintro ⟨h1, h2⟩
    refine ⟨h1, ?_⟩
    by_cases e1 : a = b
    · simp [e1]
    · by_cases e2 : a = r
      · simp [e2]
      · cases hs : seenB g r (a : Int) b
        · simp
        · obtain ⟨-, k1⟩ := (seen_rch h hr hb).1 hs
          obtain ⟨k, hk⟩ := (av_cut h (Ne.symm e2)).2 ⟨k1, Ne.symm e1⟩
          exact absurd hk (h2 k)
/-- A dominator is reached. -/
theorem dom_mem {C : Cx} (hC : C.Ok) {v a : Nat} (h : Dom C v a) : C.S a := by
  obtain ⟨k, hk⟩ := Go.Dm.exists_path hC _ v h.1 (Nat.le_refl _)
  rcases hk.or a with h1 | h1
  · exact h1.mem hC
  · exact absurd h1 (h.2 k)
theorem dom_lt {g : G} (h : VG g) {r a b : Nat} (hr : r < g.n.toNat) (hd : Dom (dmC g r) b a) : a < g.n.toNat ∧ b < g.n.toNat :=
  ⟨post_lt h hr (dom_mem (dmC_ok h hr) hd), post_lt h hr hd.1⟩
/-- The last strict dominator. -/
def idomB (g : G) (r v a : Nat) : Bool := decide (a ≠ v) && domB g r a v && (List.range g.n.toNat).all fun b => decide (b = v) || !domB g r b v || domB g r b a
def idomI (g : G) (r v : Nat) : Int := (List.range g.n.toNat).foldl (fun best a => if idomB g r v a then (a : Int) else best) (-1)
def idomL (g : G) (r : Nat) : List Int := (List.range g.n.toNat).map (idomI g r)
theorem fold_best (p : Nat → Bool) : ∀ (n : Nat), ((∀ a, a < n → p a = false) → (List.range n).foldl (fun best a => if p a then (a : Int) else best) (-1) = -1) ∧ ∀ u, u < n → p u = true → (∀ a, a < n → p a = true → a = u) → (List.range n).foldl (fun best a => if p a then (a : Int) else best) (-1) = (u : Int)
  | 0 => ⟨fun _ => rfl, fun u hu => by omega⟩
  | n + 1 => by
    obtain ⟨h1, h2⟩ := fold_best p n
    rw [List.range_succ, List.foldl_append]
    refine ⟨fun h => ?_, fun u hu hp hq => ?_⟩
    · rw [h1 fun a ha => h a (by omega)]
      simp [h n (by omega)]
    · by_cases e : u = n
      · subst e; simp [hp]
      · have hn : p n = false := by
          cases hpn : p n
          · rfl
          · exact absurd (hq n (by omega) hpn).symm e
        rw [h2 u (by omega) hp fun a ha => hq a (by omega)]
        simp [hn]
/-- The entries: -1, or the immediate dominator. -/
structure Idm (g : G) (r : Nat) (uf : List Int) : Prop where
  len : uf.length = g.n.toNat
  no : ∀ v, v < g.n.toNat → (¬ v ∈ postL g r ∨ v = r) → nth uf v = -1
  yes : ∀ v, v ∈ postL g r → v ≠ r → ∃ w : Nat, nth uf v = (w : Int) ∧ w ∈ postL g r ∧ (postL g r).idxOf v < (postL g r).idxOf w ∧ ∀ y, Dom (dmC g r) w y ↔ Dom (dmC g r) v y ∧ y ≠ v
end Go.Gra
namespace Go.Proofs.Ytlijimdkadobmaa
open Go.RowKit Go.Dfl Go.Gra Go.Dm
theorem TreeOk.idm {g : G} {r : Nat} {up ol : List Int} {ll : List (List Int)} (h : TreeOk g r up ol ll) (hvg : VG g) (hr : r < g.n.toNat) : Idm g r (up.set r (-1)) := by
  have hC := dmC_ok hvg hr
  refine ⟨by rw [List.length_set]; exact h.ok.len, fun v hv hc => ?_, fun v hv hn => ?_⟩
  · rw [nth_set]
    split
    · rfl
    · rename_i hne
      have hvr : v ≠ r := fun e => hne ⟨e.symm, by rw [h.ok.len]; exact hr⟩
      have hvp : ¬ v ∈ postL g r := hc.resolve_right hvr
      have h1 := h.ok.lo v hv
      have h2 : ¬ 0 ≤ nth up v := fun h3 => hvp (h.ok.inv v hv h3 hvr).1
      omega
  · rw [nth_set, if_neg fun e => hn e.1.symm]
    obtain ⟨w, h1, h2, h3⟩ := (h.all v hv).above h.ok hn
    have hw : w ∈ postL g r := h2.S hC h.ok
    refine ⟨w, h1, hw, h3, fun y => ?_⟩
    rw [← h.anc w y hw, ← h.anc v y hv]
    constructor
    · intro ha
      refine ⟨.step hn h1 ha, fun e => ?_⟩
      subst e
      rcases (ha.ge h.ok h2).2 with e | h4
      · subst e; exact Nat.lt_irrefl _ h3
      · omega
    · rintro ⟨ha, hy⟩
      obtain ⟨w', -, h4, h5⟩ := ha.of_step hy
      obtain rfl : w = w' := by rw [h1] at h4; omega
      exact h5
theorem Idm.eq {g : G} {r : Nat} {uf : List Int} (h : Idm g r uf) (hvg : VG g) (hr : r < g.n.toNat) : uf = idomL g r := by
  have hC := dmC_ok hvg hr
  refine nth_ext (by rw [h.len]; simp [idomL]) fun v hv => ?_
  rw [h.len] at hv
  have e1 : nth (idomL g r) v = idomI g r v := by
    rw [nth_eq _ _ (by simpa [idomL] using hv)]; simp [idomL]
  rw [e1]
  obtain ⟨f1, f2⟩ := fold_best (idomB g r v) g.n.toNat
  by_cases hvp : v ∈ postL g r
  · by_cases hvr : v = r
    · rw [h.no v hv (.inr hvr)]
      refine (f1 fun a ha => ?_).symm
      cases hb : idomB g r v a
      · rfl
      · unfold idomB at hb
        rw [Bool.and_eq_true, Bool.and_eq_true, decide_eq_true_eq, domB_iff hvg hr hv] at hb
        subst hvr
        exact absurd (dom_root (C := dmC g v) hb.1.2) hb.1.1
    · obtain ⟨w, h1, h2, h3, h4⟩ := h.yes v hvp hvr
      rw [h1]
      have hwn := post_lt hvg hr h2
      have hwv : Dom (dmC g r) v w ∧ w ≠ v := (h4 w).1 (Dom.refl h2)
      have hid : ∀ a, a < g.n.toNat → (idomB g r v a = true ↔ a ≠ v ∧ Dom (dmC g r) v a ∧ ∀ b, b ≠ v → Dom (dmC g r) v b → Dom (dmC g r) a b) := fun a ha => by
        unfold idomB
        rw [Bool.and_eq_true, Bool.and_eq_true, decide_eq_true_eq, domB_iff hvg hr hv, List.all_eq_true, and_assoc]
        refine and_congr_right fun _ => and_congr_right fun _ => ⟨fun k b hb hd => ?_, fun k b hb => ?_⟩
        · have hbn := (dom_lt hvg hr hd).1
          have := k b (List.mem_range.2 hbn)
          rw [(domB_iff hvg hr hv).2 hd] at this
          simp [hb] at this
          exact (domB_iff hvg hr ha).1 this
        · by_cases e : b = v
          · simp [e]
          · cases hdb : domB g r b v
            · simp
            · rw [(domB_iff hvg hr ha).2 (k b e ((domB_iff hvg hr hv).1 hdb))]; simp
      refine (f2 w hwn ((hid w hwn).2 ⟨hwv.2, hwv.1, fun b hb hd => (h4 b).2 ⟨hd, hb⟩⟩) fun a ha hb => ?_).symm
      obtain ⟨k1, k2, k3⟩ := (hid a ha).1 hb
      have d1 : Dom (dmC g r) w a := (h4 a).2 ⟨k2, k1⟩
      have d2 : Dom (dmC g r) a w := k3 w hwv.2 hwv.1
      apply Classical.byContradiction
      intro hne
      have hsa := dom_mem hC k2
      have idx : ∀ x y, x ∈ postL g r → Dom (dmC g r) x y → x ≠ y → (postL g r).idxOf x < (postL g r).idxOf y := by
        intro x
        have : ∀ m x, (postL g r).length - (postL g r).idxOf x ≤ m → ∀ y, x ∈ postL g r → Dom (dmC g r) x y → x ≠ y → (postL g r).idxOf x < (postL g r).idxOf y := by
          intro m
          induction m with
          | zero => intro x hm y hx; have := List.idxOf_lt_length_of_mem hx; omega
          | succ m ih =>
            intro x hm y hx hd hxy
            by_cases hxr : x = r
            · subst hxr; exact absurd (dom_root (C := dmC g x) hd).symm hxy
            · obtain ⟨z, -, z2, z3, z4⟩ := h.yes x hx hxr
              have hz := (z4 y).2 ⟨hd, Ne.symm hxy⟩
              by_cases e : z = y
              · subst e; exact z3
              · have := ih z (by omega) y z2 hz e
                omega
        exact this _ x (Nat.le_refl _)
      have := idx w a h2 d1 (Ne.symm hne)
      have := idx a w hsa d2 hne
      omega
  · rw [h.no v hv (.inl hvp)]
    refine (f1 fun a ha => ?_).symm
    cases hb : idomB g r v a
    · rfl
    · unfold idomB at hb
      rw [Bool.and_eq_true, Bool.and_eq_true, domB_iff hvg hr hv] at hb
      exact absurd hb.1.2.1 hvp
end Go.Proofs.Ytlijimdkadobmaa
