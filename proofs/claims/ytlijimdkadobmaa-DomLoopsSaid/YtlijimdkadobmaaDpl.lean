/- Plain: the loops as the reference finds them. -/
import Derived.Test.YtlijimdkadobmaaDph
import Derived.Test.YtlijimdkadobmaaGdr
namespace Go.Gra
open Go.Dfl (nth nth_mem mem_nth nth_eq nth_ext nth_set nth_append take_snoc)
/-- A graph whose edges are those of another one the other way round. -/
def Flip (es r : List (Int × Int)) : Prop := ∀ a b : Int, (a, b) ∈ r ↔ (b, a) ∈ es
theorem flip_suc {g : G} (h : VG g) {r : List (Int × Int)} (hf : Flip g.es r) {u w : Nat} : w ∈ suc r u ↔ u ∈ suc g.es w := by
  rw [mem_suc, mem_suc]
  constructor
  · rintro ⟨⟨a, b⟩, he, h1, h2⟩
    dsimp only at h1 h2
    have h3 := (hf a b).1 he
    have h4 := h.inn _ h3
    dsimp only at h4
    exact ⟨(b, a), h3, by dsimp only; omega, by dsimp only; omega⟩
  · rintro ⟨⟨a, b⟩, he, h1, h2⟩
    dsimp only at h1 h2
    have h4 := h.inn _ he
    dsimp only at h4
    exact ⟨(b, a), (hf b a).2 he, by dsimp only; omega, by dsimp only; omega⟩
theorem flip_rch {g : G} (h : VG g) {r : List (Int × Int)} (hf : Flip g.es r) {u w : Nat} : Rch r u w ↔ Rch g.es w u := by
  constructor
  · intro hr
    induction hr with
    | refl => exact .refl _
    | step _ hc ih => exact (Rch.one ((flip_suc h hf).1 hc)).trans ih
  · intro hr
    induction hr with
    | refl => exact .refl _
    | step _ hc ih => exact (Rch.one ((flip_suc h hf).2 hc)).trans ih
def flipK (es : List (Int × Int)) (o : Int) (k : Nat) : List (Int × Int) := ((es.take k).filter fun e => decide (e.1 ≠ o) && decide (e.2 ≠ o)).map fun e => (e.2, e.1)
theorem flipK_yes {es : List (Int × Int)} {o : Int} {k : Nat} (h : k < es.length) (h1 : (nth es k).1 ≠ o) (h2 : (nth es k).2 ≠ o) : flipK es o (k + 1) = flipK es o k ++ [((nth es k).2, (nth es k).1)] := by
  unfold flipK; rw [take_snoc _ _ h, List.filter_append, List.filter_cons_of_pos (by simp [h1, h2]), List.map_append]; rfl
theorem flipK_no {es : List (Int × Int)} {o : Int} {k : Nat} (h : k < es.length) (h1 : (nth es k).1 = o ∨ (nth es k).2 = o) : flipK es o (k + 1) = flipK es o k := by
  unfold flipK; rw [take_snoc _ _ h, List.filter_append, List.filter_cons_of_neg (by rcases h1 with h1 | h1 <;> simp [h1])]; simp
theorem flipK_len (es : List (Int × Int)) (o : Int) (k : Nat) : (flipK es o k).length ≤ k := by
  unfold flipK; rw [List.length_map]; exact Nat.le_trans (List.length_filter_le _ _) (by rw [List.length_take]; omega)
theorem mem_flipK {es : List (Int × Int)} {o a b : Int} : (a, b) ∈ flipK es o es.length ↔ (b, a) ∈ cutE o es := by
  unfold flipK cutE
  rw [List.take_length, List.mem_map]
  constructor
  · rintro ⟨⟨x, y⟩, h, he⟩
    simp only [Prod.mk.injEq] at he
    rw [← he.1, ← he.2]; exact h
  · intro h; exact ⟨_, h, rfl⟩
/-- What Make gives of the edges the other way round. -/
theorem mk_flip {g : G} (h : VG g) {o : Int} {n : Int} {b : G} {c : Int} (hn : n = g.n) (hm : MkL n (flipK g.es o g.es.length) b c) : VG b ∧ b.n = g.n ∧ Flip (cutG g o).es b.es := by
  subst hn
  have hall : ∀ e ∈ flipK g.es o g.es.length, inB g.n e = true := by
    rintro ⟨x, y⟩ he
    have := h.inn _ (List.mem_filter.1 (mem_flipK.1 he)).1
    dsimp only at this
    simp only [inB, nodeB, Bool.and_eq_true, decide_eq_true_eq]
    omega
  have h0 := h.n0
  have h1 := h.n1
  rcases hm with ⟨h2, -⟩ | ⟨h2, -⟩ | ⟨-, ⟨e, he, hb⟩, -⟩ | ⟨-, -, -, h5, h6⟩
  · omega
  · omega
  · rw [hall e he] at hb; cases hb
  · have hnd : b.es.Nodup := h6.srt.imp fun {a b} h (e : a = b) => eLt_irrefl a (by rw [← e] at h; exact h)
    have hle := nodup_le b.es _ hnd fun x hx => (h6.mem x).1 hx
    refine ⟨⟨by omega, by omega, ?_, fun e he => ?_, h6.srt⟩, h5, fun x y => by rw [h6.mem, mem_flipK]; rfl⟩
    · have := flipK_len g.es o g.es.length
      have := h.len
      omega
    · have h7 := hall e ((h6.mem e).1 he)
      simp only [inB, nodeB, Bool.and_eq_true, decide_eq_true_eq] at h7
      rw [h5]; omega
/-- The starts of the back edges, in the order of the edges. -/
def startsE (g : G) (r h i : Nat) : List Int := ((g.es.take i).filter fun e => decide (e.2 = (h : Int)) && domB g r h e.1.toNat).map fun e => e.1
theorem startsE_yes {g : G} {r h i : Nat} (hi : i < g.es.length) (h1 : (nth g.es i).2 = (h : Int)) (h2 : domB g r h (nth g.es i).1.toNat = true) : startsE g r h (i + 1) = startsE g r h i ++ [(nth g.es i).1] := by
  unfold startsE; rw [take_snoc _ _ hi, List.filter_append, List.filter_cons_of_pos (by simp [h1, h2]), List.map_append]; rfl
theorem startsE_no {g : G} {r h i : Nat} (hi : i < g.es.length) (h1 : (nth g.es i).2 ≠ (h : Int) ∨ domB g r h (nth g.es i).1.toNat = false) : startsE g r h (i + 1) = startsE g r h i := by
  unfold startsE; rw [take_snoc _ _ hi, List.filter_append, List.filter_cons_of_neg (by rcases h1 with h1 | h1 <;> simp [h1])]; simp
theorem startsE_len (g : G) (r h i : Nat) : (startsE g r h i).length ≤ i := by
  unfold startsE; rw [List.length_map]; exact Nat.le_trans (List.length_filter_le _ _) (by rw [List.length_take]; omega)
theorem startsE_all {g : G} (hvg : VG g) (r h : Nat) : startsE g r h g.es.length = (startsN g r h).map fun x : Nat => (x : Int) := by
  unfold startsE startsN pre
  rw [List.take_length, List.filter_map, List.filter_filter, List.map_map]
  rw [List.filter_congr (q := fun e : Int × Int => decide (e.2 = (h : Int)) && domB g r h e.1.toNat) (l := g.es) (p := fun a => (domB g r h ∘ fun e : Int × Int => e.1.toNat) a && decide (a.2 = (h : Int))) fun e _ => Bool.and_comm _ _]
  exact List.map_congr_left fun e he => by
    have := hvg.inn e (List.mem_filter.1 he).1
    simp only [Function.comp_apply]; omega
/-- The nodes of a loop as the reference collects them. -/
def nodeK (g : G) (r h : Nat) (d : List Int) (k : Nat) : List Nat := (List.range k).filter fun v => decide (v = h) || (decide (0 ≤ nth d v) && domB g r r v)
theorem nodeK_yes {g : G} {r h k : Nat} {d : List Int} (hy : (decide (k = h) || (decide (0 ≤ nth d k) && domB g r r k)) = true) : nodeK g r h d (k + 1) = nodeK g r h d k ++ [k] := by
  unfold nodeK; rw [List.range_succ, List.filter_append, List.filter_cons_of_pos (p := fun v => decide (v = h) || (decide (0 ≤ nth d v) && domB g r r v)) hy]; rfl
theorem nodeK_no {g : G} {r h k : Nat} {d : List Int} (hy : (decide (k = h) || (decide (0 ≤ nth d k) && domB g r r k)) = false) : nodeK g r h d (k + 1) = nodeK g r h d k := by
  unfold nodeK; rw [List.range_succ, List.filter_append, List.filter_cons_of_neg (by rw [hy]; simp)]; simp
theorem nodeK_len (g : G) (r h : Nat) (d : List Int) (k : Nat) : (nodeK g r h d k).length ≤ k := Nat.le_trans (List.length_filter_le _ _) (by rw [List.length_range]; exact Nat.le_refl _)
theorem root_dom {g : G} (hvg : VG g) {r v : Nat} (hr : r < g.n.toNat) (hv : v < g.n.toNat) : domB g r r v = true ↔ v ∈ postL g r := by
  rw [domB_iff hvg hr hv]
  exact ⟨fun h => h.1, fun h => ⟨h, fun k hk => av_root hk⟩⟩
/-- Nothing leads to a node that is left out, nor from it. -/
theorem cut_alone {g : G} (hvg : VG g) {h a b : Nat} (hr : Rch (cutG g (h : Int)).es a b) (he : b = h) : a = b := by
  induction hr with
  | refl => rfl
  | step _ hc _ => exact absurd he ((cut_suc hvg).1 hc).2.2
theorem node_lpn {g : G} (hvg : VG g) {r h : Nat} (hr : r < g.n.toNat) {b : G} {c : Int} {n : Int} (hn : n = g.n) (hm : MkL n (flipK g.es (h : Int) g.es.length) b c) : LpN g r h ((nodeK g r h (distL b (startsE g r h g.es.length)) g.n.toNat).map fun x : Nat => (x : Int)) := by
  obtain ⟨hb1, hb2, hb3⟩ := mk_flip hvg hn hm
  refine ⟨List.pairwise_map.2 ((List.pairwise_lt_range.filter _).imp fun {a b} h => by omega), fun y => ?_⟩
  rw [List.mem_map]
  have key : ∀ v, v < g.n.toNat → ((v = h ∨ (0 ≤ nth (distL b (startsE g r h g.es.length)) v ∧ domB g r r v = true)) ↔ (v = h ∨ LpQ g r h (startsN g r h) v)) := fun v hv => by
    by_cases e : v = h
    · simp [e]
    · refine or_congr Iff.rfl ?_
      rw [distL_reach hb1 (by rw [hb2]; exact hv), mem_reachL hb1, root_dom hvg hr hv, startsE_all hvg]
      constructor
      · rintro ⟨⟨x, hx, hnx, hrx⟩, hp⟩
        obtain ⟨s, hs, rfl⟩ := List.mem_map.1 hx
        rw [Int.toNat_natCast] at hrx
        have h1 := (flip_rch (cut_ok hvg (h : Int)) hb3).1 hrx
        refine ⟨hp, e, s, hs, fun es => e ?_, h1⟩
        exact (cut_alone hvg h1 es).trans es
      · rintro ⟨hp, -, s, hs, hne, h1⟩
        have hsn : s < g.n.toNat := pre_lt hvg (List.mem_filter.1 hs).1
        exact ⟨⟨(s : Int), List.mem_map.2 ⟨s, hs, rfl⟩, nodeB_nat (by rw [hb2]; exact hsn), by rw [Int.toNat_natCast]; exact (flip_rch (cut_ok hvg (h : Int)) hb3).2 h1⟩, hp⟩
  constructor
  · rintro ⟨v, hv, rfl⟩
    unfold nodeK at hv
    rw [List.mem_filter, List.mem_range, Bool.or_eq_true, Bool.and_eq_true, decide_eq_true_eq, decide_eq_true_eq] at hv
    exact ⟨v, rfl, hv.1, (key v hv.1).1 hv.2⟩
  · rintro ⟨v, rfl, hv, hq⟩
    refine ⟨v, ?_, rfl⟩
    unfold nodeK
    rw [List.mem_filter, List.mem_range, Bool.or_eq_true, Bool.and_eq_true, decide_eq_true_eq, decide_eq_true_eq]
    exact ⟨hv, (key v hv).2 hq⟩
end Go.Gra
