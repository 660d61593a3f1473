/- Plain: what the queue reaches. -/
import Derived.Test.YtchmjgjagaaomaaGrx
namespace Go.Gra
open Go.Dfl (nth nth_mem mem_nth nth_eq nth_ext)
/-- b is reached from a. -/
inductive Rch (es : List (Int × Int)) : Nat → Nat → Prop
  | refl (a : Nat) : Rch es a a
  | step {a b c : Nat} : Rch es a b → c ∈ suc es b → Rch es a c
theorem mem_vst {o : List Nat} {x y : Nat} : y ∈ vst o x ↔ y ∈ o ∨ y = x := by
  unfold vst
  split
  · rename_i h
    constructor
    · exact .inl
    · rintro (h1 | rfl)
      · exact h1
      · exact h
  · simp
theorem mem_vstl : ∀ {l o : List Nat} {y : Nat}, y ∈ l.foldl vst o ↔ y ∈ o ∨ y ∈ l
  | [], o, y => by simp
  | x :: l, o, y => by
    rw [List.foldl_cons, mem_vstl, mem_vst, List.mem_cons, or_assoc]
theorem vst_nodup {o : List Nat} (h : o.Nodup) (x : Nat) : (vst o x).Nodup := by
  unfold vst
  split
  · exact h
  · rename_i hx
    rw [List.nodup_append]
    exact ⟨h, by simp, fun a ha b hb e => by rw [List.mem_singleton.1 hb] at e; exact hx (e ▸ ha)⟩
theorem vstl_nodup : ∀ {l o : List Nat}, o.Nodup → (l.foldl vst o).Nodup
  | [], _, h => h
  | x :: l, o, h => by rw [List.foldl_cons]; exact vstl_nodup (l := l) (vst_nodup h x)
theorem vst_nth {o : List Nat} {x j : Nat} (h : j < o.length) : nth (vst o x) j = nth o j := by
  unfold vst
  split
  · rfl
  · rw [nth_eq _ _ (by rw [List.length_append]; omega), nth_eq _ _ h, List.getElem_append_left h]
theorem vstl_nth : ∀ {l o : List Nat} {j : Nat}, j < o.length → nth (l.foldl vst o) j = nth o j
  | [], _, _, _ => rfl
  | x :: l, o, j, h => by rw [List.foldl_cons, vstl_nth (Nat.lt_of_lt_of_le h (vst_len o x)), vst_nth h]
theorem suc_node {g : G} (h : VG g) {a y : Nat} (hy : y ∈ suc g.es a) : y < g.n.toNat := by
  obtain ⟨e, he, -, rfl⟩ := mem_suc.1 hy
  have := h.inn e he
  omega
theorem bfs_spec {g : G} (h : VG g) : ∀ (k i : Nat) (o : List Nat), o.Nodup → (∀ x ∈ o, x < g.n.toNat) → i ≤ o.length → k + i = g.n.toNat + 1 → (∀ j, j < i → ∀ y ∈ suc g.es (nth o j), y ∈ o) →
    (∀ x ∈ o, x ∈ bfsG g.es k i o) ∧ (∀ x ∈ bfsG g.es k i o, ∀ y ∈ suc g.es x, y ∈ bfsG g.es k i o) ∧ (∀ x ∈ bfsG g.es k i o, ∃ z ∈ o, Rch g.es z x) ∧ (bfsG g.es k i o).Nodup ∧ ∀ x ∈ bfsG g.es k i o, x < g.n.toNat
  | 0, i, o, hd, hm, hi, hk, _ => by
    have := nodup_len _ o hd hm
    omega
  | k + 1, i, o, hd, hm, hi, hk, hp => by
    unfold bfsG
    by_cases hlt : i < o.length
    · rw [if_pos hlt]
      have hle := vstl_len (suc g.es (nth o i)) o
      obtain ⟨h1, h2, h3, h4, h5⟩ := bfs_spec h k (i + 1) ((suc g.es (nth o i)).foldl vst o) (vstl_nodup hd) (fun x hx => by
        rcases mem_vstl.1 hx with h1 | h1
        · exact hm x h1
        · exact suc_node h h1) (by omega) (by omega) (fun j hj y hy => by
        rw [vstl_nth (by omega)] at hy
        by_cases e : j = i
        · subst e; exact mem_vstl.2 (.inr hy)
        · exact mem_vstl.2 (.inl (hp j (by omega) y hy)))
      refine ⟨fun x hx => h1 x (mem_vstl.2 (.inl hx)), h2, fun x hx => ?_, h4, h5⟩
      obtain ⟨z, hz, hr⟩ := h3 x hx
      rcases mem_vstl.1 hz with h6 | h6
      · exact ⟨z, h6, hr⟩
      · refine ⟨nth o i, nth_mem _ _ hlt, ?_⟩
        clear hx h1 h2 h3 h4 h5
        induction hr with
        | refl => exact (Rch.refl _).step h6
        | step _ h8 ih => exact ih.step h8
    · rw [if_neg hlt]
      obtain rfl : i = o.length := by omega
      refine ⟨fun x hx => hx, fun x hx y hy => ?_, fun x hx => ⟨x, hx, .refl x⟩, hd, hm⟩
      obtain ⟨j, hj, rfl⟩ := mem_nth hx
      exact hp j hj y hy
theorem mem_fold0 {n : Int} : ∀ {l : List Int} {o : List Nat} {y : Nat}, y ∈ l.foldl (fun o v => if nodeB n v then vst o v.toNat else o) o ↔ y ∈ o ∨ ∃ v ∈ l, nodeB n v = true ∧ v.toNat = y
  | [], o, y => by simp
  | v :: l, o, y => by
    rw [List.foldl_cons, mem_fold0]
    by_cases hv : nodeB n v = true
    · rw [if_pos hv, mem_vst]
      constructor
      · rintro ((h1 | rfl) | ⟨u, h1, h2⟩)
        · exact .inl h1
        · exact .inr ⟨v, by simp, hv, rfl⟩
        · exact .inr ⟨u, List.mem_cons_of_mem _ h1, h2⟩
      · rintro (h1 | ⟨u, h1, h2, h3⟩)
        · exact .inl (.inl h1)
        · rcases List.mem_cons.1 h1 with rfl | h1
          · exact .inl (.inr h3.symm)
          · exact .inr ⟨u, h1, h2, h3⟩
    · rw [if_neg hv]
      constructor
      · rintro (h1 | ⟨u, h1, h2⟩)
        · exact .inl h1
        · exact .inr ⟨u, List.mem_cons_of_mem _ h1, h2⟩
      · rintro (h1 | ⟨u, h1, h2, h3⟩)
        · exact .inl h1
        · rcases List.mem_cons.1 h1 with rfl | h1
          · exact absurd h2 hv
          · exact .inr ⟨u, h1, h2, h3⟩
theorem fold0_nodup {n : Int} : ∀ {l : List Int} {o : List Nat}, o.Nodup → (l.foldl (fun o v => if nodeB n v then vst o v.toNat else o) o).Nodup
  | [], _, h => h
  | v :: l, o, h => by
    rw [List.foldl_cons]
    split
    · exact fold0_nodup (vst_nodup h _)
    · exact fold0_nodup h
/-- What Reach reaches. -/
theorem mem_reachL {g : G} (h : VG g) {l : List Int} {y : Nat} : y ∈ reachL g l ↔ ∃ v ∈ l, nodeB g.n v = true ∧ Rch g.es v.toNat y := by
  have hm : ∀ x ∈ fold0 g.n l, x < g.n.toNat := fun x hx => by
    rcases mem_fold0.1 hx with h1 | ⟨v, -, h2, rfl⟩
    · simp at h1
    · have := nodeB_iff.1 h2; omega
  obtain ⟨h1, h2, h3, -, -⟩ := bfs_spec h (g.n.toNat + 1) 0 (fold0 g.n l) (fold0_nodup List.nodup_nil) hm (by omega) (by omega) (fun j hj => by omega)
  constructor
  · intro hy
    obtain ⟨z, hz, hr⟩ := h3 y hy
    rcases mem_fold0.1 hz with h4 | ⟨v, hv, h5, rfl⟩
    · simp at h4
    · exact ⟨v, hv, h5, hr⟩
  · rintro ⟨v, hv, h4, hr⟩
    have h0 : v.toNat ∈ reachL g l := h1 _ (mem_fold0.2 (.inr ⟨v, hv, h4, rfl⟩))
    generalize v.toNat = a at hr h0
    induction hr with
    | refl => exact h0
    | step _ h8 ih => exact h2 _ ih _ h8
end Go.Gra
