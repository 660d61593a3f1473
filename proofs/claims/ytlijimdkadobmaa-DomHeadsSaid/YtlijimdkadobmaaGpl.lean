/- Plain: what the depth-first search gives. -/
import Derived.Test.YtlijimdkadobmaaGpt
import Derived.Test.YtlijimdkadobmaaGdb
namespace Go.Gra
open Go.Dfl (nth nth_mem mem_nth nth_eq nth_ext nth_append)
/-- Every successor stands earlier. -/
def OrdL (es : List (Int × Int)) (l : List Nat) : Prop := ∀ i, i < l.length → ∀ w ∈ suc es (nth l i), ∃ j, j < i ∧ nth l j = w
/-- From the state s to the state r; the new nodes have the property Q. -/
structure Dx (es : List (Int × Int)) (Q : Nat → Prop) (s r : List Nat × List Nat) : Prop where
  sub1 : ∀ x ∈ s.1, x ∈ r.1
  sub2 : ∀ x ∈ s.2, x ∈ r.2
  fin : ∀ x ∈ r.1, x ∈ s.1 ∨ x ∈ r.2
  new : ∀ x ∈ r.2, x ∈ s.2 ∨ (x ∈ r.1 ∧ ¬ x ∈ s.1)
  rch : ∀ x ∈ r.1, x ∈ s.1 ∨ Q x
  cls : ∀ x ∈ r.1, ¬ x ∈ s.1 → ∀ w ∈ suc es x, w ∈ r.1
  nd : s.2.Nodup → (∀ x ∈ s.2, x ∈ s.1) → r.2.Nodup
theorem Dx.refl {es : List (Int × Int)} {Q : Nat → Prop} {s : List Nat × List Nat} : Dx es Q s s :=
  ⟨fun _ h => h, fun _ h => h, fun _ h => .inl h, fun _ h => .inl h, fun _ h => .inl h, fun _ h h2 => absurd h h2, fun h _ => h⟩
theorem Dx.trans {es : List (Int × Int)} {Q : Nat → Prop} {a b c : List Nat × List Nat} (h : Dx es Q a b) (k : Dx es Q b c) : Dx es Q a c := by
  refine ⟨fun x hx => k.sub1 x (h.sub1 x hx), fun x hx => k.sub2 x (h.sub2 x hx), fun x hx => ?_, fun x hx => ?_, fun x hx => ?_, fun x hx hn => ?_, fun h1 h2 => ?_⟩
  · rcases k.fin x hx with h1 | h1
    · rcases h.fin x h1 with h2 | h2
      · exact .inl h2
      · exact .inr (k.sub2 x h2)
    · exact .inr h1
  · rcases k.new x hx with h1 | ⟨h1, h2⟩
    · rcases h.new x h1 with h3 | ⟨h3, h4⟩
      · exact .inl h3
      · exact .inr ⟨k.sub1 x h3, h4⟩
    · exact .inr ⟨h1, fun h3 => h2 (h.sub1 x h3)⟩
  · rcases k.rch x hx with h1 | h1
    · exact h.rch x h1
    · exact .inr h1
  · by_cases hb : x ∈ b.1
    · exact fun w hw => k.sub1 w (h.cls x hb hn w hw)
    · exact k.cls x hx hb
  · refine k.nd (h.nd h1 h2) fun x hx => ?_
    rcases h.new x hx with h3 | ⟨h3, -⟩
    · exact h.sub1 x (h2 x h3)
    · exact h3
theorem Dx.imp {es : List (Int × Int)} {Q R : Nat → Prop} {a b : List Nat × List Nat} (h : Dx es Q a b) (hi : ∀ x, Q x → R x) : Dx es R a b :=
  ⟨h.sub1, h.sub2, h.fin, h.new, fun x hx => (h.rch x hx).imp (fun h => h) (hi x), h.cls, h.nd⟩
/-- What a visit is told. -/
def DfsS (g : G) (k : Nat) : Prop := ∀ (v : Nat) (s : List Nat × List Nat), DOk g.n.toNat s → v < g.n.toNat → ¬ v ∈ s.1 → g.n.toNat ≤ s.1.length + k →
  Dx g.es (Rch g.es v) s (dfs g.es k v s) ∧ v ∈ (dfs g.es k v s).1 ∧ ((∀ u w, w ∈ suc g.es u → w < u) → (∀ x ∈ s.1, ¬ x ∈ s.2 → v < x) → OrdL g.es s.2 → OrdL g.es (dfs g.es k v s).2)
theorem dst_foldS {g : G} (h : VG g) {k : Nat} (ih : DfsS g k) (v : Nat) : ∀ (l : List Nat) (t : List Nat × List Nat), DOk g.n.toNat t → g.n.toNat ≤ t.1.length + k → (∀ w ∈ l, w ∈ suc g.es v) →
    Dx g.es (Rch g.es v) t (l.foldl (dst g.es k) t) ∧ (∀ w ∈ l, w ∈ (l.foldl (dst g.es k) t).1) ∧ ((∀ u w, w ∈ suc g.es u → w < u) → (∀ x ∈ t.1, ¬ x ∈ t.2 → v ≤ x) → OrdL g.es t.2 → OrdL g.es (l.foldl (dst g.es k) t).2)
  | [], t, _, _, _ => ⟨Dx.refl, fun w hw => by simp at hw, fun _ _ h => h⟩
  | w :: l, t, ht, hk, hl => by
    have hwv := hl w (by simp)
    have hwn := suc_node h hwv
    have h1 : Dx g.es (Rch g.es v) t (dst g.es k t w) ∧ w ∈ (dst g.es k t w).1 ∧ DOk g.n.toNat (dst g.es k t w) ∧ t.1.length ≤ (dst g.es k t w).1.length ∧ ((∀ u w, w ∈ suc g.es u → w < u) → (∀ x ∈ t.1, ¬ x ∈ t.2 → v ≤ x) → OrdL g.es t.2 → OrdL g.es (dst g.es k t w).2) := by
      unfold dst
      split
      · rename_i hm; exact ⟨Dx.refl, hm, ht, Nat.le_refl _, fun _ _ h => h⟩
      · rename_i hm
        obtain ⟨d1, d2, d3⟩ := ih w t ht hwn hm hk
        have d4 := dfs_ok h k w t ht hwn hm hk
        exact ⟨d1.imp fun x hx => (Rch.one hwv).trans hx, d2, d4.ok, d4.pre.length_le, fun hd hp ho => d3 hd (fun x hx hn => by have := hp x hx hn; have := hd v w hwv; omega) ho⟩
    obtain ⟨e1, e2, e3, e4, e5⟩ := h1
    obtain ⟨f1, f2, f3⟩ := dst_foldS h ih v l (dst g.es k t w) e3 (by omega) fun y hy => hl y (List.mem_cons_of_mem _ hy)
    refine ⟨e1.trans f1, fun y hy => ?_, fun hd hp ho => f3 hd (fun x hx hn => ?_) (e5 hd hp ho)⟩
    · rcases List.mem_cons.1 hy with rfl | hy
      · exact f1.sub1 _ e2
      · exact f2 y hy
    · rcases e1.fin x hx with h2 | h2
      · exact hp x h2 fun h3 => hn (e1.sub2 x h3)
      · exact absurd h2 hn
theorem ordL_snoc {es : List (Int × Int)} {l : List Nat} {v : Nat} (h : OrdL es l) (hv : ∀ w ∈ suc es v, w ∈ l) : OrdL es (l ++ [v]) := by
  intro i hi w hw
  rw [List.length_append, List.length_singleton] at hi
  rw [nth_append] at hw
  by_cases hil : i < l.length
  · rw [if_pos hil] at hw
    obtain ⟨j, hj, e⟩ := h i hil w hw
    exact ⟨j, hj, by rw [nth_append, if_pos (by omega)]; exact e⟩
  · rw [if_neg hil, show i - l.length = 0 by omega, show nth [v] 0 = v from rfl] at hw
    obtain ⟨j, hj, e⟩ := mem_nth (hv w hw)
    exact ⟨j, by omega, by rw [nth_append, if_pos hj]; exact e⟩
theorem dfs_spec {g : G} (h : VG g) : ∀ k, DfsS g k
  | 0 => fun v s hs hv hn hk => by
    have h1 := (hs.snoc hv hn []).le
    simp at h1; omega
  | k + 1 => fun v s hs hv hn hk => by
    obtain ⟨f1, f2, f3⟩ := dst_foldS h (dfs_spec h k) v (suc g.es v) (s.1 ++ [v], s.2) (hs.snoc hv hn _) (by simp; omega) fun w hw => hw
    rw [dfs_succ]
    generalize (suc g.es v).foldl (dst g.es k) (s.1 ++ [v], s.2) = t at *
    have hvt : v ∈ t.1 := f1.sub1 v (by simp)
    have hold : ∀ x, x ∈ s.1 ++ [v] ↔ x ∈ s.1 ∨ x = v := fun x => by simp
    refine ⟨⟨fun x hx => f1.sub1 x (by simp [hx]), fun x hx => List.mem_append.2 (.inl (f1.sub2 x hx)), fun x hx => ?_, fun x hx => ?_, fun x hx => ?_, fun x hx hnx => ?_, fun h1 h2 => ?_⟩, hvt, fun hd hp ho => ?_⟩
    · rcases f1.fin x hx with h1 | h1
      · rcases (hold x).1 h1 with h2 | rfl
        · exact .inl h2
        · exact .inr (by simp)
      · exact .inr (List.mem_append.2 (.inl h1))
    · rcases List.mem_append.1 hx with h1 | h1
      · rcases f1.new x h1 with h2 | ⟨h2, h3⟩
        · exact .inl h2
        · exact .inr ⟨h2, fun h4 => h3 ((hold x).2 (.inl h4))⟩
      · rw [List.mem_singleton.1 h1]; exact .inr ⟨hvt, hn⟩
    · rcases f1.rch x hx with h1 | h1
      · rcases (hold x).1 h1 with h2 | rfl
        · exact .inl h2
        · exact .inr (.refl _)
      · exact .inr h1
    · by_cases e : x = v
      · subst e; exact f2
      · exact f1.cls x hx fun h1 => ((hold x).1 h1).elim hnx e
    · have h3 := f1.nd h1 fun x hx => by simp [h2 x hx]
      refine nodup_snoc' h3 fun hm => ?_
      rcases f1.new v hm with h4 | ⟨-, h4⟩
      · exact hn (h2 v h4)
      · exact h4 (by simp)
    · have hpt : ∀ x ∈ s.1 ++ [v], ¬ x ∈ s.2 → v ≤ x := fun x hx hnx => by
        rcases (hold x).1 hx with h1 | rfl
        · have := hp x h1 hnx; omega
        · exact Nat.le_refl _
      refine ordL_snoc (f3 hd hpt ho) fun w hw => ?_
      rcases f1.fin w (f2 w hw) with h1 | h1
      · apply Classical.byContradiction
        intro hnw
        have h2 := hpt w h1 fun h3 => hnw (f1.sub2 w h3)
        have h3 := hd v w hw
        omega
      · exact h1
/-- The postorder from a root: each reached node once, the root last; if all edges lead down, every successor stands earlier. -/
theorem postL_spec {g : G} (h : VG g) {r : Nat} (hr : r < g.n.toNat) : (postL g r).Nodup ∧ (∀ x, x ∈ postL g r ↔ Rch g.es r x) ∧ (∃ m, postL g r = m ++ [r]) ∧ ((∀ u w, w ∈ suc g.es u → w < u) → OrdL g.es (postL g r)) := by
  obtain ⟨d1, d2, d3⟩ := dfs_spec h g.n.toNat r ([], []) ⟨fun x hx => by simp at hx, List.nodup_nil⟩ hr (by simp) (by simp)
  have hall : ∀ x, x ∈ (dfs g.es g.n.toNat r ([], [])).1 ↔ x ∈ postL g r := fun x => by
    constructor
    · intro hx
      rcases d1.fin x hx with h1 | h1
      · simp at h1
      · exact h1
    · intro hx
      rcases d1.new x hx with h1 | ⟨h1, -⟩
      · simp at h1
      · exact h1
  refine ⟨d1.nd List.nodup_nil (fun x hx => by simp at hx), fun x => ?_, ?_, fun hd => d3 hd (fun x hx => by simp at hx) (fun i hi => by simp at hi)⟩
  · rw [← hall]
    constructor
    · intro hx
      rcases d1.rch x hx with h1 | h1
      · simp at h1
      · exact h1
    · intro hx
      induction hx with
      | refl => exact d2
      | step _ hc ih => exact d1.cls _ ih (by simp) _ hc
  · unfold postL
    obtain ⟨k, hk⟩ : ∃ k, g.n.toNat = k + 1 := ⟨g.n.toNat - 1, by omega⟩
    rw [hk, dfs_succ]
    exact ⟨_, rfl⟩
end Go.Gra
