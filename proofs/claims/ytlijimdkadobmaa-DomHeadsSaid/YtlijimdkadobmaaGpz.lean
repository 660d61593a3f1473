/- Plain: Postorder beside Reach. -/
import Derived.Test.YtlijimdkadobmaaGpl
namespace Go.Gra
open Go.Dfl (nth nth_mem mem_nth nth_eq nth_ext nth_append)
/-- What Reach hands back. -/
def ReachIs (g : G) (l A : List Int) : Prop := (gCode g ≠ 0 ∧ A = []) ∨ (gCode g = 0 ∧ A.Pairwise (· < ·) ∧ ∀ y : Int, y ∈ A ↔ 0 ≤ y ∧ y.toNat ∈ reachL g l)
end Go.Gra
namespace Go.Proofs.Ytlijimdkadobmaa
open Go.RowKit Go.Dfl Go.Gra
theorem postZ_spec {g : G} {r : Int} (h : nodeG g r = true) : VG g ∧ 0 ≤ r ∧ r.toNat < g.n.toNat ∧ postZ g r = postL g r.toNat := by
  obtain ⟨h1, h2, h3⟩ := nodeG_iff.1 h
  exact ⟨h1, h2, by omega, by unfold postZ; rw [if_pos h]⟩
theorem postZ_nd (g : G) (r : Int) : (postZ g r).Nodup := by
  cases h : nodeG g r
  · unfold postZ; rw [h]; exact List.nodup_nil
  · obtain ⟨h1, -, h3, h4⟩ := postZ_spec h
    rw [h4]; exact (postL_spec h1 h3).1
/-- The members are those of Reach. -/
theorem postZ_mem {g : G} {r : Int} {A : List Int} (hA : ReachIs g [r] A) (x : Nat) : x ∈ postZ g r ↔ (x : Int) ∈ A := by
  rcases hA with ⟨h1, rfl⟩ | ⟨h1, -, h3⟩
  · have h : nodeG g r = false := by unfold nodeG; rw [decide_eq_false h1]; rfl
    unfold postZ; rw [h]; simp
  · rw [h3, Int.toNat_natCast, mem_reachL (gCode_ok.1 h1)]
    cases h : nodeG g r
    · have hn : nodeB g.n r = false := by
        unfold nodeG at h; rw [decide_eq_true h1] at h; simpa using h
      unfold postZ; rw [h]
      constructor
      · intro hx; simp at hx
      · rintro ⟨-, v, hv, hnv, -⟩
        rw [List.mem_singleton] at hv
        rw [hv, hn] at hnv; cases hnv
    · obtain ⟨k1, k2, k3, k4⟩ := postZ_spec h
      have hn : nodeB g.n r = true := by
        unfold nodeG at h; rw [decide_eq_true h1] at h; simpa using h
      rw [k4, (postL_spec k1 k3).2.1]
      constructor
      · intro hx; exact ⟨by omega, r, by simp, hn, hx⟩
      · rintro ⟨-, v, hv, -, hR⟩
        rw [List.mem_singleton] at hv
        rw [hv] at hR; exact hR
theorem reachIs_nd {g : G} {l A : List Int} (hA : ReachIs g l A) : A.Nodup ∧ ∀ y ∈ A, 0 ≤ y := by
  rcases hA with ⟨-, rfl⟩ | ⟨-, h2, h3⟩
  · exact ⟨List.nodup_nil, fun y hy => by simp at hy⟩
  · exact ⟨h2.imp fun {a b} h (e : a = b) => by omega, fun y hy => ((h3 y).1 hy).1⟩
theorem postZ_len {g : G} {r : Int} {A : List Int} (hA : ReachIs g [r] A) : (postZ g r).length = A.length := by
  obtain ⟨h1, h2⟩ := reachIs_nd hA
  have hn : ((postZ g r).map fun x : Nat => (x : Int)).Nodup := List.pairwise_map.2 ((postZ_nd g r).imp fun {a b} h => by omega)
  have e1 := nodup_le _ A hn fun x hx => by
    obtain ⟨y, hy, rfl⟩ := List.mem_map.1 hx
    exact (postZ_mem hA y).1 hy
  have e2 := nodup_le A ((postZ g r).map fun x : Nat => (x : Int)) h1 fun x hx => by
    have h0 := h2 x hx
    refine List.mem_map.2 ⟨x.toNat, (postZ_mem hA x.toNat).2 ?_, by omega⟩
    rw [Int.toNat_of_nonneg h0]; exact hx
  rw [List.length_map] at e1 e2
  omega
theorem postZ_last {g : G} {r : Int} (h : 0 < (postZ g r).length) : ((nth (postZ g r) ((postZ g r).length - 1) : Nat) : Int) = r := by
  cases hn : nodeG g r
  · unfold postZ at h; rw [hn] at h; simp at h
  · obtain ⟨k1, k2, k3, k4⟩ := postZ_spec hn
    obtain ⟨-, -, ⟨m, hm⟩, -⟩ := postL_spec k1 k3
    rw [k4, hm, List.length_append, List.length_singleton, Nat.add_sub_cancel, nth_append, if_neg (by omega), Nat.sub_self]
    show ((r.toNat : Nat) : Int) = r
    omega
/-- No node stands twice. -/
theorem postZ_once {g : G} {r : Int} {i : Nat} (hi : i < (postZ g r).length) : ¬ nth (postZ g r) i ∈ (postZ g r).take i := by
  intro hm
  obtain ⟨j, hj, e⟩ := mem_nth hm
  rw [List.length_take] at hj
  have hj2 : nth ((postZ g r).take i) j = nth (postZ g r) j := by
    rw [nth_eq _ _ (by rw [List.length_take]; exact hj), nth_eq _ _ (by omega), List.getElem_take]
  rw [hj2, nth_eq _ _ (by omega), nth_eq _ _ hi] at e
  have := (List.getElem_inj (postZ_nd g r)).1 e
  omega
/-- If all edges lead down, each successor stands earlier. -/
theorem postZ_down {g : G} {r : Int} (hd : ∀ e ∈ g.es, e.2 < e.1) {i : Nat} (hi : i < (postZ g r).length) {w : Nat} (hw : w ∈ suc g.es (nth (postZ g r) i)) : w ∈ (postZ g r).take i := by
  cases hn : nodeG g r
  · unfold postZ at hi; rw [hn] at hi; simp at hi
  · obtain ⟨k1, k2, k3, k4⟩ := postZ_spec hn
    obtain ⟨-, -, -, ho⟩ := postL_spec k1 k3
    rw [k4] at hi hw ⊢
    obtain ⟨j, hj, e⟩ := ho (fun u w hw => by
      obtain ⟨ed, he, h1, h2⟩ := mem_suc.1 hw
      have h3 := hd ed he
      have h4 := k1.inn ed he
      omega) i hi w hw
    rw [← e]
    have hlt : j < (List.take i (postL g r.toNat)).length := by rw [List.length_take]; omega
    have h5 : nth (List.take i (postL g r.toNat)) j = nth (postL g r.toNat) j := by
      rw [nth_eq _ _ hlt, nth_eq _ _ (by omega), List.getElem_take]
    rw [← h5]
    exact nth_mem _ _ hlt
end Go.Proofs.Ytlijimdkadobmaa
