/- Plain: the depth-first search with a stack of its own. -/
import Derived.Test.YtjapnkhgijhakaaGic
namespace Go.Gra
open Go.Dfl (nth nth_mem mem_nth nth_eq nth_ext)
theorem fold_fuel {g : G} (h : VG g) {k k' : Nat} (ih : ∀ (v : Nat) (s : List Nat × List Nat), DOk g.n.toNat s → v < g.n.toNat → ¬ v ∈ s.1 → g.n.toNat ≤ s.1.length + k → g.n.toNat ≤ s.1.length + k' → dfs g.es k v s = dfs g.es k' v s) : ∀ (l : List Nat) (t : List Nat × List Nat), DOk g.n.toNat t → g.n.toNat ≤ t.1.length + k → g.n.toNat ≤ t.1.length + k' → (∀ w ∈ l, w < g.n.toNat) → l.foldl (dst g.es k) t = l.foldl (dst g.es k') t
  | [], _, _, _, _, _ => rfl
  | w :: l, t, ht, hk, hk', hl => by
    have h1 : dst g.es k t w = dst g.es k' t w ∧ DOk g.n.toNat (dst g.es k' t w) ∧ t.1.length ≤ (dst g.es k' t w).1.length := by
      unfold dst
      split
      · exact ⟨rfl, ht, Nat.le_refl _⟩
      · rename_i hn
        have h2 := dfs_ok h k' w t ht (hl w (by simp)) hn hk'
        exact ⟨ih w t ht (hl w (by simp)) hn hk hk', h2.ok, h2.pre.length_le⟩
    rw [List.foldl_cons, List.foldl_cons, h1.1]
    exact fold_fuel h ih l _ h1.2.1 (by have := h1.2.2; omega) (by have := h1.2.2; omega) fun y hy => hl y (List.mem_cons_of_mem _ hy)
/-- More fuel changes nothing. -/
theorem dfs_fuel {g : G} (h : VG g) : ∀ (k k' v : Nat) (s : List Nat × List Nat), DOk g.n.toNat s → v < g.n.toNat → ¬ v ∈ s.1 → g.n.toNat ≤ s.1.length + k → g.n.toNat ≤ s.1.length + k' → dfs g.es k v s = dfs g.es k' v s
  | 0, _, v, s, hs, hv, hn, hk, _ => by
    have h1 := (hs.snoc hv hn []).le
    simp at h1; omega
  | _ + 1, 0, v, s, hs, hv, hn, _, hk => by
    have h1 := (hs.snoc hv hn []).le
    simp at h1; omega
  | k + 1, k' + 1, v, s, hs, hv, hn, hk, hk' => by
    rw [dfs_succ, dfs_succ, fold_fuel h (dfs_fuel h k k') (suc g.es v) (s.1 ++ [v], s.2) (hs.snoc hv hn _) (by simp only [List.length_append, List.length_singleton]; omega) (by simp only [List.length_append, List.length_singleton]; omega) fun w hw => suc_node h hw]
/-- A visit, with full fuel. -/
theorem dfs_open {g : G} (h : VG g) {v : Nat} {s : List Nat × List Nat} (hs : DOk g.n.toNat s) (hv : v < g.n.toNat) (hn : ¬ v ∈ s.1) : dfs g.es g.n.toNat v s = (((suc g.es v).foldl (dst g.es g.n.toNat) (s.1 ++ [v], s.2)).1, ((suc g.es v).foldl (dst g.es g.n.toNat) (s.1 ++ [v], s.2)).2 ++ [v]) := by
  obtain ⟨m, hm⟩ : ∃ m, g.n.toNat = m + 1 := ⟨g.n.toNat - 1, by omega⟩
  have h1 : dfs g.es g.n.toNat v s = dfs g.es (m + 1) v s := by rw [hm]
  rw [h1, dfs_succ, fold_fuel h (dfs_fuel h m g.n.toNat) (suc g.es v) (s.1 ++ [v], s.2) (hs.snoc hv hn _) (by simp only [List.length_append, List.length_singleton]; omega) (by simp only [List.length_append, List.length_singleton]; omega) fun w hw => suc_node h hw]
/-- What is still to be done; the topmost visit first. -/
def finS (es : List (Int × Int)) (n : Nat) : List Nat × List Nat → List (Nat × Nat) → List Nat × List Nat
  | s, [] => s
  | s, f :: r => finS es n ((((suc es f.1).drop f.2).foldl (dst es n) s).1, (((suc es f.1).drop f.2).foldl (dst es n) s).2 ++ [f.1]) r
def mFr (es : List (Int × Int)) (n : Nat) (s : List Nat × List Nat) (fr : List (Nat × Nat)) : Nat := (n - s.1.length) * (es.length + 2) + (fr.map fun f => (suc es f.1).length + 1 - f.2).sum
/-- The state: seen nodes and order, the pending visits; T: the end. -/
structure FI (g : G) (s : List Nat × List Nat) (fr : List (Nat × Nat)) (T : List Nat × List Nat) : Prop where
  ok : DOk g.n.toNat s
  cnt : s.2.length + fr.length = s.1.length
  mem : ∀ f ∈ fr, f.1 < g.n.toNat ∧ f.2 ≤ (suc g.es f.1).length
  res : finS g.es g.n.toNat s fr = T
theorem FI.start {g : G} (h : VG g) {v : Nat} (hv : v < g.n.toNat) : FI g ([v], []) [(v, 0)] (dfs g.es g.n.toNat v ([], [])) := by
  refine ⟨⟨fun x hx => by rw [List.mem_singleton.1 hx]; exact hv, by simp⟩, rfl, fun f hf => ?_, ?_⟩
  · rw [List.mem_singleton.1 hf]; exact ⟨hv, Nat.zero_le _⟩
  · rw [dfs_open h ⟨fun x hx => by simp at hx, List.nodup_nil⟩ hv (by simp)]
    rfl
theorem FI.fin {g : G} {s T : List Nat × List Nat} (h : FI g s [] T) : s = T := h.res
theorem FI.pop {g : G} {s T : List Nat × List Nat} {v : Nat} {r : List (Nat × Nat)} (h : FI g s ((v, (suc g.es v).length) :: r) T) : FI g (s.1, s.2 ++ [v]) r T ∧ mFr g.es g.n.toNat (s.1, s.2 ++ [v]) r < mFr g.es g.n.toNat s ((v, (suc g.es v).length) :: r) := by
  refine ⟨⟨⟨h.ok.mem, h.ok.nd⟩, ?_, fun f hf => h.mem f (List.mem_cons_of_mem _ hf), ?_⟩, ?_⟩
  · have := h.cnt; simp at this ⊢; omega
  · have h1 := h.res
    unfold finS at h1
    dsimp only at h1
    rw [List.drop_length] at h1
    exact h1
  · unfold mFr; simp
theorem FI.old {g : G} {s T : List Nat × List Nat} {v k : Nat} {r : List (Nat × Nat)} (h : FI g s ((v, k) :: r) T) (hk : k < (suc g.es v).length) (hm : nth (suc g.es v) k ∈ s.1) : FI g s ((v, k + 1) :: r) T ∧ mFr g.es g.n.toNat s ((v, k + 1) :: r) < mFr g.es g.n.toNat s ((v, k) :: r) := by
  refine ⟨⟨h.ok, h.cnt, fun f hf => ?_, ?_⟩, ?_⟩
  · rcases List.mem_cons.1 hf with rfl | hf
    · exact ⟨(h.mem (v, k) (by simp)).1, hk⟩
    · exact h.mem f (List.mem_cons_of_mem _ hf)
  · rw [← h.res]
    conv => rhs; unfold finS
    conv => lhs; unfold finS
    dsimp only
    rw [List.drop_eq_getElem_cons hk, List.foldl_cons, ← nth_eq _ _ hk]
    have e : dst g.es g.n.toNat s (nth (suc g.es v) k) = s := by unfold dst; rw [if_pos hm]
    rw [e]
  · unfold mFr; simp; omega
theorem FI.new {g : G} (hg : VG g) {s T : List Nat × List Nat} {v k : Nat} {r : List (Nat × Nat)} (h : FI g s ((v, k) :: r) T) (hk : k < (suc g.es v).length) (hm : ¬ nth (suc g.es v) k ∈ s.1) :
    FI g (s.1 ++ [nth (suc g.es v) k], s.2) ((nth (suc g.es v) k, 0) :: (v, k + 1) :: r) T ∧ mFr g.es g.n.toNat (s.1 ++ [nth (suc g.es v) k], s.2) ((nth (suc g.es v) k, 0) :: (v, k + 1) :: r) < mFr g.es g.n.toNat s ((v, k) :: r) := by
  have hwn : nth (suc g.es v) k < g.n.toNat := suc_node hg (nth_mem _ _ hk)
  have hok := h.ok.snoc hwn hm s.2
  refine ⟨⟨hok, ?_, fun f hf => ?_, ?_⟩, ?_⟩
  · have := h.cnt; simp at this ⊢; omega
  · rcases List.mem_cons.1 hf with rfl | hf
    · exact ⟨hwn, Nat.zero_le _⟩
    · rcases List.mem_cons.1 hf with rfl | hf
      · exact ⟨(h.mem (v, k) (by simp)).1, hk⟩
      · exact h.mem f (List.mem_cons_of_mem _ hf)
  · rw [← h.res]
    conv => rhs; unfold finS
    conv => lhs; unfold finS; unfold finS
    dsimp only
    rw [List.drop_eq_getElem_cons hk, List.foldl_cons, ← nth_eq _ _ hk]
    have e : dst g.es g.n.toNat s (nth (suc g.es v) k) = dfs g.es g.n.toNat (nth (suc g.es v) k) s := by unfold dst; rw [if_neg hm]
    rw [e, dfs_open hg h.ok hwn hm]
    rfl
  · have h1 := hok.le
    simp at h1
    obtain ⟨m, hmm⟩ : ∃ m, g.n.toNat - s.1.length = m + 1 := ⟨g.n.toNat - s.1.length - 1, by omega⟩
    have h2 : g.n.toNat - (s.1 ++ [nth (suc g.es v) k]).length = m := by simp; omega
    unfold mFr
    rw [hmm, h2, Nat.succ_mul]
    have h3 := suc_len g.es (nth (suc g.es v) k)
    simp
    omega
end Go.Gra
