/- The memory of Postorder; its plain search. -/
import Derived.Test.YtlijimdkadobmaaGdm
namespace Go.Gra
open Go.Dfl (nth nth_mem mem_nth nth_eq nth_ext)
/-- The depth-first search: the nodes seen, the postorder; k: at least the number of nodes unseen. -/
def dfs (es : List (Int × Int)) : Nat → Nat → List Nat × List Nat → List Nat × List Nat
  | 0, _, s => s
  | k + 1, v, s =>
    let t := (suc es v).foldl (fun s w => if w ∈ s.1 then s else dfs es k w s) (s.1 ++ [v], s.2)
    (t.1, t.2 ++ [v])
/-- One successor. -/
def dst (es : List (Int × Int)) (k : Nat) (s : List Nat × List Nat) (w : Nat) : List Nat × List Nat := if w ∈ s.1 then s else dfs es k w s
theorem dfs_succ (es : List (Int × Int)) (k v : Nat) (s : List Nat × List Nat) : dfs es (k + 1) v s = (((suc es v).foldl (dst es k) (s.1 ++ [v], s.2)).1, ((suc es v).foldl (dst es k) (s.1 ++ [v], s.2)).2 ++ [v]) := rfl
/-- The seen nodes are nodes, each once. -/
structure DOk (n : Nat) (s : List Nat × List Nat) : Prop where
  mem : ∀ x ∈ s.1, x < n
  nd : s.1.Nodup
theorem DOk.le {n : Nat} {s : List Nat × List Nat} (h : DOk n s) : s.1.length ≤ n := nodup_len n s.1 h.nd h.mem
theorem DOk.snoc {n : Nat} {s : List Nat × List Nat} (h : DOk n s) {v : Nat} (hv : v < n) (hn : ¬ v ∈ s.1) (l : List Nat) : DOk n (s.1 ++ [v], l) :=
  ⟨fun x hx => by
    rcases List.mem_append.1 hx with hx | hx
    · exact h.mem x hx
    · rw [List.mem_singleton.1 hx]; exact hv, nodup_snoc' h.nd hn⟩
/-- What a search hands on. -/
structure Dfs (n : Nat) (s r : List Nat × List Nat) : Prop where
  ok : DOk n r
  pre : s.1 <+: r.1
  cnt : r.2.length + s.1.length = r.1.length + s.2.length
theorem Dfs.refl {n : Nat} {s : List Nat × List Nat} (h : DOk n s) : Dfs n s s := ⟨h, List.prefix_refl _, by omega⟩
theorem Dfs.trans {n : Nat} {a b c : List Nat × List Nat} (h : Dfs n a b) (k : Dfs n b c) : Dfs n a c := ⟨k.ok, h.pre.trans k.pre, by have := h.cnt; have := k.cnt; omega⟩
theorem dst_fold {g : G} {k : Nat} (ih : ∀ (v : Nat) (s : List Nat × List Nat), DOk g.n.toNat s → v < g.n.toNat → ¬ v ∈ s.1 → g.n.toNat ≤ s.1.length + k → Dfs g.n.toNat s (dfs g.es k v s)) : ∀ (l : List Nat) (t : List Nat × List Nat), DOk g.n.toNat t → g.n.toNat ≤ t.1.length + k → (∀ w ∈ l, w < g.n.toNat) → Dfs g.n.toNat t (l.foldl (dst g.es k) t)
  | [], _, h, _, _ => Dfs.refl h
  | w :: l, t, h, hk, hl => by
    have h1 : Dfs g.n.toNat t (dst g.es k t w) := by
      unfold dst
      split
      · exact Dfs.refl h
      · rename_i hn; exact ih w t h (hl w (by simp)) hn hk
    rw [List.foldl_cons]
    exact h1.trans (dst_fold ih l _ h1.ok (by have := h1.pre.length_le; omega) fun y hy => hl y (List.mem_cons_of_mem _ hy))
theorem dfs_ok {g : G} (h : VG g) : ∀ (k v : Nat) (s : List Nat × List Nat), DOk g.n.toNat s → v < g.n.toNat → ¬ v ∈ s.1 → g.n.toNat ≤ s.1.length + k → Dfs g.n.toNat s (dfs g.es k v s)
  | 0, v, s, hs, hv, hn, hk => by
    have h1 := (hs.snoc hv hn []).le
    simp at h1; omega
  | k + 1, v, s, hs, hv, hn, hk => by
    have h1 := dst_fold (dfs_ok h k) (suc g.es v) (s.1 ++ [v], s.2) (hs.snoc hv hn _) (by simp; omega) fun w hw => suc_node h hw
    rw [dfs_succ]
    generalize (suc g.es v).foldl (dst g.es k) (s.1 ++ [v], s.2) = t at *
    have h2 := h1.cnt
    simp at h2
    exact ⟨⟨h1.ok.mem, h1.ok.nd⟩, (List.prefix_append _ _).trans h1.pre, by simp; omega⟩
/-- The part of the successors that has been dealt with. -/
theorem dst_part {g : G} (h : VG g) {k : Nat} {l : List Nat} {t : List Nat × List Nat} (ht : DOk g.n.toNat t) (hk : g.n.toNat ≤ t.1.length + k) (hl : ∀ w ∈ l, w < g.n.toNat) : Dfs g.n.toNat t (l.foldl (dst g.es k) t) := dst_fold (dfs_ok h k) l t ht hk hl
end Go.Gra
namespace Go.Proofs.Ytlijimdkadobmaa
open Go.RowKit Go.Dfl Go.Gra

/-- The state of Postorder: the marks (box bv), the list (box bl), the closure (box bf), the graph (box bg). -/
structure PoW (bv bl bf bg B0 B n cap : Nat) (s : Option Addr) (g : G) (ca : Option Addr) (cc : Nat) (t : List Nat × List Nat) (ov : Value) (W : World) : Prop where
  bx : W.cell? ⟨bv, 0, none⟩ = some (.slice s n cap)
  row : Go.Dfl.Own Value.bool W B0 4 (.slice s n cap) (visB n t.1)
  lx : W.cell? ⟨bl, 0, none⟩ = some ov
  lfr : W.frozen? ⟨bl, 0, none⟩ = false
  lst : OwnI W B 3 ov (t.2.map fun x : Nat => (x : Int))
  fn : W.cell? ⟨bf, 0, none⟩ = some (.func (.func 53) #[] #[.pointer (some ⟨bv, 0, none⟩), .pointer (some ⟨bg, 0, none⟩), .pointer (some ⟨bf, 0, none⟩), .pointer (some ⟨bl, 0, none⟩)])
  box : BoxG W bg g.n (.slice ca g.es.length cc)
  es : Pairs W (.slice ca g.es.length cc) g.es
  sep : ∀ k, (Value.slice s n cap).ownBlock = some k → k ≠ bv ∧ k ≠ bl ∧ k ≠ bf ∧ k ≠ bg ∧ k < B
  ne : bv ≠ bl ∧ bl ≠ bf ∧ bv ≠ bf ∧ bg ≠ bv ∧ bg ≠ bl ∧ bg ≠ bf ∧ bv < B ∧ bl < B ∧ bf < B ∧ bg < B0 ∧ B0 ≤ bl ∧ B0 ≤ B ∧ B ≤ W.heap.size
  hes : bcOf g ca bg < B0
  ok : DOk n t
  cnt : t.2.length ≤ t.1.length
section
variable {bv bl bf bg B0 B n cap : Nat} {s : Option Addr} {g : G} {ca : Option Addr} {cc : Nat} {t : List Nat × List Nat} {ov : Value} {W W' : World}
theorem PoW.lts (h : PoW bv bl bf bg B0 B n cap s g ca cc t ov W) : bv < W.heap.size ∧ bl < W.heap.size ∧ bf < W.heap.size ∧ bg < W.heap.size :=
  ⟨World.block_lt_of_cell? W ⟨bv, 0, none⟩ h.bx, World.block_lt_of_cell? W ⟨bl, 0, none⟩ h.lx, World.block_lt_of_cell? W ⟨bf, 0, none⟩ h.fn, World.block_lt_of_cell? W ⟨bg, 0, none⟩ h.box.1⟩
theorem PoW.grown (h : PoW bv bl bf bg B0 B n cap s g ca cc t ov W) {row : Option Nat} (hg : W.grownBy W' row) (hr : ∀ k, row = some k → B ≤ k ∧ ov.ownBlock ≠ some k) : PoW bv bl bf bg B0 B n cap s g ca cc t ov W' := by
  obtain ⟨l1, l2, l3, l4⟩ := h.lts
  have hne := h.ne
  have hrow : ∀ k, k < B → some k ≠ row := fun k hk e => by have := (hr k e.symm).1; omega
  refine ⟨hg.cell h.bx (hrow bv (by omega)), h.row.grown hg ?_, hg.cell h.lx (hrow bl (by omega)), frozen_kept hg l2 (hrow bl (by omega)) h.lfr, h.lst.grown hg ?_, hg.cell h.fn (hrow bf (by omega)), ⟨hg.cell h.box.1 (hrow bg (by omega)), hg.cell h.box.2 (hrow bg (by omega))⟩, ?_, h.sep, ⟨hne.1, hne.2.1, hne.2.2.1, hne.2.2.2.1, hne.2.2.2.2.1, hne.2.2.2.2.2.1, hne.2.2.2.2.2.2.1, hne.2.2.2.2.2.2.2.1, hne.2.2.2.2.2.2.2.2.1, hne.2.2.2.2.2.2.2.2.2.1, hne.2.2.2.2.2.2.2.2.2.2.1, hne.2.2.2.2.2.2.2.2.2.2.2.1, Nat.le_trans hne.2.2.2.2.2.2.2.2.2.2.2.2 hg.size⟩, h.hes, h.ok, h.cnt⟩
  · cases e : (Value.slice s n cap).ownBlock with
    | none => exact .inl rfl
    | some k => exact .inr (hrow k (h.sep k e).2.2.2.2)
  · cases e : ov.ownBlock with
    | none => exact .inl rfl
    | some k => exact .inr fun e2 => (hr k e2.symm).2 e
  · obtain ⟨a, c, he, h1, h2, h3⟩ := h.es
    simp only [Value.slice.injEq] at he
    obtain ⟨rfl, -, rfl⟩ := he
    refine ⟨ca, cc, rfl, h1, h2, fun i hi => ⟨(h3 i hi).1, Nat.lt_of_lt_of_le (h3 i hi).2.1 hg.size, fun j hj => hg.cell ((h3 i hi).2.2 j hj) (hrow _ ?_)⟩⟩
    have h4 := h.hes
    unfold bcOf at h4
    rw [if_neg (fun e => by rw [e] at hi; simp at hi)] at h4
    show blk ca < B
    omega
end
end Go.Proofs.Ytlijimdkadobmaa
