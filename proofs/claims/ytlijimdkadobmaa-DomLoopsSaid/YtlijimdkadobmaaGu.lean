/- The memory of Postorder; its plain search. -/
import Derived.Test.YtlijimdkadobmaaGv
import Derived.Test.YtlijimdkadobmaaGrs
namespace Go.Gra
open Go.Dfl (nth nth_mem mem_nth nth_eq nth_ext)
/-- The depth-first search: the nodes seen, the postorder; k: at least the number of nodes unseen. -/
def dfs (es : List (Int × Int)) : Nat → Nat → List Nat × List Nat → List Nat × List Nat
  | 0, _, s => s
  | k + 1, v, s =>
    let t := (suc es v).foldl (fun s w => if w ∈ s.1 then s else dfs es k w s) (s.1 ++ [v], s.2)
    (t.1, t.2 ++ [v])
/-- One successor. -/
def dst (es : List (Int × Int)) (k : Nat) (s : List Nat × List Nat) (w : Nat) : List Nat × List Nat := if w ∈ s.1 then s else dfs es k w s
theorem dfs_succ (es : List (Int × Int)) (k v : Nat) (s : List Nat × List Nat) : dfs es (k + 1) v s = (((suc es v).foldl (dst es k) (s.1 ++ [v], s.2)).1, ((suc es v).foldl (dst es k) (s.1 ++ [v], s.2)).2 ++ [v]) := rfl
/-- The seen nodes are nodes, each once. -/
structure DOk (n : Nat) (s : List Nat × List Nat) : Prop where
  mem : ∀ x ∈ s.1, x < n
  nd : s.1.Nodup
theorem DOk.le {n : Nat} {s : List Nat × List Nat} (h : DOk n s) : s.1.length ≤ n := nodup_len n s.1 h.nd h.mem
theorem DOk.snoc {n : Nat} {s : List Nat × List Nat} (h : DOk n s) {v : Nat} (hv : v < n) (hn : ¬ v ∈ s.1) (l : List Nat) : DOk n (s.1 ++ [v], l) :=
  ⟨fun x hx => by
    rcases List.mem_append.1 hx with hx | hx
    · exact h.mem x hx
    · rw [List.mem_singleton.1 hx]; exact hv, nodup_snoc' h.nd hn⟩
/-- What a search hands on. -/
structure Dfs (n : Nat) (s r : List Nat × List Nat) : Prop where
  ok : DOk n r
  pre : s.1 <+: r.1
  cnt : r.2.length + s.1.length = r.1.length + s.2.length
theorem Dfs.refl {n : Nat} {s : List Nat × List Nat} (h : DOk n s) : Dfs n s s := ⟨h, List.prefix_refl _, by omega⟩
theorem Dfs.trans {n : Nat} {a b c : List Nat × List Nat} (h : Dfs n a b) (k : Dfs n b c) : Dfs n a c := ⟨k.ok, h.pre.trans k.pre, by have := h.cnt; have := k.cnt; omega⟩
theorem dst_fold {g : G} {k : Nat} (ih : ∀ (v : Nat) (s : List Nat × List Nat), DOk g.n.toNat s → v < g.n.toNat → ¬ v ∈ s.1 → g.n.toNat ≤ s.1.length + k → Dfs g.n.toNat s (dfs g.es k v s)) : ∀ (l : List Nat) (t : List Nat × List Nat), DOk g.n.toNat t → g.n.toNat ≤ t.1.length + k → (∀ w ∈ l, w < g.n.toNat) → Dfs g.n.toNat t (l.foldl (dst g.es k) t)
  | [], _, h, _, _ => Dfs.refl h
  | w :: l, t, h, hk, hl => by
    have h1 : Dfs g.n.toNat t (dst g.es k t w) := by
      unfold dst
      split
      · exact Dfs.refl h
      · rename_i hn; exact ih w t h (hl w (by simp)) hn hk
    rw [List.foldl_cons]
    exact h1.trans (dst_fold ih l _ h1.ok (by have := h1.pre.length_le; omega) fun y hy => hl y (List.mem_cons_of_mem _ hy))
theorem dfs_ok {g : G} (h : VG g) : ∀ (k v : Nat) (s : List Nat × List Nat), DOk g.n.toNat s → v < g.n.toNat → ¬ v ∈ s.1 → g.n.toNat ≤ s.1.length + k → Dfs g.n.toNat s (dfs g.es k v s)
  | 0, v, s, hs, hv, hn, hk => by
    have h1 := (hs.snoc hv hn []).le
    simp at h1; omega
  | k + 1, v, s, hs, hv, hn, hk => by
    have h1 := dst_fold (dfs_ok h k) (suc g.es v) (s.1 ++ [v], s.2) (hs.snoc hv hn _) (by simp; omega) fun w hw => suc_node h hw
    rw [dfs_succ]
    generalize (suc g.es v).foldl (dst g.es k) (s.1 ++ [v], s.2) = t at *
    have h2 := h1.cnt
    simp at h2
    exact ⟨⟨h1.ok.mem, h1.ok.nd⟩, (List.prefix_append _ _).trans h1.pre, by simp; omega⟩
/-- The part of the successors that has been dealt with. -/
theorem dst_part {g : G} (h : VG g) {k : Nat} {l : List Nat} {t : List Nat × List Nat} (ht : DOk g.n.toNat t) (hk : g.n.toNat ≤ t.1.length + k) (hl : ∀ w ∈ l, w < g.n.toNat) : Dfs g.n.toNat t (l.foldl (dst g.es k) t) := dst_fold (dfs_ok h k) l t ht hk hl
end Go.Gra
namespace Go.Proofs.Ytlijimdkadobmaa
open Go.RowKit Go.Dfl Go.Gra

/-- The state of Postorder: the marks (box bv), the list (box bl), the closure (box bf), the graph (box bg). -/
structure PoW (bv bl bf bg B0 B n cap : Nat) (s : Option Addr) (g : G) (ca : Option Addr) (cc : Nat) (t : List Nat × List Nat) (ov : Value) (W : World) : Prop where
  bx : W.cell? ⟨bv, 0, none⟩ = some (.slice s n cap)
  row : Go.Dfl.Own Value.bool W B0 4 (.slice s n cap) (visB n t.1)
  lx : W.cell? ⟨bl, 0, none⟩ = some ov
  lfr : W.frozen? ⟨bl, 0, none⟩ = false
  lst : OwnI W B 3 ov (t.2.map fun x : Nat => (x : Int))
  fn : W.cell? ⟨bf, 0, none⟩ = some (.func (.func 53) #[] #[.pointer (some ⟨bv, 0, none⟩), .pointer (some ⟨bg, 0, none⟩), .pointer (some ⟨bf, 0, none⟩), .pointer (some ⟨bl, 0, none⟩)])
  box : BoxG W bg g.n (.slice ca g.es.length cc)
  es : Pairs W (.slice ca g.es.length cc) g.es
  sep : ∀ k, (Value.slice s n cap).ownBlock = some k → k ≠ bv ∧ k ≠ bl ∧ k ≠ bf ∧ k ≠ bg ∧ k < B
  ne : bv ≠ bl ∧ bl ≠ bf ∧ bv ≠ bf ∧ bg ≠ bv ∧ bg ≠ bl ∧ bg ≠ bf ∧ bv < B ∧ bl < B ∧ bf < B ∧ bg < B0 ∧ B0 ≤ bl ∧ B0 ≤ B ∧ B ≤ W.heap.size
  hes : bcOf g ca bg < B0
  ok : DOk n t
  cnt : t.2.length ≤ t.1.length
section
variable {bv bl bf bg B0 B n cap : Nat} {s : Option Addr} {g : G} {ca : Option Addr} {cc : Nat} {t : List Nat × List Nat} {ov : Value} {W W' : World}
theorem PoW.lts (h : PoW bv bl bf bg B0 B n cap s g ca cc t ov W) : bv < W.heap.size ∧ bl < W.heap.size ∧ bf < W.heap.size ∧ bg < W.heap.size :=
  ⟨World.block_lt_of_cell? W ⟨bv, 0, none⟩ h.bx, World.block_lt_of_cell? W ⟨bl, 0, none⟩ h.lx, World.block_lt_of_cell? W ⟨bf, 0, none⟩ h.fn, World.block_lt_of_cell? W ⟨bg, 0, none⟩ h.box.1⟩
theorem PoW.grown (h : PoW bv bl bf bg B0 B n cap s g ca cc t ov W) {row : Option Nat} (hg : W.grownBy W' row) (hr : ∀ k, row = some k → B ≤ k ∧ ov.ownBlock ≠ some k) : PoW bv bl bf bg B0 B n cap s g ca cc t ov W' := by
  obtain ⟨l1, l2, l3, l4⟩ := h.lts
  have hne := h.ne
  have hrow : ∀ k, k < B → some k ≠ row := fun k hk e => by have := (hr k e.symm).1; omega
  refine ⟨hg.cell h.bx (hrow bv (by omega)), h.row.grown hg ?_, hg.cell h.lx (hrow bl (by omega)), frozen_kept hg l2 (hrow bl (by omega)) h.lfr, h.lst.grown hg ?_, hg.cell h.fn (hrow bf (by omega)), ⟨hg.cell h.box.1 (hrow bg (by omega)), hg.cell h.box.2 (hrow bg (by omega))⟩, ?_, h.sep, ⟨hne.1, hne.2.1, hne.2.2.1, hne.2.2.2.1, hne.2.2.2.2.1, hne.2.2.2.2.2.1, hne.2.2.2.2.2.2.1, hne.2.2.2.2.2.2.2.1, hne.2.2.2.2.2.2.2.2.1, hne.2.2.2.2.2.2.2.2.2.1, hne.2.2.2.2.2.2.2.2.2.2.1, hne.2.2.2.2.2.2.2.2.2.2.2.1, Nat.le_trans hne.2.2.2.2.2.2.2.2.2.2.2.2 hg.size⟩, h.hes, h.ok, h.cnt⟩
  · cases e : (Value.slice s n cap).ownBlock with
    | none => exact .inl rfl
    | some k => exact .inr (hrow k (h.sep k e).2.2.2.2)
  · cases e : ov.ownBlock with
    | none => exact .inl rfl
    | some k => exact .inr fun e2 => (hr k e2.symm).2 e
  · obtain ⟨a, c, he, h1, h2, h3⟩ := h.es
    simp only [Value.slice.injEq] at he
    obtain ⟨rfl, -, rfl⟩ := he
    refine ⟨ca, cc, rfl, h1, h2, fun i hi => ⟨(h3 i hi).1, Nat.lt_of_lt_of_le (h3 i hi).2.1 hg.size, fun j hj => hg.cell ((h3 i hi).2.2 j hj) (hrow _ ?_)⟩⟩
    have h4 := h.hes
    unfold bcOf at h4
    rw [if_neg (fun e => by rw [e] at hi; simp at hi)] at h4
    show blk ca < B
    omega
end
end Go.Proofs.Ytlijimdkadobmaa

/- Contract of Postorder's visit. -/
namespace Go.Proofs.Ytlijimdkadobmaa
open Go.RowKit Go.Dfl Go.Gra Go.Shelf
attribute [local go_sem] Oper.semAt_some

theorem RcK.trans {bo B0 : Nat} {rv o1 o2 o3 : Value} {A B C : World} (h : RcK bo B0 rv o1 o2 A B) (k : RcK bo B0 rv o2 o3 B C) : RcK bo B0 rv o1 o3 A C := by
  have hz := h.oth.size
  refine ⟨h.below.trans k.below, h.oth.trans k.oth, fun q hq h1 h2 h3 => ?_, ?_⟩
  · rw [k.blk q (by omega) h1 h2 (fun e => ?_), h.blk q hq h1 h2 h3]
    rcases h.at_ with h4 | h4
    · exact h3 (h4 ▸ e)
    · have := h4 q e; omega
  · rcases k.at_ with h4 | h4
    · rcases h.at_ with h5 | h5
      · exact .inl (h4.trans h5)
      · exact .inr fun q e => h5 q (h4 ▸ e)
    · exact .inr fun q e => by have := h4 q e; omega
theorem RcK.grownAt {bo B0 : Nat} {rv o1 o2 : Value} {A B C : World} {row : Option Nat} (h : RcK bo B0 rv o1 o2 A B) (hA : B0 ≤ A.heap.size) (hg : B.grownBy C row) (hr : ∀ k, row = some k → A.heap.size ≤ k) : RcK bo B0 rv o1 o2 A C := by
  have hz := h.oth.size
  have hne : ∀ q, q < A.heap.size → some q ≠ row := fun q hq e => by have := hr q e.symm; omega
  refine ⟨h.below.grown hg (by omega) (fun k e => by have := hr k e; omega), ⟨Nat.le_trans hz hg.size, fun q o ho hc => ?_⟩, fun q hq h1 h2 h3 => ?_, h.at_⟩
  · have hq := (Array.getElem?_eq_some_iff.1 ho).1
    rw [hg.block q (by omega) (hne q hq)]
    exact h.oth.same q o ho hc
  · rw [hg.block q (by omega) (hne q hq), h.blk q hq h1 h2 h3]
section
variable {bv bl bf bg B0 B n cap : Nat} {s : Option Addr} {g : G} {ca : Option Addr} {cc : Nat}
/-- A node is marked. -/
theorem PoW.mark {t : List Nat × List Nat} {ov : Value} {W : World} (h : PoW bv bl bf bg B0 B n cap s g ca cc t ov W) {v : Nat} (hv : v < n) (hn : ¬ v ∈ t.1) :
    PoW bv bl bf bg B0 B n cap s g ca cc (t.1 ++ [v], t.2) ov (W.setCell ⟨blk s, ofs s + v, none⟩ (.bool true)) ∧ RcK bl B0 (.slice s n cap) ov ov W (W.setCell ⟨blk s, ofs s + v, none⟩ (.bool true)) := by
  obtain ⟨ho, -⟩ := own_at h.row (by rw [visB_len]; omega)
  obtain ⟨s1, s2, s3, s4, s5⟩ := h.sep _ ho
  obtain ⟨l1, l2, l3, l4⟩ := h.lts
  have hne := h.ne
  have gS := grownBy_setCell W ⟨blk s, ofs s + v, none⟩ (.bool true)
  have hB0 := (h.row.lt _ ho).1
  have hr : ∀ q, q ≠ blk s → some q ≠ some (⟨blk s, ofs s + v, none⟩ : Addr).block := fun q hq e => hq (Option.some.inj e)
  have hrow := h.row.set v true
  rw [visB_set hv] at hrow
  have hov : ov.ownBlock ≠ some (blk s) := fun e => by have := (h.lst.lt _ e).1; omega
  refine ⟨⟨gS.cell h.bx (hr bv s1.symm), hrow, gS.cell h.lx (hr bl s2.symm), frozen_kept gS l2 (hr bl s2.symm) h.lfr, h.lst.grown gS (.inr hov), gS.cell h.fn (hr bf s3.symm), ⟨gS.cell h.box.1 (hr bg s4.symm), gS.cell h.box.2 (hr bg s4.symm)⟩, ?_, h.sep, by rw [World.size_setCell]; exact hne, h.hes, h.ok.snoc hv hn _, by simp; have := h.cnt; omega⟩, ⟨(Below.refl B0 W).setCell (p := ⟨blk s, ofs s + v, none⟩) hB0 _, KeepsOthers.setCell _ _ _, fun q hq h1 h2 h3 => ?_, .inl rfl⟩⟩
  · obtain ⟨a, c, he, h1, h2, h3⟩ := h.es
    simp only [Value.slice.injEq] at he
    obtain ⟨rfl, -, rfl⟩ := he
    refine ⟨ca, cc, rfl, h1, h2, fun i hi => ⟨(h3 i hi).1, by rw [World.size_setCell]; exact (h3 i hi).2.1, fun j hj => gS.cell ((h3 i hi).2.2 j hj) (hr (blk ca) ?_)⟩⟩
    have h4 := h.hes
    unfold bcOf at h4
    rw [if_neg (fun e => by rw [e] at hi; simp at hi)] at h4
    omega
  · exact gS.block q hq (hr q fun e => h2 (by rw [ho, e]))
/-- A node is done. -/
theorem PoW.put {t : List Nat × List Nat} {ov v' : Value} {W w3 : World} (h : PoW bv bl bf bg B0 B n cap s g ca cc t ov W) {v : Nat} (hc : t.2.length < t.1.length) (hown : OwnI w3 B 3 v' ((t.2.map fun x : Nat => (x : Int)) ++ [(v : Int)])) (hgr : (W.alloc (.cells #[.int .i64 (v : Int)] 3)).grownBy w3 ov.ownBlock)
    (hat : v'.ownBlock = ov.ownBlock ∨ v'.ownBlock = some (W.alloc (.cells #[.int .i64 (v : Int)] 3)).heap.size) :
    PoW bv bl bf bg B0 B n cap s g ca cc (t.1, t.2 ++ [v]) v' (w3.setCell ⟨bl, 0, none⟩ v') ∧ RcK bl B0 (.slice s n cap) ov v' W (w3.setCell ⟨bl, 0, none⟩ v') := by
  obtain ⟨l1, l2, l3, l4⟩ := h.lts
  have hne := h.ne
  have gA := grownBy_alloc W (.cells #[.int .i64 (v : Int)] 3)
  have gB := grownBy_setCell w3 ⟨bl, 0, none⟩ v'
  have hz1 : (W.alloc (.cells #[.int .i64 (v : Int)] 3)).heap.size = W.heap.size + 1 := World.size_alloc _ _
  rw [hz1] at hat
  have hz3 := hgr.size
  rw [hz1] at hz3
  have hovB : ∀ q, ov.ownBlock = some q → B ≤ q ∧ q < W.heap.size := h.lst.lt
  have hvB : ∀ q, v'.ownBlock = some q → B ≤ q := fun q e => (hown.lt q e).1
  have hk : ∀ q, q < W.heap.size → q ≠ bl → ov.ownBlock ≠ some q → (w3.setCell ⟨bl, 0, none⟩ v').heap[q]? = W.heap[q]? := fun q hq hqb hqo => by
    rw [gB.block q (by omega) (fun e => hqb (Option.some.inj e)), hgr.block q (by rw [hz1]; omega) (fun e => hqo e.symm), gA.block q hq (by simp)]
  have hko : ∀ q, q < B → ov.ownBlock ≠ some q := fun q hq e => by have := hovB q e; omega
  have kv := hk bv l1 hne.1 (hko bv (by omega))
  have kf := hk bf l3 (fun e => hne.2.1 e.symm) (hko bf (by omega))
  have kg := hk bg l4 hne.2.2.2.2.1 (hko bg (by omega))
  have c1 : w3.cell? ⟨bl, 0, none⟩ = some ov := hgr.cell (gA.cell h.lx (by simp)) (fun e => hko bl (by omega) e.symm)
  have f1 : w3.frozen? ⟨bl, 0, none⟩ = false := frozen_kept hgr (by rw [hz1]; omega) (fun e => hko bl (by omega) e.symm) (frozen_kept gA l2 (by simp) h.lfr)
  refine ⟨⟨?_, ?_, World.cell?_setCell_same w3 _ _ c1, by rw [World.frozen?_setCell]; exact f1, ?_, ?_, ⟨?_, ?_⟩, ?_, h.sep, ?_, h.hes, ⟨h.ok.mem, h.ok.nd⟩, by rw [List.length_append, List.length_singleton]; exact hc⟩, ?_, ?_, fun q hq h1 _ h3 => hk q hq h1 h3, ?_⟩
  · rw [World.cell?_of_block (a := ⟨bv, 0, none⟩) kv]; exact h.bx
  · refine ((h.row.grown gA (by cases (Value.slice s n cap).ownBlock <;> simp)).grown hgr ?_).grown gB ?_
    · cases e : (Value.slice s n cap).ownBlock with
      | none => exact .inl rfl
      | some q => exact .inr fun e2 => hko q (h.sep q e).2.2.2.2 e2.symm
    · cases e : (Value.slice s n cap).ownBlock with
      | none => exact .inl rfl
      | some q => exact .inr fun e2 => (h.sep q e).2.1 (Option.some.inj e2)
  · rw [List.map_append]
    refine hown.grown gB ?_
    cases e : v'.ownBlock with
    | none => exact .inl rfl
    | some q => exact .inr fun e2 => by have h1 := hvB q e; have h2 : q = bl := Option.some.inj e2; omega
  · rw [World.cell?_of_block (a := ⟨bf, 0, none⟩) kf]; exact h.fn
  · rw [World.cell?_of_block (a := ⟨bg, 0, none⟩) kg]; exact h.box.1
  · rw [World.cell?_of_block (a := ⟨bg, 1, none⟩) kg]; exact h.box.2
  · obtain ⟨a, c, he, h1, h2, h3⟩ := h.es
    simp only [Value.slice.injEq] at he
    obtain ⟨rfl, -, rfl⟩ := he
    refine ⟨ca, cc, rfl, h1, h2, fun i hi => ⟨(h3 i hi).1, by rw [World.size_setCell]; have := (h3 i hi).2.1; omega, fun j hj => ?_⟩⟩
    have h4 := h.hes
    unfold bcOf at h4
    rw [if_neg (fun e => by rw [e] at hi; simp at hi)] at h4
    rw [World.cell?_of_block (a := ⟨blk ca, ofs ca + i * 2 + j, none⟩) (hk (blk ca) (h3 i hi).2.1 (by omega) (hko (blk ca) (by omega)))]
    exact (h3 i hi).2.2 j hj
  · rw [World.size_setCell]
    exact ⟨hne.1, hne.2.1, hne.2.2.1, hne.2.2.2.1, hne.2.2.2.2.1, hne.2.2.2.2.2.1, hne.2.2.2.2.2.2.1, hne.2.2.2.2.2.2.2.1, hne.2.2.2.2.2.2.2.2.1, hne.2.2.2.2.2.2.2.2.2.1, hne.2.2.2.2.2.2.2.2.2.2.1, hne.2.2.2.2.2.2.2.2.2.2.2.1, by omega⟩
  · exact (((Below.refl B0 W).alloc (by omega) _).grown hgr (by rw [hz1]; omega) (fun q e => by have := hovB q e; omega)).setCell (p := ⟨bl, 0, none⟩) (by show B0 ≤ bl; omega) _
  · refine ((KeepsOthers.alloc _ _).trans (KeepsOthers.of_grownBy hgr fun j o' e ho' => ?_)).trans (KeepsOthers.setCell _ _ _)
    exact own_isCells (h.lst.alloc _) e ho'
  · rcases hat with h1 | h1
    · exact .inl h1
    · exact .inr fun q e => by rw [h1] at e; have := Option.some.inj e; omega
end
def PoR (bv bl bf bg B0 B n cap : Nat) (s : Option Addr) (g : G) (ca : Option Addr) (cc : Nat) (r : List Nat × List Nat) (ov : Value) (W : World) (e : Ending) (W' : World) : Prop :=
  e = .returned (.tuple #[]) ∧ ∃ ov', PoW bv bl bf bg B0 B n cap s g ca cc r ov' W' ∧ RcK bl B0 (.slice s n cap) ov ov' W W'
set_option maxHeartbeats 3200000 in
set_option maxRecDepth 100000 in
theorem visitP_any (bv bl bf bg B0 B n cap : Nat) (s : Option Addr) (g : G) (ca : Option Addr) (cc : Nat) (hvg : VG g) (hn : g.n = n) : ∀ (k v : Nat) (t : List Nat × List Nat) (ov : Value) (W : World), PoW bv bl bf bg B0 B n cap s g ca cc t ov W → t.2.length ≤ t.1.length → v < n → ¬ v ∈ t.1 → n ≤ t.1.length + k →
    Calls Try.prog 53 #[.int .i64 (v : Int), .pointer (some ⟨bv, 0, none⟩), .pointer (some ⟨bg, 0, none⟩), .pointer (some ⟨bf, 0, none⟩), .pointer (some ⟨bl, 0, none⟩)] W (PoR bv bl bf bg B0 B n cap s g ca cc (dfs g.es k v t) ov W) := by
  intro k
  induction k with
  | zero =>
    intro v t ov W h _ hv hnv hk
    have h1 := (h.ok.snoc hv hnv []).le
    simp at h1; omega
  | succ k ih =>
    intro v t ov W h hct hv hnv hk
    obtain ⟨m1, m2⟩ := h.mark hv hnv
    have hn8 : n ≤ 8192 := by have := hvg.n1; omega
    have b1 := h.bx
    obtain ⟨c0, c1⟩ := h.box
    obtain ⟨ho, -⟩ := own_at h.row (by rw [visB_len]; omega)
    obtain ⟨s1, s2, s3, s4, s5⟩ := h.sep _ ho
    obtain ⟨a9, c9, he, hm9, hidx, hcell, -⟩ := h.row.lst.out1 sBoolG
    rw [visB_len] at he hm9 hidx hcell
    simp only [Value.slice.injEq] at he
    obtain ⟨rfl, -, rfl⟩ := he
    have cx := hcell v hv
    have hii := hidx .i64 (v : Int) (by omega) (by omega)
    rw [Int.toNat_natCast] at hii
    have hf0 := h.row.frozen (by rw [visB_len]; omega) (ofs s + v)
    have hne := h.ne
    have hcn := h.cnt
    have HM := Lib.hid (And.intro m1 (And.intro m2 (And.intro hne (And.intro ih (And.intro h.ok (And.intro hct (And.intro hnv (And.intro hk hcn))))))))
    have HV := Lib.hid (And.intro hvg hn)
    rw [hn] at c0
    clear m1 m2 h hidx hcell hne hcn ih hvg hct hnv hk
    refine (callsIn_wide (n := 5)).1 ?_
    refine callsIn_of_wp_marks Try.func53 rfl trivial ?_ rfl
    simp only [Try.ntmps53, List.size_toArray, List.length_cons, List.length_nil, Nat.reduceAdd, Nat.reduceSub, Array.replicate_succ, Array.replicate_zero, List.push_toArray, List.append_toArray, List.nil_append, List.cons_append]
    refine wpIn_wide.2 ?_
    have hsu : ∀ Z, Calls Try.prog 54 #[.agg #[.int .i64 n, .slice ca g.es.length cc], .int .i64 (v : Int)] Z fun e W' => e = .returned (.func (.func 58) #[] #[.pointer (some ⟨Z.heap.size, 0, none⟩), .pointer (some ⟨Z.heap.size + 1, 0, none⟩)]) ∧ W' = (Z.alloc (.cells #[.int .i64 n, .slice ca g.es.length cc] 24)).alloc (.cells #[.int .i64 (v : Int)] 3) := fun Z => by have h1 := succ_any g (.slice ca g.es.length cc) v Z; unfold GV at h1; rw [hn] at h1; exact h1
    have HSU := Lib.hid hsu
    clear hsu hn
    have s4' : bg ≠ blk s := fun e => s4 e.symm
    go_wp2_with (go_at_call 54; refine (HSU.out _).mono ?_; rintro e w' ⟨rfl, hw⟩; rw [hw]; clear hw w')
    have hzV : (W.setCell ⟨blk s, ofs s + v, none⟩ (.bool true)).heap.size = W.heap.size := World.size_setCell _ _ _
    generalize W.setCell ⟨blk s, ofs s + v, none⟩ (.bool true) = V at *
    have hbz : Below V.heap.size V ((V.alloc (.cells #[.int .i64 (n : Int), .slice ca g.es.length cc] 24)).alloc (.cells #[.int .i64 (v : Int)] 3)) := ((Below.refl V.heap.size V).alloc (Nat.le_refl _) _).alloc (by rw [World.size_alloc]; omega) _
    have hrd := RdS.new (v := v) HM.out.1.es
    rw [HV.out.2, hzV] at hrd
    have hsz3 : ((V.alloc (.cells #[.int .i64 (n : Int), .slice ca g.es.length cc] 24)).alloc (.cells #[.int .i64 (v : Int)] 3)).heap.size = W.heap.size + 2 := by rw [World.size_alloc, World.size_alloc, hzV]
    have hBW : B0 ≤ W.heap.size ∧ B ≤ W.heap.size := by have := HM.out.2.2.1; omega
    have hp2 := HM.out.1.grown (grownBy_below hbz) (by simp)
    have hk2 := HM.out.2.1.grownAt hBW.1 (grownBy_below hbz) (by simp)
    have hovz : ∀ q, ov.ownBlock = some q → q < W.heap.size := fun q e => by have := (HM.out.1.lst.lt q e).2; omega
    have hbco : bcOf g ca W.heap.size = W.heap.size ∨ bcOf g ca W.heap.size < B0 := by
      have h4 := HM.out.1.hes
      unfold bcOf at h4 ⊢
      split
      · exact .inl rfl
      · rename_i hne; rw [if_neg hne] at h4; exact .inr h4
    refine gen_code (fun Z => PoW bv bl bf bg B0 B n cap s g ca cc (t.1 ++ [v], t.2) ov Z ∧ RcK bl B0 (.slice s n cap) ov ov W Z ∧ RdS g v W.heap.size (W.heap.size + 1) ca cc Z ∧ Z.heap.size = W.heap.size + 2) ⟨hp2, hk2, hrd, hsz3⟩ ?_
    intro Z3 hz3
    have H3 := Lib.hid (And.intro hz3 (And.intro hovz (And.intro hbco hBW)))
    have hne := HM.out.2.2.1
    clear hz3 hbz hrd hsz3 hp2 hk2 hovz hbco hBW b1 c0 c1 cx hii hf0 HSU hzV
    obtain ⟨z, hz⟩ : ∃ z, z = W.heap.size := ⟨_, rfl⟩
    rw [← hz] at H3 ⊢
    refine (wpIn_wide (n := 5)).1 ?_
    refine wpIn_rangeFunc_ownG rfl (by omega) (gf := 58) (lb := #[.pointer (some ⟨z, 0, none⟩), .pointer (some ⟨z + 1, 0, none⟩)]) rfl trivial (enters_of Try.func58 (by kernel_rfl) rfl)
      (suc_stops g HV.out.1 v z (z + 1) ca cc _ 4 (by omega) H3.out.1.1.es H3.out.1.2.2.1) (fun h k => h.trans k) ?hKb (Below.refl _ _) (fun _ => rfl)
      (fun pre Z => ∃ ov', PoW bv bl bf bg B0 B n cap s g ca cc ((vals pre).foldl (dst g.es k) (t.1 ++ [v], t.2)) ov' Z ∧ RcK bl B0 (.slice s n cap) ov ov' W Z ∧ (∀ q, ov'.ownBlock = some q → q ≠ z ∧ q ≠ z + 1) ∧ z + 2 ≤ Z.heap.size) (fun _ _ _ => False)
      ?own (fun _ _ _ _ _ hs _ _ => hs) ⟨_, H3.out.1.1, H3.out.1.2.1, fun q e => by have := H3.out.2.1 q e; omega, by have := H3.out.1.2.2.2; omega⟩ ?a1 ?assign ?body ?done ?stop
    case hKb =>
      intro Z l' o' o'' hlz hlo ho' hwk
      rw [H3.out.1.2.2.2] at hlz
      have hbc := H3.out.2.2.1
      have hB := H3.out.2.2.2
      exact KpS.grown (grownBy_putObj' Z l' o'') (fun k e => by have e2 := Option.some.inj e; omega)
    case own =>
      rintro pre A C row ⟨ov', h1, h2, h3, h4⟩ hg hr
      rw [H3.out.1.2.2.2] at hr
      have hB := H3.out.2.2.2
      refine ⟨ov', h1.grown hg (fun q e => ⟨by have := (hr q e).1; omega, fun e2 => ?_⟩), h2.grownAt (by omega) hg (fun q e => by have := (hr q e).1; omega), h3, Nat.le_trans h4 hg.size⟩
      obtain ⟨-, ob, ho1, ho2⟩ := hr q e
      rw [own_isCells h1.lst e2 ho1] at ho2
      cases ho2
    case assign =>
      intro l' x Z K hK
      gi_wp2
      exact hK
    case body =>
      rintro l' pre x Z ⟨ov', h1, h2, h3, h4⟩ hlt'
      have hx : x.1 < n := by have h9 := x.2; have e9 := HV.out.2; omega
      obtain ⟨t', ht'⟩ : ∃ t', t' = (vals pre).foldl (dst g.es k) (t.1 ++ [v], t.2) := ⟨_, rfl⟩
      have hgn : g.n.toNat = n := by have e9 := HV.out.2; omega
      have hdf := dst_part HV.out.1 (k := k) (l := vals pre) (t := (t.1 ++ [v], t.2)) (by rw [hgn]; exact HM.out.2.2.2.2.1.snoc hv HM.out.2.2.2.2.2.2.1 _) (by rw [hgn]; have := HM.out.2.2.2.2.2.2.2.1; simp; omega) (fun w hw => by
        obtain ⟨y, -, rfl⟩ := List.mem_map.1 hw
        exact y.2)
      rw [← ht'] at h1 hdf
      have hlen := hdf.pre.length_le
      rw [List.length_append, List.length_singleton] at hlen
      have hk' : n ≤ t'.1.length + k := by have := HM.out.2.2.2.2.2.2.2.1; omega
      have hb1 := h1.bx
      have hfn := h1.fn
      obtain ⟨a9, c9, he, hm9', hidx, hcell, -⟩ := h1.row.lst.out1 sBoolG
      rw [visB_len] at he hm9' hidx hcell
      simp only [Value.slice.injEq] at he
      obtain ⟨rfl, -, rfl⟩ := he
      have cx := hcell x.1 hx
      rw [visB_nth hx] at cx
      have hii := hidx .i64 (x.1 : Int) (by omega) (by omega)
      rw [Int.toNat_natCast] at hii
      have HI := Lib.hid (And.intro h1 (And.intro h2 (And.intro h3 (And.intro h4 (And.intro ht' hk')))))
      clear h2 h3 h4 ht' hdf hlen hk' hidx hcell hlt'
      by_cases hm : x.1 ∈ t'.1
      · rw [decide_eq_true hm] at cx
        have hs : dst g.es k t' x.1 = t' := by unfold dst; rw [if_pos hm]
        have HS := Lib.hid hs
        clear hm hs h1
        gi_wp2
        obtain ⟨j1, j2, j3, j4, j5, -⟩ := HI.out
        refine ⟨(KeepsOthers.refl _).from _, fun q hq hql => rfl, ov', ?_, j2, j3, j4⟩
        rw [vals_snoc, List.foldl_append, ← j5]
        show PoW _ _ _ _ _ _ _ _ _ _ _ _ (dst g.es k t' x.1) _ _
        rw [HS.out]
        exact j1
      · rw [decide_eq_false hm] at cx
        have hs : dst g.es k t' x.1 = dfs g.es k x.1 t' := by unfold dst; rw [if_neg hm]
        have hcall := HM.out.2.2.2.1 x.1 t' ov' Z h1 h1.cnt hx hm HI.out.2.2.2.2.2
        have HS := Lib.hid (And.intro hs hcall)
        clear hm hs h1 hcall
        gi_wp2_with (refine ⟨trivial, ?_⟩; gi_at_call 53; refine (CallsIn.inRound l' (callsIn_wide.2 HS.out.2)).mono ?_; rintro e w' ⟨rfl, ov'', r1, r2⟩; have HR := Lib.hid (And.intro r1 r2); clear r1 r2)
        obtain ⟨k1, k2⟩ := HR.out
        obtain ⟨j1, j2, j3, j4, j5, -⟩ := HI.out
        have hbo := H3.out.2.2.1
        have hB := H3.out.2.2.2
        refine ⟨k2.oth.from _, fun q hq hql => ?_, ov'', ?_, j2.trans k2, fun q e => ?_, Nat.le_trans j4 k2.oth.size⟩
        · refine k2.blk q hql ?_ (fun e => ?_) (fun e => ?_)
          · omega
          · have := (j1.sep q e).2.2.2.2; have := (j1.row.lt q e).1; omega
          · have := j3 q e; have := (j1.lst.lt q e).1; omega
        · rw [vals_snoc, List.foldl_append, ← j5]
          show PoW _ _ _ _ _ _ _ _ _ _ _ _ (dst g.es k t' x.1) _ _
          rw [HS.out.1]
          exact k1
        · rcases k2.at_ with e2 | e2
          · rw [e2] at e; exact j3 q e
          · have := e2 q e; omega
    case done =>
      rintro D ys Z hD hys ⟨ov', h1, h2, h3, h4⟩ hK
      rw [hys] at h1
      rw [H3.out.1.2.2.2] at hD
      have hgn : g.n.toNat = n := by have e9 := HV.out.2; omega
      have hdf := dst_part HV.out.1 (k := k) (l := suc g.es v) (t := (t.1 ++ [v], t.2)) (by rw [hgn]; exact HM.out.2.2.2.2.1.snoc hv HM.out.2.2.2.2.2.2.1 _) (by rw [hgn]; have := HM.out.2.2.2.2.2.2.2.1; simp; omega) (fun w hw => suc_node HV.out.1 hw)
      obtain ⟨t', ht'⟩ : ∃ t', t' = (suc g.es v).foldl (dst g.es k) (t.1 ++ [v], t.2) := ⟨_, rfl⟩
      rw [← ht'] at h1 hdf
      have hcnt := hdf.cnt
      have hpl := h1.ok.le
      simp only [List.length_append, List.length_singleton] at hcnt
      have hc : t'.2.length < t'.1.length := by have := HM.out.2.2.2.2.2.1; omega
      have hres : dfs g.es (k + 1) v t = (t'.1, t'.2 ++ [v]) := by rw [dfs_succ, ht']
      obtain ⟨os, oc, rfl⟩ := h1.lst.shape (n := t'.2.length) (by rw [List.length_map])
      have l1 := h1.lx
      have lf := h1.lfr
      have hbl := h1.lts
      have hll : (t'.2.map fun x : Nat => (x : Int)).length < 17592186044416 := by rw [List.length_map]; omega
      have hBZ : B ≤ Z.heap.size := by have := h1.ne; omega
      have hno : some bl ≠ (Value.slice os t'.2.length oc).ownBlock := fun e => by have := (h1.lst.lt _ e.symm).1; have := h1.ne; omega
      have hop : OpenM B [D] Z := (OpenM.nil B Z).cons (by have := H3.out.2.2.2; omega) (by simp) hK
      have HE := Lib.hid (And.intro h1 (And.intro h2 (And.intro hc (And.intro hres (And.intro hll (And.intro hBZ (And.intro hno hop)))))))
      clear h1 h2 h3 hcnt hpl hc hres hll hBZ hno hop hdf ht' hK hys
      have hblz : bl ≠ Z.heap.size := by omega
      go_wp2_with (at_builtin; refine wp_append1at (f := Value.int .i64) sIntG rfl _ rfl _ _ rfl B _ (t'.2.map fun x : Nat => (x : Int)) rfl (HE.out.1.lst.alloc _) (v : Int) ⟨Z.heap.size, 0, none⟩ rfl (cell_alloc1 _ _ _) rfl HE.out.2.2.2.2.1 (by omega) (le_alloc _ HE.out.2.2.2.2.2.1) ?_; intro v' w3 hown hgr hat; obtain ⟨s9, c9, rfl⟩ := hown.shape (n := t'.2.length + 1) (by rw [List.length_append, List.length_map]; rfl); have e1 := hgr.cell ((grownBy_alloc Z (.cells #[.int .i64 (v : Int)] 3)).cell l1 (by simp)) HE.out.2.2.2.2.2.2.1; have f1 : w3.frozen? ⟨bl, 0, none⟩ = false := (frozen_kept hgr (by rw [World.size_alloc]; omega) HE.out.2.2.2.2.2.2.1 (frozen_kept (grownBy_alloc Z (.cells #[.int .i64 (v : Int)] 3)) hbl.2.1 (by simp) lf)); have HO := Lib.hid (And.intro hown (And.intro hgr hat)); clear hown hgr hat)
      obtain ⟨m1, m2⟩ := HE.out.1.put HE.out.2.2.1 HO.out.1 HO.out.2.1 HO.out.2.2
      have hop2 : OpenM B [D] (w3.setCell ⟨bl, 0, none⟩ (.slice s9 (t'.2.length + 1) c9)) := HE.out.2.2.2.2.2.2.2.kept fun D' hD' => by
        have h9 := (HE.out.2.2.2.2.2.2.2.op D' hD').2
        rw [m2.oth.same D' _ h9 rfl, h9]
      refine leaves_marks (Ds := [D]) (B := B) hop2 ⟨_, results_none rfl _ _ _, rfl, .slice s9 (t'.2.length + 1) c9, ?_, ?_⟩
      · rw [HE.out.2.2.2.1]
        have hDo := hop2.op D (by simp)
        exact m1.grown (grownBy_putObj' _ D (.deferred none)) (fun q e => by
          have e2 : D = q := Option.some.inj e
          subst e2
          exact ⟨hDo.1, fun e3 => by
            rcases own_ne_obj m1.lst hDo.2 rfl with h9 | h9
            · rw [h9] at e3; cases e3
            · exact h9 e3⟩)
      · exact (HE.out.2.1.trans m2).grownAt (by have := H3.out.2.2.2; omega) (grownBy_putObj' _ D (.deferred none)) (fun q e => by have e2 : D = q := Option.some.inj e; omega)
    case stop =>
      rintro D c pre Z _ _ h _
      exact h.elim
end Go.Proofs.Ytlijimdkadobmaa

/- Contract of Postorder. -/
namespace Go.Gra
/-- The postorder from a root. -/
def postL (g : G) (r : Nat) : List Nat := (dfs g.es g.n.toNat r ([], [])).2
end Go.Gra
namespace Go.Proofs.Ytlijimdkadobmaa
open Go.RowKit Go.Dfl Go.Gra
def postZ (g : G) (r : Int) : List Nat := if nodeG g r then postL g r.toNat else []
def PostR (g : G) (r : Int) (W : World) (e : Ending) (W' : World) : Prop := ∃ a c, e = .returned (.slice a (postZ g r).length c) ∧ Ints W' (.slice a (postZ g r).length c) ((postZ g r).map fun x : Nat => (x : Int)) ∧ Below W.heap.size W W'
/-- The same, the list being the call's own. -/
def PostO (g : G) (r : Int) (W : World) (e : Ending) (W' : World) : Prop := ∃ a c, e = .returned (.slice a (postZ g r).length c) ∧ OwnI W' W.heap.size 3 (.slice a (postZ g r).length c) ((postZ g r).map fun x : Nat => (x : Int)) ∧ Below W.heap.size W W'
theorem PostO.any {g : G} {r : Int} {W : World} {e : Ending} {W' : World} (h : PostO g r W e W') : PostR g r W e W' := by
  obtain ⟨a, c, h1, h2, h3⟩ := h
  exact ⟨a, c, h1, h2.lst, h3⟩
theorem PoW.new {W2 : World} {s : Option Addr} {n cap bg B0 : Nat} {g : G} {ca : Option Addr} {cc : Nat} (h : Go.Dfl.Own Value.bool W2 B0 4 (.slice s n cap) (List.replicate n false)) (hB : B0 ≤ W2.heap.size) (hb : BoxG W2 bg g.n (.slice ca g.es.length cc)) (hp : Pairs W2 (.slice ca g.es.length cc) g.es) (hbg : bg < B0) (hes : bcOf g ca bg < B0) :
    PoW W2.heap.size (W2.heap.size + 1) (W2.heap.size + 1 + 1) bg B0 (W2.heap.size + 1 + 1 + 1) n cap s g ca cc ([], []) (.slice none 0 0) (((W2.alloc (.cells #[.slice s n cap] 49)).alloc (.cells #[.slice none 0 0] 31)).alloc (.cells #[.func (.func 53) #[] #[.pointer (some ⟨W2.heap.size, 0, none⟩), .pointer (some ⟨bg, 0, none⟩), .pointer (some ⟨W2.heap.size + 1 + 1, 0, none⟩), .pointer (some ⟨W2.heap.size + 1, 0, none⟩)]] 73)) := by
  have b1 := (Below.refl W2.heap.size W2).alloc (Nat.le_refl _) (.cells #[.slice s n cap] 49)
  have b2 := b1.alloc (by rw [World.size_alloc]; omega) (.cells #[.slice none 0 0] 31)
  have b3 := b2.alloc (by rw [World.size_alloc, World.size_alloc]; omega) (.cells #[.func (.func 53) #[] #[.pointer (some ⟨W2.heap.size, 0, none⟩), .pointer (some ⟨bg, 0, none⟩), .pointer (some ⟨W2.heap.size + 1 + 1, 0, none⟩), .pointer (some ⟨W2.heap.size + 1, 0, none⟩)]] 73)
  have g2 := grownBy_alloc (W2.alloc (.cells #[.slice s n cap] 49)) (.cells #[.slice none 0 0] 31)
  have g3 := grownBy_alloc ((W2.alloc (.cells #[.slice s n cap] 49)).alloc (.cells #[.slice none 0 0] 31)) (.cells #[.func (.func 53) #[] #[.pointer (some ⟨W2.heap.size, 0, none⟩), .pointer (some ⟨bg, 0, none⟩), .pointer (some ⟨W2.heap.size + 1 + 1, 0, none⟩), .pointer (some ⟨W2.heap.size + 1, 0, none⟩)]] 73)
  have c1 := cell_alloc1 W2 (.slice s n cap) 49
  have c2 := cell_alloc1 (W2.alloc (.cells #[.slice s n cap] 49)) (.slice none 0 0) 31
  have f2 := frozen_alloc1 (W2.alloc (.cells #[.slice s n cap] 49)) (.slice none 0 0) 31
  have c3 := cell_alloc1 ((W2.alloc (.cells #[.slice s n cap] 49)).alloc (.cells #[.slice none 0 0] 31)) (.func (.func 53) #[] #[.pointer (some ⟨W2.heap.size, 0, none⟩), .pointer (some ⟨bg, 0, none⟩), .pointer (some ⟨W2.heap.size + 1 + 1, 0, none⟩), .pointer (some ⟨W2.heap.size + 1, 0, none⟩)]) 73
  simp only [World.size_alloc] at c2 f2 c3
  have hv : visB n [] = List.replicate n false := by
    unfold visB
    rw [List.eq_replicate_iff]
    exact ⟨by simp, fun b hb => by simp at hb; exact hb.2⟩
  refine ⟨g3.cell (g2.cell c1 (by simp)) (by simp), ?_, g3.cell c2 (by simp), frozen_kept g3 (by simp only [World.size_alloc]; omega) (by simp) f2, Go.Dfl.Own.nil _ _ _ _, c3, hb.below b3, hp.below b3, fun k e => ?_, ⟨by omega, by omega, by omega, by omega, by omega, by omega, by omega, by omega, by omega, hbg, by omega, by omega, by simp only [World.size_alloc]; omega⟩, hes, ⟨fun x hx => by simp at hx, List.nodup_nil⟩, by simp⟩
  · dsimp only; rw [hv]; exact ((h.alloc _).alloc _).alloc _
  · have := h.lt k e; omega
set_option maxHeartbeats 3200000 in
set_option maxRecDepth 100000 in
theorem gPostorder_own (g : G) (cv : Value) (r : Int) (W : World) (h : Pairs W cv g.es) : Calls Try.prog 44 #[GV g cv, .int .i64 r] W (PostO g r W) := by
  obtain ⟨ca, cc, rfl, -, -, -⟩ := pairs_rd h
  have hal := (Below.refl W.heap.size W).alloc (Nat.le_refl _) (.cells #[.int .i64 g.n, .slice ca g.es.length cc] 24)
  have hbc : bcOf g ca W.heap.size ≤ W.heap.size := by
    rcases bcOf_or (bg := W.heap.size) h with h1 | h1 <;> omega
  have H0 := Lib.hid (And.intro (h.below hal) (And.intro hal (BoxG.new W g.n (.slice ca g.es.length cc) 24)))
  have HBC := Lib.hid hbc
  clear h hal hbc
  unfold GV
  go_enter Try.func44, Try.ntmps44
  go_wp2_with fail
  have hck := gCheck_any g (.slice ca g.es.length cc) _ H0.out.1
  unfold GV at hck
  refine hck.mono ?_
  rintro e W1 ⟨rfl, r1⟩
  have H1 := Lib.hid (And.intro (H0.out.1.below r1) (And.intro (H0.out.2.1.trans (r1.mono H0.out.2.1.size)) (H0.out.2.2.below r1)))
  clear r1 hck
  obtain ⟨c0, c1⟩ := H1.out.2.2
  have n1 : W.heap.size < W1.heap.size := H1.out.2.2.lt
  generalize hbs : W.heap.size = bs at *
  have HBS := Lib.hid hbs
  have n2 : bs ≠ W1.heap.size := by omega
  clear hbs
  by_cases hc : gCode g = 0
  · have q0 : (gCode g != 0) = false := by simpa using hc
    cases hnd : nodeB g.n r
    · have HN : Hid (postZ g r = []) := Lib.hid (by unfold postZ nodeG; simp [hnd])
      go_wp2_with (go_at_call 51; refine (node_any _ _ _).mono ?_; rintro e w' ⟨rfl, hw⟩; rw [hw]; clear hw w')
      go_ret
      exact ⟨none, 0, by rw [HN.out]; rfl, by rw [HN.out]; exact Go.Dfl.Own.nil _ _ _ _, by rw [HBS.out]; exact H1.out.2.1⟩
    · have hvg := gCode_ok.1 hc
      obtain ⟨hv0, hv1⟩ := nodeB_iff.1 hnd
      obtain ⟨v, rfl⟩ : ∃ v : Nat, r = v := ⟨r.toNat, by omega⟩
      obtain ⟨n, hn⟩ : ∃ n : Nat, g.n = n := ⟨g.n.toNat, by omega⟩
      have HN : Hid (postZ g (v : Int) = (dfs g.es n v ([], [])).2) := Lib.hid (by
        have h1 : nodeG g (v : Int) = true := by unfold nodeG; rw [decide_eq_true hc, hnd]; rfl
        unfold postZ postL
        rw [if_pos h1, hn, Int.toNat_natCast, Int.toNat_natCast])
      have hn8 : n ≤ 8192 := by have := hvg.n1; omega
      have hvn : v < n := by omega
      have HV := Lib.hid (And.intro hvg hn)
      rw [hn] at c0 hnd ⊢
      clear hvg hv0 hv1 hc hn
      go_wp2_with (first | (go_at_call 51; refine (node_any _ _ _).mono ?_; rintro e w' ⟨rfl, hw⟩; rw [hw]; clear hw w') | (at_make; refine wp_make (f := Value.bool) false sBoolG rfl _ rfl _ _ rfl .i64 .i64 _ _ n rfl rfl rfl rfl (by omega) (by unfold maxLen; omega) ?_))
      intro s cap W2 hrow hb2
      have hnew := PoW.new (bg := bs) (B0 := W1.heap.size) hrow hb2.size (H1.out.2.2.below hb2) (H1.out.1.below hb2) n1 (by have := HBC.out; omega)
      have hcall := visitP_any W2.heap.size (W2.heap.size + 1) (W2.heap.size + 1 + 1) bs W1.heap.size (W2.heap.size + 1 + 1 + 1) n cap s g ca cc HV.out.1 HV.out.2 n v ([], []) (.slice none 0 0) _ hnew (by simp) hvn (by simp) (by simp)
      have hb3 := ((hb2.alloc hb2.size (.cells #[.slice s n cap] 49)).alloc (by rw [World.size_alloc]; have := hb2.size; omega) (.cells #[.slice none 0 0] 31)).alloc (by rw [World.size_alloc, World.size_alloc]; have := hb2.size; omega) (.cells #[.func (.func 53) #[] #[.pointer (some ⟨W2.heap.size, 0, none⟩), .pointer (some ⟨bs, 0, none⟩), .pointer (some ⟨W2.heap.size + 1 + 1, 0, none⟩), .pointer (some ⟨W2.heap.size + 1, 0, none⟩)]] 73)
      have HC := Lib.hid (And.intro hcall hb3)
      clear hrow hb2 hnew hcall hb3
      go_wp2_with fail
      refine HC.out.1.mono ?_
      rintro e W3 ⟨rfl, ov', p1, p2⟩
      obtain ⟨os, oc, rfl⟩ := p1.lst.shape (n := (dfs g.es n v ([], [])).2.length) (by rw [List.length_map])
      have l1 := p1.lx
      have HP := Lib.hid (And.intro p1 (HC.out.2.trans p2.below))
      clear p1 p2
      go_wp2_with fail
      go_ret
      refine ⟨os, oc, by rw [HN.out]; rfl, ?_, by rw [HBS.out]; exact H1.out.2.1.trans (HP.out.2.mono (Nat.le_of_lt n1))⟩
      rw [HN.out]; exact HP.out.1.lst.mono (by have := HP.out.1.ne; have h9 := HP.out.2.size; rw [HBS.out]; omega)
  · have hz : (gCode g != 0) = true := by simpa using hc
    have HN : Hid (postZ g r = []) := Lib.hid (by unfold postZ nodeG; simp [hc])
    clear hc
    go_wp2_with fail
    go_ret
    exact ⟨none, 0, by rw [HN.out]; rfl, by rw [HN.out]; exact Go.Dfl.Own.nil _ _ _ _, by rw [HBS.out]; exact H1.out.2.1⟩
theorem gPostorder_any (g : G) (cv : Value) (r : Int) (W : World) (h : Pairs W cv g.es) : Calls Try.prog 44 #[GV g cv, .int .i64 r] W (PostR g r W) :=
  (gPostorder_own g cv r W h).mono fun _ _ h => h.any
end Go.Proofs.Ytlijimdkadobmaa

/- Plain: what the depth-first search gives. -/
namespace Go.Gra
open Go.Dfl (nth nth_mem mem_nth nth_eq nth_ext nth_append)
/-- Every successor stands earlier. -/
def OrdL (es : List (Int × Int)) (l : List Nat) : Prop := ∀ i, i < l.length → ∀ w ∈ suc es (nth l i), ∃ j, j < i ∧ nth l j = w
/-- From the state s to the state r; the new nodes have the property Q. -/
structure Dx (es : List (Int × Int)) (Q : Nat → Prop) (s r : List Nat × List Nat) : Prop where
  sub1 : ∀ x ∈ s.1, x ∈ r.1
  sub2 : ∀ x ∈ s.2, x ∈ r.2
  fin : ∀ x ∈ r.1, x ∈ s.1 ∨ x ∈ r.2
  new : ∀ x ∈ r.2, x ∈ s.2 ∨ (x ∈ r.1 ∧ ¬ x ∈ s.1)
  rch : ∀ x ∈ r.1, x ∈ s.1 ∨ Q x
  cls : ∀ x ∈ r.1, ¬ x ∈ s.1 → ∀ w ∈ suc es x, w ∈ r.1
  nd : s.2.Nodup → (∀ x ∈ s.2, x ∈ s.1) → r.2.Nodup
theorem Dx.refl {es : List (Int × Int)} {Q : Nat → Prop} {s : List Nat × List Nat} : Dx es Q s s :=
  ⟨fun _ h => h, fun _ h => h, fun _ h => .inl h, fun _ h => .inl h, fun _ h => .inl h, fun _ h h2 => absurd h h2, fun h _ => h⟩
theorem Dx.trans {es : List (Int × Int)} {Q : Nat → Prop} {a b c : List Nat × List Nat} (h : Dx es Q a b) (k : Dx es Q b c) : Dx es Q a c := by
  refine ⟨fun x hx => k.sub1 x (h.sub1 x hx), fun x hx => k.sub2 x (h.sub2 x hx), fun x hx => ?_, fun x hx => ?_, fun x hx => ?_, fun x hx hn => ?_, fun h1 h2 => ?_⟩
  · rcases k.fin x hx with h1 | h1
    · rcases h.fin x h1 with h2 | h2
      · exact .inl h2
      · exact .inr (k.sub2 x h2)
    · exact .inr h1
  · rcases k.new x hx with h1 | ⟨h1, h2⟩
    · rcases h.new x h1 with h3 | ⟨h3, h4⟩
      · exact .inl h3
      · exact .inr ⟨k.sub1 x h3, h4⟩
    · exact .inr ⟨h1, fun h3 => h2 (h.sub1 x h3)⟩
  · rcases k.rch x hx with h1 | h1
    · exact h.rch x h1
    · exact .inr h1
  · by_cases hb : x ∈ b.1
    · exact fun w hw => k.sub1 w (h.cls x hb hn w hw)
    · exact k.cls x hx hb
  · refine k.nd (h.nd h1 h2) fun x hx => ?_
    rcases h.new x hx with h3 | ⟨h3, -⟩
    · exact h.sub1 x (h2 x h3)
    · exact h3
theorem Dx.imp {es : List (Int × Int)} {Q R : Nat → Prop} {a b : List Nat × List Nat} (h : Dx es Q a b) (hi : ∀ x, Q x → R x) : Dx es R a b :=
  ⟨h.sub1, h.sub2, h.fin, h.new, fun x hx => (h.rch x hx).imp (fun h => h) (hi x), h.cls, h.nd⟩
/-- What a visit is told. -/
def DfsS (g : G) (k : Nat) : Prop := ∀ (v : Nat) (s : List Nat × List Nat), DOk g.n.toNat s → v < g.n.toNat → ¬ v ∈ s.1 → g.n.toNat ≤ s.1.length + k →
  Dx g.es (Rch g.es v) s (dfs g.es k v s) ∧ v ∈ (dfs g.es k v s).1 ∧ ((∀ u w, w ∈ suc g.es u → w < u) → (∀ x ∈ s.1, ¬ x ∈ s.2 → v < x) → OrdL g.es s.2 → OrdL g.es (dfs g.es k v s).2)
theorem dst_foldS {g : G} (h : VG g) {k : Nat} (ih : DfsS g k) (v : Nat) : ∀ (l : List Nat) (t : List Nat × List Nat), DOk g.n.toNat t → g.n.toNat ≤ t.1.length + k → (∀ w ∈ l, w ∈ suc g.es v) →
    Dx g.es (Rch g.es v) t (l.foldl (dst g.es k) t) ∧ (∀ w ∈ l, w ∈ (l.foldl (dst g.es k) t).1) ∧ ((∀ u w, w ∈ suc g.es u → w < u) → (∀ x ∈ t.1, ¬ x ∈ t.2 → v ≤ x) → OrdL g.es t.2 → OrdL g.es (l.foldl (dst g.es k) t).2)
  | [], t, _, _, _ => ⟨Dx.refl, fun w hw => by simp at hw, fun _ _ h => h⟩
  | w :: l, t, ht, hk, hl => by
    have hwv := hl w (by simp)
    have hwn := suc_node h hwv
    have h1 : Dx g.es (Rch g.es v) t (dst g.es k t w) ∧ w ∈ (dst g.es k t w).1 ∧ DOk g.n.toNat (dst g.es k t w) ∧ t.1.length ≤ (dst g.es k t w).1.length ∧ ((∀ u w, w ∈ suc g.es u → w < u) → (∀ x ∈ t.1, ¬ x ∈ t.2 → v ≤ x) → OrdL g.es t.2 → OrdL g.es (dst g.es k t w).2) := by
      unfold dst
      split
      · rename_i hm; exact ⟨Dx.refl, hm, ht, Nat.le_refl _, fun _ _ h => h⟩
      · rename_i hm
        obtain ⟨d1, d2, d3⟩ := ih w t ht hwn hm hk
        have d4 := dfs_ok h k w t ht hwn hm hk
        exact ⟨d1.imp fun x hx => (Rch.one hwv).trans hx, d2, d4.ok, d4.pre.length_le, fun hd hp ho => d3 hd (fun x hx hn => by have := hp x hx hn; have := hd v w hwv; omega) ho⟩
    obtain ⟨e1, e2, e3, e4, e5⟩ := h1
    obtain ⟨f1, f2, f3⟩ := dst_foldS h ih v l (dst g.es k t w) e3 (by omega) fun y hy => hl y (List.mem_cons_of_mem _ hy)
    refine ⟨e1.trans f1, fun y hy => ?_, fun hd hp ho => f3 hd (fun x hx hn => ?_) (e5 hd hp ho)⟩
    · rcases List.mem_cons.1 hy with rfl | hy
      · exact f1.sub1 _ e2
      · exact f2 y hy
    · rcases e1.fin x hx with h2 | h2
      · exact hp x h2 fun h3 => hn (e1.sub2 x h3)
      · exact absurd h2 hn
theorem ordL_snoc {es : List (Int × Int)} {l : List Nat} {v : Nat} (h : OrdL es l) (hv : ∀ w ∈ suc es v, w ∈ l) : OrdL es (l ++ [v]) := by
  intro i hi w hw
  rw [List.length_append, List.length_singleton] at hi
  rw [nth_append] at hw
  by_cases hil : i < l.length
  · rw [if_pos hil] at hw
    obtain ⟨j, hj, e⟩ := h i hil w hw
    exact ⟨j, hj, by rw [nth_append, if_pos (by omega)]; exact e⟩
  · rw [if_neg hil, show i - l.length = 0 by omega, show nth [v] 0 = v from rfl] at hw
    obtain ⟨j, hj, e⟩ := mem_nth (hv w hw)
    exact ⟨j, by omega, by rw [nth_append, if_pos hj]; exact e⟩
theorem dfs_spec {g : G} (h : VG g) : ∀ k, DfsS g k
  | 0 => fun v s hs hv hn hk => by
    have h1 := (hs.snoc hv hn []).le
    simp at h1; omega
  | k + 1 => fun v s hs hv hn hk => by
    obtain ⟨f1, f2, f3⟩ := dst_foldS h (dfs_spec h k) v (suc g.es v) (s.1 ++ [v], s.2) (hs.snoc hv hn _) (by simp; omega) fun w hw => hw
    rw [dfs_succ]
    generalize (suc g.es v).foldl (dst g.es k) (s.1 ++ [v], s.2) = t at *
    have hvt : v ∈ t.1 := f1.sub1 v (by simp)
    have hold : ∀ x, x ∈ s.1 ++ [v] ↔ x ∈ s.1 ∨ x = v := fun x => by simp
    refine ⟨⟨fun x hx => f1.sub1 x (by simp [hx]), fun x hx => List.mem_append.2 (.inl (f1.sub2 x hx)), fun x hx => ?_, fun x hx => ?_, fun x hx => ?_, fun x hx hnx => ?_, fun h1 h2 => ?_⟩, hvt, fun hd hp ho => ?_⟩
    · rcases f1.fin x hx with h1 | h1
      · rcases (hold x).1 h1 with h2 | rfl
        · exact .inl h2
        · exact .inr (by simp)
      · exact .inr (List.mem_append.2 (.inl h1))
    · rcases List.mem_append.1 hx with h1 | h1
      · rcases f1.new x h1 with h2 | ⟨h2, h3⟩
        · exact .inl h2
        · exact .inr ⟨h2, fun h4 => h3 ((hold x).2 (.inl h4))⟩
      · rw [List.mem_singleton.1 h1]; exact .inr ⟨hvt, hn⟩
    · rcases f1.rch x hx with h1 | h1
      · rcases (hold x).1 h1 with h2 | rfl
        · exact .inl h2
        · exact .inr (.refl _)
      · exact .inr h1
    · by_cases e : x = v
      · subst e; exact f2
      · exact f1.cls x hx fun h1 => ((hold x).1 h1).elim hnx e
    · have h3 := f1.nd h1 fun x hx => by simp [h2 x hx]
      refine nodup_snoc' h3 fun hm => ?_
      rcases f1.new v hm with h4 | ⟨-, h4⟩
      · exact hn (h2 v h4)
      · exact h4 (by simp)
    · have hpt : ∀ x ∈ s.1 ++ [v], ¬ x ∈ s.2 → v ≤ x := fun x hx hnx => by
        rcases (hold x).1 hx with h1 | rfl
        · have := hp x h1 hnx; omega
        · exact Nat.le_refl _
      refine ordL_snoc (f3 hd hpt ho) fun w hw => ?_
      rcases f1.fin w (f2 w hw) with h1 | h1
      · apply Classical.byContradiction
        intro hnw
        have h2 := hpt w h1 fun h3 => hnw (f1.sub2 w h3)
        have h3 := hd v w hw
        omega
      · exact h1
/-- The postorder from a root: each reached node once, the root last; if all edges lead down, every successor stands earlier. -/
theorem postL_spec {g : G} (h : VG g) {r : Nat} (hr : r < g.n.toNat) : (postL g r).Nodup ∧ (∀ x, x ∈ postL g r ↔ Rch g.es r x) ∧ (∃ m, postL g r = m ++ [r]) ∧ ((∀ u w, w ∈ suc g.es u → w < u) → OrdL g.es (postL g r)) := by
  obtain ⟨d1, d2, d3⟩ := dfs_spec h g.n.toNat r ([], []) ⟨fun x hx => by simp at hx, List.nodup_nil⟩ hr (by simp) (by simp)
  have hall : ∀ x, x ∈ (dfs g.es g.n.toNat r ([], [])).1 ↔ x ∈ postL g r := fun x => by
    constructor
    · intro hx
      rcases d1.fin x hx with h1 | h1
      · simp at h1
      · exact h1
    · intro hx
      rcases d1.new x hx with h1 | ⟨h1, -⟩
      · simp at h1
      · exact h1
  refine ⟨d1.nd List.nodup_nil (fun x hx => by simp at hx), fun x => ?_, ?_, fun hd => d3 hd (fun x hx => by simp at hx) (fun i hi => by simp at hi)⟩
  · rw [← hall]
    constructor
    · intro hx
      rcases d1.rch x hx with h1 | h1
      · simp at h1
      · exact h1
    · intro hx
      induction hx with
      | refl => exact d2
      | step _ hc ih => exact d1.cls _ ih (by simp) _ hc
  · unfold postL
    obtain ⟨k, hk⟩ : ∃ k, g.n.toNat = k + 1 := ⟨g.n.toNat - 1, by omega⟩
    rw [hk, dfs_succ]
    exact ⟨_, rfl⟩
end Go.Gra

/- Plain: Postorder beside Reach. -/
namespace Go.Gra
open Go.Dfl (nth nth_mem mem_nth nth_eq nth_ext nth_append)
/-- What Reach hands back. -/
def ReachIs (g : G) (l A : List Int) : Prop := (gCode g ≠ 0 ∧ A = []) ∨ (gCode g = 0 ∧ A.Pairwise (· < ·) ∧ ∀ y : Int, y ∈ A ↔ 0 ≤ y ∧ y.toNat ∈ reachL g l)
end Go.Gra
namespace Go.Proofs.Ytlijimdkadobmaa
open Go.RowKit Go.Dfl Go.Gra
theorem postZ_spec {g : G} {r : Int} (h : nodeG g r = true) : VG g ∧ 0 ≤ r ∧ r.toNat < g.n.toNat ∧ postZ g r = postL g r.toNat := by
  obtain ⟨h1, h2, h3⟩ := nodeG_iff.1 h
  exact ⟨h1, h2, by omega, by unfold postZ; rw [if_pos h]⟩
theorem postZ_nd (g : G) (r : Int) : (postZ g r).Nodup := by
  cases h : nodeG g r
  · unfold postZ; rw [h]; exact List.nodup_nil
  · obtain ⟨h1, -, h3, h4⟩ := postZ_spec h
    rw [h4]; exact (postL_spec h1 h3).1
/-- The members are those of Reach. -/
theorem postZ_mem {g : G} {r : Int} {A : List Int} (hA : ReachIs g [r] A) (x : Nat) : x ∈ postZ g r ↔ (x : Int) ∈ A := by
  rcases hA with ⟨h1, rfl⟩ | ⟨h1, -, h3⟩
  · have h : nodeG g r = false := by unfold nodeG; rw [decide_eq_false h1]; rfl
    unfold postZ; rw [h]; simp
  · rw [h3, Int.toNat_natCast, mem_reachL (gCode_ok.1 h1)]
    cases h : nodeG g r
    · have hn : nodeB g.n r = false := by
        unfold nodeG at h; rw [decide_eq_true h1] at h; simpa using h
      unfold postZ; rw [h]
      constructor
      · intro hx; simp at hx
      · rintro ⟨-, v, hv, hnv, -⟩
        rw [List.mem_singleton] at hv
        rw [hv, hn] at hnv; cases hnv
    · obtain ⟨k1, k2, k3, k4⟩ := postZ_spec h
      have hn : nodeB g.n r = true := by
        unfold nodeG at h; rw [decide_eq_true h1] at h; simpa using h
      rw [k4, (postL_spec k1 k3).2.1]
      constructor
      · intro hx; exact ⟨by omega, r, by simp, hn, hx⟩
      · rintro ⟨-, v, hv, -, hR⟩
        rw [List.mem_singleton] at hv
        rw [hv] at hR; exact hR
theorem reachIs_nd {g : G} {l A : List Int} (hA : ReachIs g l A) : A.Nodup ∧ ∀ y ∈ A, 0 ≤ y := by
  rcases hA with ⟨-, rfl⟩ | ⟨-, h2, h3⟩
  · exact ⟨List.nodup_nil, fun y hy => by simp at hy⟩
  · exact ⟨h2.imp fun {a b} h (e : a = b) => by omega, fun y hy => ((h3 y).1 hy).1⟩
theorem postZ_len {g : G} {r : Int} {A : List Int} (hA : ReachIs g [r] A) : (postZ g r).length = A.length := by
  obtain ⟨h1, h2⟩ := reachIs_nd hA
  have hn : ((postZ g r).map fun x : Nat => (x : Int)).Nodup := List.pairwise_map.2 ((postZ_nd g r).imp fun {a b} h => by omega)
  have e1 := nodup_le _ A hn fun x hx => by
    obtain ⟨y, hy, rfl⟩ := List.mem_map.1 hx
    exact (postZ_mem hA y).1 hy
  have e2 := nodup_le A ((postZ g r).map fun x : Nat => (x : Int)) h1 fun x hx => by
    have h0 := h2 x hx
    refine List.mem_map.2 ⟨x.toNat, (postZ_mem hA x.toNat).2 ?_, by omega⟩
    rw [Int.toNat_of_nonneg h0]; exact hx
  rw [List.length_map] at e1 e2
  omega
theorem postZ_last {g : G} {r : Int} (h : 0 < (postZ g r).length) : ((nth (postZ g r) ((postZ g r).length - 1) : Nat) : Int) = r := by
  cases hn : nodeG g r
  · unfold postZ at h; rw [hn] at h; simp at h
  · obtain ⟨k1, k2, k3, k4⟩ := postZ_spec hn
    obtain ⟨-, -, ⟨m, hm⟩, -⟩ := postL_spec k1 k3
    rw [k4, hm, List.length_append, List.length_singleton, Nat.add_sub_cancel, nth_append, if_neg (by omega), Nat.sub_self]
    show ((r.toNat : Nat) : Int) = r
    omega
/-- No node stands twice. -/
theorem postZ_once {g : G} {r : Int} {i : Nat} (hi : i < (postZ g r).length) : ¬ nth (postZ g r) i ∈ (postZ g r).take i := by
  intro hm
  obtain ⟨j, hj, e⟩ := mem_nth hm
  rw [List.length_take] at hj
  have hj2 : nth ((postZ g r).take i) j = nth (postZ g r) j := by
    rw [nth_eq _ _ (by rw [List.length_take]; exact hj), nth_eq _ _ (by omega), List.getElem_take]
  rw [hj2, nth_eq _ _ (by omega), nth_eq _ _ hi] at e
  have := (List.getElem_inj (postZ_nd g r)).1 e
  omega
/-- If all edges lead down, each successor stands earlier. -/
theorem postZ_down {g : G} {r : Int} (hd : ∀ e ∈ g.es, e.2 < e.1) {i : Nat} (hi : i < (postZ g r).length) {w : Nat} (hw : w ∈ suc g.es (nth (postZ g r) i)) : w ∈ (postZ g r).take i := by
  cases hn : nodeG g r
  · unfold postZ at hi; rw [hn] at hi; simp at hi
  · obtain ⟨k1, k2, k3, k4⟩ := postZ_spec hn
    obtain ⟨-, -, -, ho⟩ := postL_spec k1 k3
    rw [k4] at hi hw ⊢
    obtain ⟨j, hj, e⟩ := ho (fun u w hw => by
      obtain ⟨ed, he, h1, h2⟩ := mem_suc.1 hw
      have h3 := hd ed he
      have h4 := k1.inn ed he
      omega) i hi w hw
    rw [← e]
    have hlt : j < (List.take i (postL g r.toNat)).length := by rw [List.length_take]; omega
    have h5 : nth (List.take i (postL g r.toNat)) j = nth (postL g r.toNat) j := by
      rw [nth_eq _ _ hlt, nth_eq _ _ (by omega), List.getElem_take]
    rw [← h5]
    exact nth_mem _ _ hlt
end Go.Proofs.Ytlijimdkadobmaa
