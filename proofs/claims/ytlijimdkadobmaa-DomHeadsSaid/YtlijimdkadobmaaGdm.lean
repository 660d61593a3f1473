/- The memory of distances. -/
import Derived.Test.YtlijimdkadobmaaGdb
namespace Go.Proofs.Ytlijimdkadobmaa
open Go.RowKit Go.Dfl Go.Gra Go.Shelf

theorem own_one' {α : Type} (f : α → Value) {w : World} {base : Nat} {e : TypeId} {B : Nat} (x : α) (h : B = w.heap.size) (hb : base ≤ w.heap.size) : Go.Dfl.Own f (w.alloc (.cells #[f x] e)) base e (.slice (some ⟨B, 0, none⟩) 1 1) [x] := by
  subst h
  exact World.ownsRow_lit (size := 1) w #[f x] 1 hb (by unfold maxLen; omega) rfl
theorem own_at {α : Type} {f : α → Value} {w : World} {base : Nat} {e : TypeId} {s : Option Addr} {n cap : Nat} {l : List α} (h : Go.Dfl.Own f w base e (.slice s n cap) l) (hn : 0 < l.length) : (Value.slice s n cap).ownBlock = some (blk s) ∧ ofs s = 0 := by
  obtain ⟨-, ⟨-, h3⟩ | ⟨g, cap2, cur, hv, -⟩⟩ := h
  · omega
  · simp only [Value.slice.injEq] at hv
    obtain ⟨rfl, -, -⟩ := hv
    exact ⟨rfl, rfl⟩
theorem frozen_kept {W W' : World} {row : Option Nat} {b : Nat} (hg : W.grownBy W' row) (hb : b < W.heap.size) (hr : some b ≠ row) (hf : W.frozen? ⟨b, 0, none⟩ = false) : W'.frozen? ⟨b, 0, none⟩ = false := by
  rw [World.frozen?_of_block (a := ⟨b, 0, none⟩) (hg.block b hb hr)]; exact hf
theorem frozen_alloc1 (W : World) (v : Value) (t : TypeId) : (W.alloc (.cells #[v] t)).frozen? ⟨W.heap.size, 0, none⟩ = false := by
  unfold World.frozen?; dsimp only; rw [heap_alloc_new]; simp
/-- The state of the first loop. -/
structure D1 (W1 : World) (bf n cap : Nat) (s : Option Addr) (l : List Int) (Z : World) : Prop where
  bx : Z.cell? ⟨bf, 0, none⟩ = some (.slice s n cap)
  row : OwnI Z W1.heap.size 3 (.slice s n cap) l
  bel : Below W1.heap.size W1 Z
  ge : W1.heap.size ≤ bf
  sep : ∀ k, (Value.slice s n cap).ownBlock = some k → k ≠ bf
  len : l.length = n
theorem D1.set {W1 : World} {bf n cap : Nat} {s : Option Addr} {l : List Int} {Z : World} (h : D1 W1 bf n cap s l Z) {i : Nat} (hi : i < n) (x : Int) : D1 W1 bf n cap s (l.set i x) (Z.setCell ⟨blk s, ofs s + i, none⟩ (.int .i64 x)) := by
  obtain ⟨ho, -⟩ := own_at h.row (by rw [h.len]; omega)
  have hlt := h.row.lt _ ho
  refine ⟨?_, h.row.set i x, h.bel.setCell (p := ⟨blk s, ofs s + i, none⟩) hlt.1 _, h.ge, h.sep, by rw [List.length_set]; exact h.len⟩
  exact (grownBy_setCell Z ⟨blk s, ofs s + i, none⟩ (.int .i64 x)).cell h.bx fun e => h.sep _ ho (Option.some.inj e).symm
/-- The state of the second loop: the distances (box bf), the queue (box bo), the place in it (box bi). -/
structure DsW (bf bo bi B n cap : Nat) (s : Option Addr) (t : List Int × List Nat) (ov : Value) (i : Nat) (W : World) : Prop where
  bx : W.cell? ⟨bf, 0, none⟩ = some (.slice s n cap)
  row : OwnI W B 3 (.slice s n cap) t.1
  lx : W.cell? ⟨bo, 0, none⟩ = some ov
  lfr : W.frozen? ⟨bo, 0, none⟩ = false
  lst : OwnI W B 3 ov (t.2.map fun x : Nat => (x : Int))
  ix : W.cell? ⟨bi, 0, none⟩ = some (.int .i64 (i : Int))
  ifr : W.frozen? ⟨bi, 0, none⟩ = false
  ne : bf ≠ bo ∧ bf ≠ bi ∧ bo ≠ bi ∧ B ≤ bf ∧ B ≤ bo ∧ B ≤ bi ∧ B ≤ W.heap.size
  sep : ∀ k, (Value.slice s n cap).ownBlock = some k → k ≠ bf ∧ k ≠ bo ∧ k ≠ bi ∧ ov.ownBlock ≠ some k
  sep2 : ∀ k, ov.ownBlock = some k → k ≠ bf ∧ k ≠ bo ∧ k ≠ bi
  coh : CohB n t
section
variable {bf bo bi B n cap : Nat} {s : Option Addr} {t : List Int × List Nat} {ov : Value} {i : Nat} {W W' : World}
theorem DsW.lts (h : DsW bf bo bi B n cap s t ov i W) : bf < W.heap.size ∧ bo < W.heap.size ∧ bi < W.heap.size :=
  ⟨World.block_lt_of_cell? W ⟨bf, 0, none⟩ h.bx, World.block_lt_of_cell? W ⟨bo, 0, none⟩ h.lx, World.block_lt_of_cell? W ⟨bi, 0, none⟩ h.ix⟩
theorem DsW.grown (h : DsW bf bo bi B n cap s t ov i W) {row : Option Nat} (hg : W.grownBy W' row) (hr : ∀ k, row = some k → k ≠ bf ∧ k ≠ bo ∧ k ≠ bi ∧ (Value.slice s n cap).ownBlock ≠ some k ∧ ov.ownBlock ≠ some k) : DsW bf bo bi B n cap s t ov i W' := by
  obtain ⟨l1, l2, l3⟩ := h.lts
  obtain ⟨n1, n2, n3, n4, n5, n6, n7⟩ := h.ne
  refine ⟨hg.cell h.bx fun e => (hr _ e.symm).1 rfl, h.row.grown hg ?_, hg.cell h.lx fun e => (hr _ e.symm).2.1 rfl, frozen_kept hg l2 (fun e => (hr _ e.symm).2.1 rfl) h.lfr, h.lst.grown hg ?_, hg.cell h.ix fun e => (hr _ e.symm).2.2.1 rfl, frozen_kept hg l3 (fun e => (hr _ e.symm).2.2.1 rfl) h.ifr, ⟨n1, n2, n3, n4, n5, n6, Nat.le_trans n7 hg.size⟩, h.sep, h.sep2, h.coh⟩
  · cases e : row with
    | none => cases (Value.slice s n cap).ownBlock <;> simp
    | some k => exact .inr (hr k e).2.2.2.1
  · cases e : row with
    | none => cases ov.ownBlock <;> simp
    | some k => exact .inr (hr k e).2.2.2.2
theorem D1.start {W1 : World} {bf n cap r : Nat} {s : Option Addr} {Z : World} (h : D1 W1 bf n cap s (List.replicate n (-1)) Z) (hr : r < n) :
    DsW bf (Z.heap.size + 1) (Z.heap.size + 1 + 1) W1.heap.size n cap s (root0 n r) (.slice (some ⟨Z.heap.size, 0, none⟩) 1 1) 0 ((((Z.setCell ⟨blk s, ofs s + r, none⟩ (.int .i64 0)).alloc (.cells #[.int .i64 (r : Int)] 3)).alloc (.cells #[.slice (some ⟨Z.heap.size, 0, none⟩) 1 1] 31)).alloc (.cells #[.int .i64 0] 3))
    ∧ Below W1.heap.size W1 ((((Z.setCell ⟨blk s, ofs s + r, none⟩ (.int .i64 0)).alloc (.cells #[.int .i64 (r : Int)] 3)).alloc (.cells #[.slice (some ⟨Z.heap.size, 0, none⟩) 1 1] 31)).alloc (.cells #[.int .i64 0] 3)) := by
  have h1 := h.set hr 0
  obtain ⟨ho, -⟩ := own_at h.row (by rw [h.len]; omega)
  have hlt := h.row.lt _ ho
  have hbf := World.block_lt_of_cell? Z ⟨bf, 0, none⟩ h.bx
  dsimp only at hbf
  have hsz : (Z.setCell ⟨blk s, ofs s + r, none⟩ (.int .i64 0)).heap.size = Z.heap.size := World.size_setCell _ _ _
  generalize Z.setCell ⟨blk s, ofs s + r, none⟩ (.int .i64 0) = V at *
  rw [← hsz] at hlt hbf ⊢
  have gA := grownBy_alloc V (.cells #[.int .i64 (r : Int)] 3)
  have gB := grownBy_alloc (V.alloc (.cells #[.int .i64 (r : Int)] 3)) (.cells #[.slice (some ⟨V.heap.size, 0, none⟩) 1 1] 31)
  have gC := grownBy_alloc ((V.alloc (.cells #[.int .i64 (r : Int)] 3)).alloc (.cells #[.slice (some ⟨V.heap.size, 0, none⟩) 1 1] 31)) (.cells #[.int .i64 0] 3)
  have hVB := h1.bel.size
  have ho1 := own_one' (Value.int .i64) (w := V) (base := W1.heap.size) (e := 3) (B := V.heap.size) (r : Int) rfl hVB
  have c2 := cell_alloc1 (V.alloc (.cells #[.int .i64 (r : Int)] 3)) (.slice (some ⟨V.heap.size, 0, none⟩) 1 1) 31
  have f2 := frozen_alloc1 (V.alloc (.cells #[.int .i64 (r : Int)] 3)) (.slice (some ⟨V.heap.size, 0, none⟩) 1 1) 31
  have c3 := cell_alloc1 ((V.alloc (.cells #[.int .i64 (r : Int)] 3)).alloc (.cells #[.slice (some ⟨V.heap.size, 0, none⟩) 1 1] 31)) (.int .i64 0) 3
  have f3 := frozen_alloc1 ((V.alloc (.cells #[.int .i64 (r : Int)] 3)).alloc (.cells #[.slice (some ⟨V.heap.size, 0, none⟩) 1 1] 31)) (.int .i64 0) 3
  simp only [World.size_alloc] at c2 f2 c3 f3
  refine ⟨⟨gC.cell (gB.cell (gA.cell h1.bx (by simp)) (by simp)) (by simp), (((h1.row.alloc _).alloc _).alloc _), gC.cell c2 (by simp), frozen_kept gC (by simp only [World.size_alloc]; omega) (by simp) f2, ((ho1.alloc _).alloc _), c3, f3, ⟨by omega, by omega, by omega, h.ge, by omega, by omega, by simp only [World.size_alloc]; omega⟩, fun k e => ?_, fun k e => ?_, root0_coh hr⟩, ?_⟩
  · have := h1.row.lt k e
    refine ⟨h.sep k e, by omega, by omega, fun e2 => ?_⟩
    have := Option.some.inj e2
    dsimp only at this
    omega
  · have := Option.some.inj e
    dsimp only at this
    omega
  · exact ((h1.bel.alloc hVB _).alloc (by simp only [World.size_alloc]; omega) _).alloc (by simp only [World.size_alloc]; omega) _
/-- The place in a new box. -/
theorem DsW.move (h : DsW bf bo bi B n cap s t ov i W) (hg : W.grownBy W' none) {b j : Nat} (hb : W.heap.size ≤ b) (hc : W'.cell? ⟨b, 0, none⟩ = some (.int .i64 (j : Int))) (hf : W'.frozen? ⟨b, 0, none⟩ = false) : DsW bf bo b B n cap s t ov j W' := by
  obtain ⟨l1, l2, l3⟩ := h.lts
  have h2 := h.grown hg (by simp)
  obtain ⟨n1, n2, n3, n4, n5, n6, n7⟩ := h2.ne
  exact ⟨h2.bx, h2.row, h2.lx, h2.lfr, h2.lst, hc, hf, ⟨n1, by omega, by omega, n4, n5, by have := h.ne; omega, n7⟩, fun k e => ⟨(h.sep k e).1, (h.sep k e).2.1, by have := (h.row.lt k e).2; omega, (h.sep k e).2.2.2⟩, fun k e => ⟨(h.sep2 k e).1, (h.sep2 k e).2.1, by have := (h.lst.lt k e).2; omega⟩, h2.coh⟩
/-- What a visit leaves alone. -/
structure DsK (bo B : Nat) (rv ov ov' : Value) (W W' : World) : Prop where
  below : Below B W W'
  oth : KeepsOthers W W'
  blk : ∀ k, k < W.heap.size → k ≠ bo → rv.ownBlock ≠ some k → ov.ownBlock ≠ some k → W'.heap[k]? = W.heap[k]?
  at_ : ov'.ownBlock = ov.ownBlock ∨ ∀ k, ov'.ownBlock = some k → W.heap.size ≤ k
theorem DsW.box (h : DsW bf bo bi B n cap s t ov i W) {x : Nat} (hx : x < n) {d : Int} {w3 : World} (hgr : ((W.setCell ⟨blk s, ofs s + x, none⟩ (.int .i64 d)).alloc (.cells #[.int .i64 (x : Int)] 3)).grownBy w3 ov.ownBlock) :
    w3.cell? ⟨bo, 0, none⟩ = some ov ∧ w3.frozen? ⟨bo, 0, none⟩ = false := by
  obtain ⟨l1, l2, l3⟩ := h.lts
  obtain ⟨ho, -⟩ := own_at h.row (by rw [h.coh.coh.len]; omega)
  obtain ⟨s1, s2, s3, s4⟩ := h.sep _ ho
  have gS := grownBy_setCell W ⟨blk s, ofs s + x, none⟩ (.int .i64 d)
  have gA := grownBy_alloc (W.setCell ⟨blk s, ofs s + x, none⟩ (.int .i64 d)) (.cells #[.int .i64 (x : Int)] 3)
  have hz1 : (W.setCell ⟨blk s, ofs s + x, none⟩ (.int .i64 d)).heap.size = W.heap.size := World.size_setCell _ _ _
  have hz2 : ((W.setCell ⟨blk s, ofs s + x, none⟩ (.int .i64 d)).alloc (.cells #[.int .i64 (x : Int)] 3)).heap.size = W.heap.size + 1 := by rw [World.size_alloc, World.size_setCell]
  have hlo : some bo ≠ ov.ownBlock := fun e => (h.sep2 _ e.symm).2.1 rfl
  exact ⟨hgr.cell (gA.cell (gS.cell h.lx (fun e => s2 (Option.some.inj e).symm)) (by simp)) hlo, frozen_kept hgr (by rw [hz2]; omega) hlo (frozen_kept gA (by rw [hz1]; exact l2) (by simp) (frozen_kept gS l2 (fun e => s2 (Option.some.inj e).symm) h.lfr))⟩
theorem DsW.lstSet (h : DsW bf bo bi B n cap s t ov i W) {x : Nat} (hx : x < n) (d : Int) : OwnI (W.setCell ⟨blk s, ofs s + x, none⟩ (.int .i64 d)) B 3 ov (t.2.map fun x : Nat => (x : Int)) := by
  obtain ⟨ho, -⟩ := own_at h.row (by rw [h.coh.coh.len]; omega)
  exact h.lst.setOther (p := ⟨blk s, ofs s + x, none⟩) (h.sep _ ho).2.2.2 _
/-- A new node is met. -/
theorem DsW.add (h : DsW bf bo bi B n cap s t ov i W) {x : Nat} (hx : x < n) (hneg : nth t.1 x < 0) {d : Int} (hd : 0 ≤ d) (hd2 : d ≤ t.2.length + 1) {w3 : World} {v' : Value}
    (hown : OwnI w3 B 3 v' ((t.2.map fun x : Nat => (x : Int)) ++ [(x : Int)])) (hgr : ((W.setCell ⟨blk s, ofs s + x, none⟩ (.int .i64 d)).alloc (.cells #[.int .i64 (x : Int)] 3)).grownBy w3 ov.ownBlock)
    (hat : v'.ownBlock = ov.ownBlock ∨ v'.ownBlock = some ((W.setCell ⟨blk s, ofs s + x, none⟩ (.int .i64 d)).alloc (.cells #[.int .i64 (x : Int)] 3)).heap.size) :
    DsW bf bo bi B n cap s (dvs d t x) v' i (w3.setCell ⟨bo, 0, none⟩ v') ∧ DsK bo B (.slice s n cap) ov v' W (w3.setCell ⟨bo, 0, none⟩ v') := by
  obtain ⟨l1, l2, l3⟩ := h.lts
  obtain ⟨n1, n2, n3, n4, n5, n6, n7⟩ := h.ne
  obtain ⟨ho, -⟩ := own_at h.row (by rw [h.coh.coh.len]; omega)
  obtain ⟨s1, s2, s3, s4⟩ := h.sep _ ho
  have gS := grownBy_setCell W ⟨blk s, ofs s + x, none⟩ (.int .i64 d)
  have gA := grownBy_alloc (W.setCell ⟨blk s, ofs s + x, none⟩ (.int .i64 d)) (.cells #[.int .i64 (x : Int)] 3)
  have gB := grownBy_setCell w3 ⟨bo, 0, none⟩ v'
  have hz2 : ((W.setCell ⟨blk s, ofs s + x, none⟩ (.int .i64 d)).alloc (.cells #[.int .i64 (x : Int)] 3)).heap.size = W.heap.size + 1 := by rw [World.size_alloc, World.size_setCell]
  have hz1 : (W.setCell ⟨blk s, ofs s + x, none⟩ (.int .i64 d)).heap.size = W.heap.size := World.size_setCell _ _ _
  have hz3 := hgr.size
  rw [hz2] at hz3 hat
  have e1' : (⟨blk s, ofs s + x, none⟩ : Addr).block = blk s := rfl
  have e2' : (⟨bo, 0, none⟩ : Addr).block = bo := rfl
  have hbs := h.row.lt _ ho
  have hdv : dvs d t x = (t.1.set x d, t.2 ++ [x]) := by unfold dvs; rw [if_pos hneg]
  have hob : ∀ k, v'.ownBlock = some k → (ov.ownBlock = some k ∨ k = W.heap.size + 1) := fun k e => by
    rcases hat with h1 | h1
    · exact .inl (h1 ▸ e)
    · exact .inr (Option.some.inj (e.symm.trans h1))
  have hkeep : ∀ k, k < W.heap.size → k ≠ bo → (Value.slice s n cap).ownBlock ≠ some k → ov.ownBlock ≠ some k → (w3.setCell ⟨bo, 0, none⟩ v').heap[k]? = W.heap[k]? := fun k hk hkb hks hko => by
    rw [gB.block k (by omega) (fun e => hkb (Option.some.inj e)), hgr.block k (by rw [hz2]; omega) (fun e => hko e.symm), gA.block k (by rw [hz1]; exact hk) (by simp), gS.block k hk (fun e => hks (by rw [ho]; exact e.symm))]
  have hbfk := hkeep bf l1 n1 (fun e => (h.sep _ e).1 rfl) (fun e => (h.sep2 _ e).1 rfl)
  have hbik := hkeep bi l3 (fun e => n3 e.symm) (fun e => (h.sep _ e).2.2.1 rfl) (fun e => (h.sep2 _ e).2.2 rfl)
  have hlo : some bo ≠ ov.ownBlock := fun e => (h.sep2 _ e.symm).2.1 rfl
  have c1 : w3.cell? ⟨bo, 0, none⟩ = some ov := hgr.cell (gA.cell (gS.cell h.lx (fun e => s2 (Option.some.inj e).symm)) (by simp)) hlo
  have f1 : w3.frozen? ⟨bo, 0, none⟩ = false := frozen_kept hgr (by rw [hz2]; omega) hlo (frozen_kept gA (by rw [hz1]; exact l2) (by simp) (frozen_kept gS l2 (fun e => s2 (Option.some.inj e).symm) h.lfr))
  refine ⟨⟨?_, ?_, World.cell?_setCell_same w3 _ _ c1, by rw [World.frozen?_setCell]; exact f1, ?_, ?_, ?_, ⟨n1, n2, n3, n4, n5, n6, by rw [World.size_setCell]; omega⟩, fun k e => ?_, fun k e => ?_, (h.coh.dvs hx hd hd2).1⟩, ?_, ?_, hkeep, ?_⟩
  · rw [World.cell?_of_block (a := ⟨bf, 0, none⟩) hbfk]; exact h.bx
  · rw [hdv]
    exact (((h.row.set x d).grown gA (by rw [ho]; simp)).grown hgr (.inr (by rw [ho]; exact fun e => s4 e.symm))).grown gB (.inr (by rw [ho]; exact fun e => s2 (Option.some.inj e)))
  · rw [hdv, List.map_append]
    exact hown.grown gB (.inr fun e => by
      rcases hob _ e with h1 | h1
      · exact (h.sep2 _ h1).2.1 rfl
      · omega)
  · rw [World.cell?_of_block (a := ⟨bi, 0, none⟩) hbik]; exact h.ix
  · rw [World.frozen?_of_block (a := ⟨bi, 0, none⟩) hbik]; exact h.ifr
  · refine ⟨(h.sep k e).1, (h.sep k e).2.1, (h.sep k e).2.2.1, fun e2 => ?_⟩
    rcases hob k e2 with h1 | h1
    · exact (h.sep k e).2.2.2 h1
    · have := h.row.lt k e; omega
  · rcases hob k e with h1 | h1
    · exact h.sep2 k h1
    · omega
  · exact ((((Below.refl B W).setCell (p := ⟨blk s, ofs s + x, none⟩) hbs.1 _).alloc (by rw [hz1]; omega) _).grown hgr (by rw [hz2]; omega) (fun k e => (h.lst.lt k e).1)).setCell (p := ⟨bo, 0, none⟩) n5 _
  · refine (((KeepsOthers.setCell W _ _).trans (KeepsOthers.alloc _ _)).trans (KeepsOthers.of_grownBy hgr fun j o' e ho' => ?_)).trans (KeepsOthers.setCell _ _ _)
    exact own_isCells ((h.lst.setOther (p := ⟨blk s, ofs s + x, none⟩) s4 (.int .i64 d)).alloc _) e ho'
  · rcases hat with h1 | h1
    · exact .inl h1
    · exact .inr fun k e => by rw [h1] at e; have := Option.some.inj e; omega
end
end Go.Proofs.Ytlijimdkadobmaa
