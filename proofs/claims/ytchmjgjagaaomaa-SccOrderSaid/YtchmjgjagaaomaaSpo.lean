/- Memory of split's last loop: the lists and the index of each node. -/
import Derived.Test.YtchmjgjagaaomaaGm
import Derived.Test.YtchmjgjagaaomaaGrv
namespace Go.Proofs.Ytchmjgjagaaomaa
open Go.RowKit Go.Dfl Go.Gra Go.Tj
/-- The parts under way: block bt holds the two slices. -/
structure LoW (W0 : World) (n cnt bt B1 : Nat) (sl so : Option Addr) (ol : List Int) (vs : List Value) (ll : List (List Int)) (W : World) : Prop where
  c0 : W.cell? ⟨bt, 0, none⟩ = some (.slice sl cnt cnt)
  c1 : W.cell? ⟨bt, 1, none⟩ = some (.slice so n n)
  o : OwnI W W0.heap.size 3 (.slice so n n) ol
  p : OwnN IIg W W0.heap.size 32 (.slice sl cnt cnt) vs ll
  lo : ol.length = n
  lp : ll.length = cnt
  bo : (Value.slice so n n).ownBlock = some (blk so)
  bp : (Value.slice sl cnt cnt).ownBlock = some (blk sl)
  ne : blk so ≠ blk sl ∧ (blk so ≠ bt ∧ blk so < B1) ∧ (blk sl ≠ bt ∧ blk sl < B1) ∧ bt < B1 ∧ B1 ≤ W.heap.size ∧ W0.heap.size ≤ bt
  rows : ∀ i, i < cnt → ∀ q, (nth vs i).ownBlock = some q → B1 ≤ q
  bel : Below W0.heap.size W0 W
section
variable {W0 : World} {n cnt bt B1 : Nat} {sl so : Option Addr} {ol : List Int} {vs : List Value} {ll : List (List Int)} {W W' : World}
theorem LoW.lv (h : LoW W0 n cnt bt B1 sl so ol vs ll W) : vs.length = cnt := by rw [h.p.len, h.lp]
theorem LoW.grown (h : LoW W0 n cnt bt B1 sl so ol vs ll W) {row : Option Nat} (hg : W.grownBy W' row) (hr : ∀ q, row = some q → B1 ≤ q ∧ ∀ i, i < cnt → (nth vs i).ownBlock ≠ some q) : LoW W0 n cnt bt B1 sl so ol vs ll W' := by
  obtain ⟨h3, ⟨h5, h5'⟩, ⟨h6, h6'⟩, h7, h8, h9⟩ := h.ne
  have hn : ∀ k, k < B1 → some k ≠ row := fun k hk e => by have := (hr k e.symm).1; omega
  refine ⟨hg.cell h.c0 (hn bt h7), hg.cell h.c1 (hn bt h7), h.o.grown hg (.inr (by rw [h.bo]; exact hn _ (by omega))), h.p.grown kIIg hg fun q e hf => ?_, h.lo, h.lp, h.bo, h.bp, ⟨h3, ⟨h5, h5'⟩, ⟨h6, h6'⟩, h7, Nat.le_trans h8 hg.size, h9⟩, h.rows, ?_⟩
  · rcases hf with hf | ⟨i, hi, hf⟩
    · rw [h.bp] at hf
      have := (hr q e).1
      have := Option.some.inj hf
      omega
    · exact (hr q e).2 i (by rw [← h.lv]; exact hi) hf
  · exact h.bel.grown hg h.bel.size fun q e => by have := (hr q e).1; omega
theorem LoW.below (h : LoW W0 n cnt bt B1 sl so ol vs ll W) (hb : Below W.heap.size W W') : LoW W0 n cnt bt B1 sl so ol vs ll W' := h.grown (grownBy_below hb) (by simp)
theorem LoW.setO (h : LoW W0 n cnt bt B1 sl so ol vs ll W) (x : Nat) (z : Int) : LoW W0 n cnt bt B1 sl so (ol.set x z) vs ll (W.setCell ⟨blk so, ofs so + x, none⟩ (.int .i64 z)) := by
  obtain ⟨h3, ⟨h5, h5'⟩, ⟨h6, h6'⟩, h7, h8, h9⟩ := h.ne
  have g := grownBy_setCell W ⟨blk so, ofs so + x, none⟩ (.int .i64 z)
  have hn : ∀ k, k ≠ blk so → some k ≠ some (blk so) := fun k hk e => hk (Option.some.inj e)
  refine ⟨g.cell h.c0 (hn bt (by omega)), g.cell h.c1 (hn bt (by omega)), h.o.set x z, h.p.grown kIIg g fun q e hf => ?_, by rw [List.length_set]; exact h.lo, h.lp, h.bo, h.bp, ⟨h3, ⟨h5, h5'⟩, ⟨h6, h6'⟩, h7, Nat.le_trans h8 g.size, h9⟩, h.rows, h.bel.setCell (p := ⟨blk so, ofs so + x, none⟩) (h.o.lt _ h.bo).1 _⟩
  obtain rfl := Option.some.inj e
  rcases hf with hf | ⟨i, hi, hf⟩
  · rw [h.bp] at hf
    exact h3 (Option.some.inj hf).symm
  · have := h.rows i (by rw [← h.lv]; exact hi) _ hf
    dsimp only at this
    omega
/-- 'p.lists[a] = append(p.lists[a], y)'. -/
theorem LoW.put (h : LoW W0 n cnt bt B1 sl so ol vs ll W) {a : Nat} (ha : a < cnt) {x : Value} {l : List Int} (hg : W.grownBy W' (nth vs a).ownBlock) (hx : IIg W' W0.heap.size x l) (hl : ∀ k, x.ownBlock = some k → (nth vs a).ownBlock = some k ∨ W.heap.size ≤ k) :
    LoW W0 n cnt bt B1 sl so ol (vs.set a x) (ll.set a l) (W'.setCell ⟨blk sl, ofs sl + a, none⟩ x) := by
  obtain ⟨h3, ⟨h5, h5'⟩, ⟨h6, h6'⟩, h7, h8, h9⟩ := h.ne
  have hv := h.lv
  have hn : ∀ k, k < B1 → some k ≠ (nth vs a).ownBlock := fun k hk e => by have := h.rows a ha k e.symm; omega
  have g := grownBy_setCell W' ⟨blk sl, ofs sl + a, none⟩ x
  have hs : ∀ k, k ≠ blk sl → some k ≠ some (blk sl) := fun k hk e => hk (Option.some.inj e)
  refine ⟨g.cell (hg.cell h.c0 (hn bt h7)) (hs bt (by omega)), g.cell (hg.cell h.c1 (hn bt h7)) (hs bt (by omega)), (h.o.grown hg (.inr (by rw [h.bo]; exact hn _ (by omega)))).setOther (p := ⟨blk sl, ofs sl + a, none⟩) (by rw [h.bo]; exact hs _ h3) _, h.p.put kIIg (by rw [h.lp]; exact ha) hg hx hl, h.lo, by rw [List.length_set]; exact h.lp, h.bo, h.bp, ⟨h3, ⟨h5, h5'⟩, ⟨h6, h6'⟩, h7, Nat.le_trans h8 (Nat.le_trans hg.size g.size), h9⟩, fun i hi q hq => ?_, (h.bel.grown hg h.bel.size fun q e => (by have := h.rows a ha q e; omega)).setCell (p := ⟨blk sl, ofs sl + a, none⟩) (h.p.out.lt _ h.bp).1 _⟩
  rw [nth_set] at hq
  split at hq
  · rcases hl q hq with k | k
    · exact h.rows a ha q k
    · omega
  · exact h.rows i hi q hq
theorem LoW.rdO (h : LoW W0 n cnt bt B1 sl so ol vs ll W) {x : Nat} (hx : x < n) :
    W.cell? ⟨blk so, ofs so + x, none⟩ = some (.int .i64 (nth ol x)) ∧ (∀ Y, (Instr.indexAt 32 (.slice so n n) (.int .i64 (x : Int))).run Try.prog Y = .ok (.pointer (some ⟨blk so, ofs so + x, none⟩)) Y) ∧ W.frozen? ⟨blk so, ofs so + x, none⟩ = false := own_int h.o h.lo hx
theorem LoW.rdP (h : LoW W0 n cnt bt B1 sl so ol vs ll W) {x : Nat} (hx : x < cnt) :
    W.cell? ⟨blk sl, ofs sl + x, none⟩ = some (nth vs x) ∧ (∀ Y, (Instr.indexAt 28 (.slice sl cnt cnt) (.int .i64 (x : Int))).run Try.prog Y = .ok (.pointer (some ⟨blk sl, ofs sl + x, none⟩)) Y) ∧ W.frozen? ⟨blk sl, ofs sl + x, none⟩ = false := by
  obtain ⟨a9, c9, he, hm9, hidx, hcell, -⟩ := h.p.out.lst.out1 sRowsG
  rw [h.lv] at he hm9 hidx hcell
  simp only [Value.slice.injEq] at he
  obtain ⟨rfl, -, rfl⟩ := he
  exact ⟨hcell x hx, fun Y => by have := hidx .i64 (x : Int) (by omega) (by omega) Y; rw [Int.toNat_natCast] at this; exact this, h.p.out.frozen (by rw [h.lv]; omega) _⟩
end
theorem compK_zero (l : List Int) (h : Nat) : compK l h 0 = [] := rfl
theorem compK_yes {l : List Int} {h v : Nat} (e : hdN l (v : Int) = h) : compK l h (v + 1) = compK l h v ++ [(v : Int)] := by
  unfold compK castL; rw [List.range_succ, List.filter_append, List.map_append]; simp [e]
theorem compK_no {l : List Int} {h v : Nat} (e : hdN l (v : Int) ≠ h) : compK l h (v + 1) = compK l h v := by
  unfold compK castL; rw [List.range_succ, List.filter_append]; simp [e]
theorem compK_le (l : List Int) (h v : Nat) : (compK l h v).length ≤ v := by
  unfold compK; rw [castL_len]; exact Nat.le_trans (List.length_filter_le _ _) (by simp)
theorem comps_nth {l : List Int} {L : List Nat} {v j : Nat} (hj : j < L.length) : nth (L.map fun h => compK l h v) j = compK l (nth L j) v := by
  rw [nth_eq _ _ (by rw [List.length_map]; exact hj), List.getElem_map, nth_eq _ _ hj]
theorem comps_step {l : List Int} {L : List Nat} (hnd : L.Nodup) {j v : Nat} (hj : j < L.length) (he : nth L j = hdN l (v : Int)) : (L.map fun h => compK l h v).set j (nth (L.map fun h => compK l h v) j ++ [(v : Int)]) = L.map fun h => compK l h (v + 1) := nth_ext (by simp) fun i hi => by
  rw [List.length_set, List.length_map] at hi
  rw [nth_set, List.length_map, comps_nth hj, comps_nth hi, comps_nth hi]
  by_cases e : j = i
  · subst e
    rw [if_pos ⟨rfl, hj⟩, compK_yes he.symm]
  · rw [if_neg (fun h9 : j = i ∧ _ => e h9.1), compK_no fun h9 => e ((List.getElem_inj hnd (h₀ := hj) (h₁ := hi)).1 (by rw [← nth_eq _ _ hj, ← nth_eq _ _ hi, he, h9]))]
/-- The makes and the variable of the last part. -/
def mksP (n cnt : Nat) : List Go.Dfl.N.Mk :=
  [Go.Dfl.N.mkS 1 140 139 32 cnt (.slice none 0 0) 1, Go.Dfl.N.mkS 4 143 142 3 n (.int .i64 0) 1, Go.Dfl.N.mkA 6 18 2 48 #[.slice none 0 0, .slice none 0 0]]
theorem raw_ownP {α : Type} {f : α → Value} {base : Nat} {w : World} {v : Value} {n : Nat} {e : TypeId} (x0 : α) (h : w.ownsRow base e 1 v n (madeCells (f x0).cells (n * 1)).toList) (hc : (f x0).cells = #[f x0]) : Go.Dfl.Own f w base e v (List.replicate n x0) := by
  rw [made_cells _ _ hc] at h
  unfold Go.Dfl.Own
  simpa using h
/-- After the makes, the cells of the box filled. -/
theorem LoW.start {W0 W2 : World} {n cnt : Nat} {bs : Nat → Nat} (h : Go.Dfl.N.MakesEnd (mksP n cnt) W0.heap.size W0 bs W2) :
    LoW W0 n cnt (bs 6) W2.heap.size (some ⟨bs 1, 0, none⟩) (some ⟨bs 4, 0, none⟩) (List.replicate n 0) (List.replicate cnt (.slice none 0 0)) (List.replicate cnt []) ((W2.setCell ⟨bs 6, 0, none⟩ (.slice (some ⟨bs 1, 0, none⟩) cnt cnt)).setCell ⟨bs 6, 1, none⟩ (.slice (some ⟨bs 4, 0, none⟩) n n)) := by
  obtain ⟨d1, d2, d3⟩ := h.is (Go.Dfl.N.mkS 1 140 139 32 cnt (.slice none 0 0) 1) (by simp [mksP])
  obtain ⟨b1, b2, b3'⟩ := h.is (Go.Dfl.N.mkS 4 143 142 3 n (.int .i64 0) 1) (by simp [mksP])
  obtain ⟨e1, e2, e3⟩ := h.is (Go.Dfl.N.mkA 6 18 2 48 #[.slice none 0 0, .slice none 0 0]) (by simp [mksP])
  have f3 := h.apart (Go.Dfl.N.mkS 4 143 142 3 n (.int .i64 0) 1) (by simp [mksP]) (Go.Dfl.N.mkS 1 140 139 32 cnt (.slice none 0 0) 1) (by simp [mksP]) (by simp [Go.Dfl.N.mkS])
  have f5 := h.apart (Go.Dfl.N.mkS 4 143 142 3 n (.int .i64 0) 1) (by simp [mksP]) (Go.Dfl.N.mkA 6 18 2 48 #[.slice none 0 0, .slice none 0 0]) (by simp [mksP]) (by simp [Go.Dfl.N.mkS, Go.Dfl.N.mkA])
  have f6 := h.apart (Go.Dfl.N.mkS 1 140 139 32 cnt (.slice none 0 0) 1) (by simp [mksP]) (Go.Dfl.N.mkA 6 18 2 48 #[.slice none 0 0, .slice none 0 0]) (by simp [mksP]) (by simp [Go.Dfl.N.mkS, Go.Dfl.N.mkA])
  have hg := h.grown
  clear h
  simp only [Go.Dfl.N.mkS, Go.Dfl.N.mkA] at b1 b2 b3' d1 d2 d3 e1 e2 e3 f3 f5 f6
  generalize bs 4 = so at *
  generalize bs 1 = sl at *
  generalize bs 6 = bt at *
  have hb : Below W0.heap.size W0 W2 := (Below.refl _ _).grown hg (Nat.le_refl _) (by simp)
  have w0 : W2.cell? ⟨bt, 0, none⟩ = some (.slice none 0 0) := by simp [World.cell?, e1]
  have w1 : W2.cell? ⟨bt, 1, none⟩ = some (.slice none 0 0) := by simp [World.cell?, e1]
  have o := (raw_ownP (f := Value.int .i64) 0 b1 rfl)
  have p := (raw_ownP (f := fun x : Value => x) (.slice none 0 0) d1 rfl)
  have n01 : (⟨bt, 0, none⟩ : Addr) ≠ ⟨bt, 1, none⟩ := by simp
  have q0 : ((W2.setCell ⟨bt, 0, none⟩ (.slice (some ⟨sl, 0, none⟩) cnt cnt)).setCell ⟨bt, 1, none⟩ (.slice (some ⟨so, 0, none⟩) n n)).cell? ⟨bt, 0, none⟩ = some (.slice (some ⟨sl, 0, none⟩) cnt cnt) := by
    rw [World.cell?_setCell_other _ _ _ _ n01.symm]; exact World.cell?_setCell_same _ _ _ w0
  have q1 : ((W2.setCell ⟨bt, 0, none⟩ (.slice (some ⟨sl, 0, none⟩) cnt cnt)).setCell ⟨bt, 1, none⟩ (.slice (some ⟨so, 0, none⟩) n n)).cell? ⟨bt, 1, none⟩ = some (.slice (some ⟨so, 0, none⟩) n n) :=
    World.cell?_setCell_same _ _ _ (by rw [World.cell?_setCell_other _ _ _ _ n01]; exact w1)
  have g3 := grownBy_trans (grownBy_setCell W2 ⟨bt, 0, none⟩ (.slice (some ⟨sl, 0, none⟩) cnt cnt)) (grownBy_setCell _ ⟨bt, 1, none⟩ (.slice (some ⟨so, 0, none⟩) n n))
  have b3 : Below W0.heap.size W0 ((W2.setCell ⟨bt, 0, none⟩ (.slice (some ⟨sl, 0, none⟩) cnt cnt)).setCell ⟨bt, 1, none⟩ (.slice (some ⟨so, 0, none⟩) n n)) := hb.grown g3 hb.size fun q e => by have := Option.some.inj e; dsimp only at this; omega
  have hsz := g3.size
  refine ⟨q0, q1, o.grown g3 (.inr fun e => f5 (Option.some.inj e)), OwnN.grown kIIg (OwnN.made p (Go.Dfl.Own.nil _ _ _ _)) g3 fun q e hf => ?_, by simp, by simp, rfl, rfl, ⟨f3, ⟨f5, b3'⟩, ⟨f6, d3⟩, e3, hsz, e2⟩, fun i hi q hq => ?_, b3⟩
  · have e4 : bt = q := Option.some.inj e
    rcases hf with hf | ⟨i, hi, hf⟩
    · have e5 : sl = q := Option.some.inj hf
      exact f6 (by rw [e4, e5])
    · rw [nth_eq _ _ hi, List.getElem_replicate] at hf
      cases hf
  · rw [nth_eq _ _ (by simpa using hi), List.getElem_replicate] at hq
    cases hq
end Go.Proofs.Ytchmjgjagaaomaa
