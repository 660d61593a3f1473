/- The memory of build. -/
import Derived.Test.YtlijimdkadobmaaDnn
import Derived.Test.YtlijimdkadobmaaGh
import Derived.Test.YtlijimdkadobmaaGrv
namespace Go.Proofs.Ytlijimdkadobmaa
open Go.RowKit Go.Dfl Go.Gra Go.Dm
/-- The tree under way: block bt holds the three slices. -/
structure BdW (W0 : World) (n bt B1 : Nat) (su so sp : Option Addr) (up ol : List Int) (vs : List Value) (ll : List (List Int)) (W : World) : Prop where
  c0 : W.cell? ⟨bt, 0, none⟩ = some (.slice su n n)
  c1 : W.cell? ⟨bt, 1, none⟩ = some (.slice so n n)
  c2 : W.cell? ⟨bt, 2, none⟩ = some (.slice sp n n)
  u : OwnI W W0.heap.size 3 (.slice su n n) up
  o : OwnI W W0.heap.size 3 (.slice so n n) ol
  p : OwnN IIg W W0.heap.size 31 (.slice sp n n) vs ll
  lu : up.length = n
  lo : ol.length = n
  lp : ll.length = n
  bu : (Value.slice su n n).ownBlock = some (blk su)
  bo : (Value.slice so n n).ownBlock = some (blk so)
  bp : (Value.slice sp n n).ownBlock = some (blk sp)
  ne : blk su ≠ blk so ∧ blk su ≠ blk sp ∧ blk so ≠ blk sp ∧ (blk su ≠ bt ∧ blk su < B1) ∧ (blk so ≠ bt ∧ blk so < B1) ∧ (blk sp ≠ bt ∧ blk sp < B1) ∧ bt < B1 ∧ B1 ≤ W.heap.size ∧ W0.heap.size ≤ bt
  rows : ∀ i, i < n → ∀ q, (nth vs i).ownBlock = some q → B1 ≤ q
  bel : Below W0.heap.size W0 W
section
variable {W0 : World} {n bt B1 : Nat} {su so sp : Option Addr} {up ol : List Int} {vs : List Value} {ll : List (List Int)} {W W' : World}
theorem BdW.lv (h : BdW W0 n bt B1 su so sp up ol vs ll W) : vs.length = n := by rw [h.p.len, h.lp]
theorem BdW.grown (h : BdW W0 n bt B1 su so sp up ol vs ll W) {row : Option Nat} (hg : W.grownBy W' row) (hr : ∀ q, row = some q → B1 ≤ q ∧ ∀ i, i < n → (nth vs i).ownBlock ≠ some q) : BdW W0 n bt B1 su so sp up ol vs ll W' := by
  obtain ⟨h1, h2, h3, ⟨h4, h4'⟩, ⟨h5, h5'⟩, ⟨h6, h6'⟩, h7, h8, h9⟩ := h.ne
  have hn : ∀ k, k < B1 → some k ≠ row := fun k hk e => by have := (hr k e.symm).1; omega
  refine ⟨hg.cell h.c0 (hn bt h7), hg.cell h.c1 (hn bt h7), hg.cell h.c2 (hn bt h7), h.u.grown hg (.inr (by rw [h.bu]; exact hn _ (by omega))), h.o.grown hg (.inr (by rw [h.bo]; exact hn _ (by omega))), h.p.grown kIIg hg fun q e hf => ?_, h.lu, h.lo, h.lp, h.bu, h.bo, h.bp, ⟨h1, h2, h3, ⟨h4, h4'⟩, ⟨h5, h5'⟩, ⟨h6, h6'⟩, h7, Nat.le_trans h8 hg.size, h9⟩, h.rows, ?_⟩
  · rcases hf with hf | ⟨i, hi, hf⟩
    · rw [h.bp] at hf
      have := (hr q e).1
      have := Option.some.inj hf
      omega
    · exact (hr q e).2 i (by rw [← h.lv]; exact hi) hf
  · exact h.bel.grown hg h.bel.size fun q e => by have := (hr q e).1; omega
theorem BdW.below (h : BdW W0 n bt B1 su so sp up ol vs ll W) (hb : Below W.heap.size W W') : BdW W0 n bt B1 su so sp up ol vs ll W' := h.grown (grownBy_below hb) (by simp)
theorem BdW.setU (h : BdW W0 n bt B1 su so sp up ol vs ll W) (x : Nat) (z : Int) : BdW W0 n bt B1 su so sp (up.set x z) ol vs ll (W.setCell ⟨blk su, ofs su + x, none⟩ (.int .i64 z)) := by
  obtain ⟨h1, h2, h3, ⟨h4, h4'⟩, ⟨h5, h5'⟩, ⟨h6, h6'⟩, h7, h8, h9⟩ := h.ne
  have g := grownBy_setCell W ⟨blk su, ofs su + x, none⟩ (.int .i64 z)
  have hn : ∀ k, k ≠ blk su → some k ≠ some (blk su) := fun k hk e => hk (Option.some.inj e)
  refine ⟨g.cell h.c0 (hn bt (by omega)), g.cell h.c1 (hn bt (by omega)), g.cell h.c2 (hn bt (by omega)), h.u.set x z, h.o.setOther (p := ⟨blk su, ofs su + x, none⟩) (by rw [h.bo]; exact hn _ (Ne.symm h1)) _, h.p.grown kIIg g fun q e hf => ?_, by rw [List.length_set]; exact h.lu, h.lo, h.lp, h.bu, h.bo, h.bp, ⟨h1, h2, h3, ⟨h4, h4'⟩, ⟨h5, h5'⟩, ⟨h6, h6'⟩, h7, Nat.le_trans h8 g.size, h9⟩, h.rows, h.bel.setCell (p := ⟨blk su, ofs su + x, none⟩) (h.u.lt _ h.bu).1 _⟩
  obtain rfl := Option.some.inj e
  rcases hf with hf | ⟨i, hi, hf⟩
  · rw [h.bp] at hf
    exact h2 (Option.some.inj hf).symm
  · have := h.rows i (by rw [← h.lv]; exact hi) _ hf
    dsimp only at this
    omega
theorem BdW.setO (h : BdW W0 n bt B1 su so sp up ol vs ll W) (x : Nat) (z : Int) : BdW W0 n bt B1 su so sp up (ol.set x z) vs ll (W.setCell ⟨blk so, ofs so + x, none⟩ (.int .i64 z)) := by
  obtain ⟨h1, h2, h3, ⟨h4, h4'⟩, ⟨h5, h5'⟩, ⟨h6, h6'⟩, h7, h8, h9⟩ := h.ne
  have g := grownBy_setCell W ⟨blk so, ofs so + x, none⟩ (.int .i64 z)
  have hn : ∀ k, k ≠ blk so → some k ≠ some (blk so) := fun k hk e => hk (Option.some.inj e)
  refine ⟨g.cell h.c0 (hn bt (by omega)), g.cell h.c1 (hn bt (by omega)), g.cell h.c2 (hn bt (by omega)), h.u.setOther (p := ⟨blk so, ofs so + x, none⟩) (by rw [h.bu]; exact hn _ h1) _, h.o.set x z, h.p.grown kIIg g fun q e hf => ?_, h.lu, by rw [List.length_set]; exact h.lo, h.lp, h.bu, h.bo, h.bp, ⟨h1, h2, h3, ⟨h4, h4'⟩, ⟨h5, h5'⟩, ⟨h6, h6'⟩, h7, Nat.le_trans h8 g.size, h9⟩, h.rows, h.bel.setCell (p := ⟨blk so, ofs so + x, none⟩) (h.o.lt _ h.bo).1 _⟩
  obtain rfl := Option.some.inj e
  rcases hf with hf | ⟨i, hi, hf⟩
  · rw [h.bp] at hf
    exact h3 (Option.some.inj hf).symm
  · have := h.rows i (by rw [← h.lv]; exact hi) _ hf
    dsimp only at this
    omega
/-- 't.pred[a] = append(t.pred[a], y)'. -/
theorem BdW.put (h : BdW W0 n bt B1 su so sp up ol vs ll W) {a : Nat} (ha : a < n) {x : Value} {l : List Int} (hg : W.grownBy W' (nth vs a).ownBlock) (hx : IIg W' W0.heap.size x l) (hl : ∀ k, x.ownBlock = some k → (nth vs a).ownBlock = some k ∨ W.heap.size ≤ k) :
    BdW W0 n bt B1 su so sp up ol (vs.set a x) (ll.set a l) (W'.setCell ⟨blk sp, ofs sp + a, none⟩ x) := by
  obtain ⟨h1, h2, h3, ⟨h4, h4'⟩, ⟨h5, h5'⟩, ⟨h6, h6'⟩, h7, h8, h9⟩ := h.ne
  have hv := h.lv
  have hn : ∀ k, k < B1 → some k ≠ (nth vs a).ownBlock := fun k hk e => by have := h.rows a ha k e.symm; omega
  have hg2 : ∀ k, k < B1 → some k ≠ (nth vs a).ownBlock := hn
  have g := grownBy_setCell W' ⟨blk sp, ofs sp + a, none⟩ x
  have hs : ∀ k, k ≠ blk sp → some k ≠ some (blk sp) := fun k hk e => hk (Option.some.inj e)
  refine ⟨g.cell (hg.cell h.c0 (hn bt h7)) (hs bt (by omega)), g.cell (hg.cell h.c1 (hn bt h7)) (hs bt (by omega)), g.cell (hg.cell h.c2 (hn bt h7)) (hs bt (by omega)), (h.u.grown hg (.inr (by rw [h.bu]; exact hn _ (by omega)))).setOther (p := ⟨blk sp, ofs sp + a, none⟩) (by rw [h.bu]; exact hs _ h2) _, (h.o.grown hg (.inr (by rw [h.bo]; exact hn _ (by omega)))).setOther (p := ⟨blk sp, ofs sp + a, none⟩) (by rw [h.bo]; exact hs _ h3) _, h.p.put kIIg (by rw [h.lp]; exact ha) hg hx hl, h.lu, h.lo, by rw [List.length_set]; exact h.lp, h.bu, h.bo, h.bp, ⟨h1, h2, h3, ⟨h4, h4'⟩, ⟨h5, h5'⟩, ⟨h6, h6'⟩, h7, Nat.le_trans h8 (Nat.le_trans hg.size g.size), h9⟩, fun i hi q hq => ?_, (h.bel.grown hg h.bel.size fun q e => (by have := h.rows a ha q e; omega)).setCell (p := ⟨blk sp, ofs sp + a, none⟩) (h.p.out.lt _ h.bp).1 _⟩
  rw [nth_set] at hq
  split at hq
  · rcases hl q hq with k | k
    · exact h.rows a ha q k
    · omega
  · exact h.rows i hi q hq
theorem own_out {w : World} {base : Nat} {s : Option Addr} {n : Nat} {l : List Int} (h : OwnI w base 3 (.slice s n n) l) (hl : l.length = n) {x : Nat} (hx : x < n) :
    w.cell? ⟨blk s, ofs s + x, none⟩ = some (.int .i64 (nth l x)) ∧ (∀ Y, (Instr.indexAt 31 (.slice s n n) (.int .i64 (x : Int))).run Try.prog Y = .ok (.pointer (some ⟨blk s, ofs s + x, none⟩)) Y) ∧ w.frozen? ⟨blk s, ofs s + x, none⟩ = false := by
  obtain ⟨a9, c9, he, hm9, hidx, hcell, -⟩ := h.lst.out1 sIntG
  rw [hl] at he hm9 hidx hcell
  simp only [Value.slice.injEq] at he
  obtain ⟨rfl, -, rfl⟩ := he
  exact ⟨hcell x hx, fun Y => by have := hidx .i64 (x : Int) (by omega) (by omega) Y; rw [Int.toNat_natCast] at this; exact this, h.frozen (by omega) _⟩
theorem BdW.rdU (h : BdW W0 n bt B1 su so sp up ol vs ll W) {x : Nat} (hx : x < n) :
    W.cell? ⟨blk su, ofs su + x, none⟩ = some (.int .i64 (nth up x)) ∧ (∀ Y, (Instr.indexAt 31 (.slice su n n) (.int .i64 (x : Int))).run Try.prog Y = .ok (.pointer (some ⟨blk su, ofs su + x, none⟩)) Y) ∧ W.frozen? ⟨blk su, ofs su + x, none⟩ = false := own_out h.u h.lu hx
theorem BdW.rdO (h : BdW W0 n bt B1 su so sp up ol vs ll W) {x : Nat} (hx : x < n) :
    W.cell? ⟨blk so, ofs so + x, none⟩ = some (.int .i64 (nth ol x)) ∧ (∀ Y, (Instr.indexAt 31 (.slice so n n) (.int .i64 (x : Int))).run Try.prog Y = .ok (.pointer (some ⟨blk so, ofs so + x, none⟩)) Y) ∧ W.frozen? ⟨blk so, ofs so + x, none⟩ = false := own_out h.o h.lo hx
theorem BdW.rdP (h : BdW W0 n bt B1 su so sp up ol vs ll W) {x : Nat} (hx : x < n) :
    W.cell? ⟨blk sp, ofs sp + x, none⟩ = some (nth vs x) ∧ (∀ Y, (Instr.indexAt 38 (.slice sp n n) (.int .i64 (x : Int))).run Try.prog Y = .ok (.pointer (some ⟨blk sp, ofs sp + x, none⟩)) Y) ∧ W.frozen? ⟨blk sp, ofs sp + x, none⟩ = false := by
  obtain ⟨a9, c9, he, hm9, hidx, hcell, -⟩ := h.p.out.lst.out1 sRowsG
  rw [h.lv] at he hm9 hidx hcell
  simp only [Value.slice.injEq] at he
  obtain ⟨rfl, -, rfl⟩ := he
  exact ⟨hcell x hx, fun Y => by have := hidx .i64 (x : Int) (by omega) (by omega) Y; rw [Int.toNat_natCast] at this; exact this, h.p.out.frozen (by rw [h.lv]; omega) _⟩
end
/-- The makes and the variable of build. -/
def mksD (n : Nat) : List Go.Dfl.N.Mk :=
  [Go.Dfl.N.mkS 2 18 17 3 n (.int .i64 0) 1, Go.Dfl.N.mkS 5 21 20 3 n (.int .i64 0) 1, Go.Dfl.N.mkS 8 24 23 31 n (.slice none 0 0) 1, Go.Dfl.N.mkA 10 5 2 56 #[.slice none 0 0, .slice none 0 0, .slice none 0 0]]
theorem raw_own {α : Type} {f : α → Value} {base : Nat} {w : World} {v : Value} {n : Nat} {e : TypeId} (x0 : α) (h : w.ownsRow base e 1 v n (madeCells (f x0).cells (n * 1)).toList) (hc : (f x0).cells = #[f x0]) : Go.Dfl.Own f w base e v (List.replicate n x0) := by
  rw [made_cells _ _ hc] at h
  unfold Go.Dfl.Own
  simpa using h
/-- After the makes, the tree's cells filled. -/
theorem BdW.start {W0 W2 : World} {n : Nat} {bs : Nat → Nat} (h : Go.Dfl.N.MakesEnd (mksD n) W0.heap.size W0 bs W2) :
    BdW W0 n (bs 10) W2.heap.size (some ⟨bs 2, 0, none⟩) (some ⟨bs 5, 0, none⟩) (some ⟨bs 8, 0, none⟩) (List.replicate n 0) (List.replicate n 0) (List.replicate n (.slice none 0 0)) (List.replicate n []) (((W2.setCell ⟨bs 10, 0, none⟩ (.slice (some ⟨bs 2, 0, none⟩) n n)).setCell ⟨bs 10, 1, none⟩ (.slice (some ⟨bs 5, 0, none⟩) n n)).setCell ⟨bs 10, 2, none⟩ (.slice (some ⟨bs 8, 0, none⟩) n n)) := by
  obtain ⟨a1, a2, a3⟩ := h.is (Go.Dfl.N.mkS 2 18 17 3 n (.int .i64 0) 1) (by simp [mksD])
  obtain ⟨b1, b2, b3'⟩ := h.is (Go.Dfl.N.mkS 5 21 20 3 n (.int .i64 0) 1) (by simp [mksD])
  obtain ⟨d1, d2, d3⟩ := h.is (Go.Dfl.N.mkS 8 24 23 31 n (.slice none 0 0) 1) (by simp [mksD])
  obtain ⟨e1, e2, e3⟩ := h.is (Go.Dfl.N.mkA 10 5 2 56 #[.slice none 0 0, .slice none 0 0, .slice none 0 0]) (by simp [mksD])
  have f1 := h.apart (Go.Dfl.N.mkS 2 18 17 3 n (.int .i64 0) 1) (by simp [mksD]) (Go.Dfl.N.mkS 5 21 20 3 n (.int .i64 0) 1) (by simp [mksD]) (by simp [Go.Dfl.N.mkS])
  have f2 := h.apart (Go.Dfl.N.mkS 2 18 17 3 n (.int .i64 0) 1) (by simp [mksD]) (Go.Dfl.N.mkS 8 24 23 31 n (.slice none 0 0) 1) (by simp [mksD]) (by simp [Go.Dfl.N.mkS])
  have f3 := h.apart (Go.Dfl.N.mkS 5 21 20 3 n (.int .i64 0) 1) (by simp [mksD]) (Go.Dfl.N.mkS 8 24 23 31 n (.slice none 0 0) 1) (by simp [mksD]) (by simp [Go.Dfl.N.mkS])
  have f4 := h.apart (Go.Dfl.N.mkS 2 18 17 3 n (.int .i64 0) 1) (by simp [mksD]) (Go.Dfl.N.mkA 10 5 2 56 #[.slice none 0 0, .slice none 0 0, .slice none 0 0]) (by simp [mksD]) (by simp [Go.Dfl.N.mkS, Go.Dfl.N.mkA])
  have f5 := h.apart (Go.Dfl.N.mkS 5 21 20 3 n (.int .i64 0) 1) (by simp [mksD]) (Go.Dfl.N.mkA 10 5 2 56 #[.slice none 0 0, .slice none 0 0, .slice none 0 0]) (by simp [mksD]) (by simp [Go.Dfl.N.mkS, Go.Dfl.N.mkA])
  have f6 := h.apart (Go.Dfl.N.mkS 8 24 23 31 n (.slice none 0 0) 1) (by simp [mksD]) (Go.Dfl.N.mkA 10 5 2 56 #[.slice none 0 0, .slice none 0 0, .slice none 0 0]) (by simp [mksD]) (by simp [Go.Dfl.N.mkS, Go.Dfl.N.mkA])
  have hg := h.grown
  clear h
  simp only [Go.Dfl.N.mkS, Go.Dfl.N.mkA] at a1 a2 a3 b1 b2 b3' d1 d2 d3 e1 e2 e3 f1 f2 f3 f4 f5 f6
  generalize bs 2 = su at *
  generalize bs 5 = so at *
  generalize bs 8 = sp at *
  generalize bs 10 = bt at *
  have hb : Below W0.heap.size W0 W2 := (Below.refl _ _).grown hg (Nat.le_refl _) (by simp)
  have w0 : W2.cell? ⟨bt, 0, none⟩ = some (.slice none 0 0) := by simp [World.cell?, e1]
  have w1 : W2.cell? ⟨bt, 1, none⟩ = some (.slice none 0 0) := by simp [World.cell?, e1]
  have w2 : W2.cell? ⟨bt, 2, none⟩ = some (.slice none 0 0) := by simp [World.cell?, e1]
  have u := (raw_own (f := Value.int .i64) 0 a1 rfl)
  have o := (raw_own (f := Value.int .i64) 0 b1 rfl)
  have p := (raw_own (f := fun x : Value => x) (.slice none 0 0) d1 rfl)
  have n01 : (⟨bt, 0, none⟩ : Addr) ≠ ⟨bt, 1, none⟩ := by simp
  have n02 : (⟨bt, 0, none⟩ : Addr) ≠ ⟨bt, 2, none⟩ := by simp
  have n12 : (⟨bt, 1, none⟩ : Addr) ≠ ⟨bt, 2, none⟩ := by simp
  have q0 : (((W2.setCell ⟨bt, 0, none⟩ (.slice (some ⟨su, 0, none⟩) n n)).setCell ⟨bt, 1, none⟩ (.slice (some ⟨so, 0, none⟩) n n)).setCell ⟨bt, 2, none⟩ (.slice (some ⟨sp, 0, none⟩) n n)).cell? ⟨bt, 0, none⟩ = some (.slice (some ⟨su, 0, none⟩) n n) := by
    rw [World.cell?_setCell_other _ _ _ _ n02.symm, World.cell?_setCell_other _ _ _ _ n01.symm]; exact World.cell?_setCell_same _ _ _ w0
  have q1 : (((W2.setCell ⟨bt, 0, none⟩ (.slice (some ⟨su, 0, none⟩) n n)).setCell ⟨bt, 1, none⟩ (.slice (some ⟨so, 0, none⟩) n n)).setCell ⟨bt, 2, none⟩ (.slice (some ⟨sp, 0, none⟩) n n)).cell? ⟨bt, 1, none⟩ = some (.slice (some ⟨so, 0, none⟩) n n) := by
    rw [World.cell?_setCell_other _ _ _ _ n12.symm]; exact World.cell?_setCell_same _ _ _ (by rw [World.cell?_setCell_other _ _ _ _ n01]; exact w1)
  have q2 : (((W2.setCell ⟨bt, 0, none⟩ (.slice (some ⟨su, 0, none⟩) n n)).setCell ⟨bt, 1, none⟩ (.slice (some ⟨so, 0, none⟩) n n)).setCell ⟨bt, 2, none⟩ (.slice (some ⟨sp, 0, none⟩) n n)).cell? ⟨bt, 2, none⟩ = some (.slice (some ⟨sp, 0, none⟩) n n) :=
    World.cell?_setCell_same _ _ _ (by rw [World.cell?_setCell_other _ _ _ _ n12, World.cell?_setCell_other _ _ _ _ n02]; exact w2)
  have g3 := grownBy_trans (grownBy_trans (grownBy_setCell W2 ⟨bt, 0, none⟩ (.slice (some ⟨su, 0, none⟩) n n)) (grownBy_setCell _ ⟨bt, 1, none⟩ (.slice (some ⟨so, 0, none⟩) n n))) (grownBy_setCell _ ⟨bt, 2, none⟩ (.slice (some ⟨sp, 0, none⟩) n n))
  have b3 : Below W0.heap.size W0 (((W2.setCell ⟨bt, 0, none⟩ (.slice (some ⟨su, 0, none⟩) n n)).setCell ⟨bt, 1, none⟩ (.slice (some ⟨so, 0, none⟩) n n)).setCell ⟨bt, 2, none⟩ (.slice (some ⟨sp, 0, none⟩) n n)) := hb.grown g3 hb.size fun q e => by have := Option.some.inj e; dsimp only at this; omega
  have hsz := g3.size
  refine ⟨q0, q1, q2, u.grown g3 (.inr fun e => f4 (Option.some.inj e)), o.grown g3 (.inr fun e => f5 (Option.some.inj e)), OwnN.grown kIIg (OwnN.made p (Go.Dfl.Own.nil _ _ _ _)) g3 fun q e hf => ?_, by simp, by simp, by simp, rfl, rfl, rfl, ⟨f1, f2, f3, ⟨f4, a3⟩, ⟨f5, b3'⟩, ⟨f6, d3⟩, e3, hsz, e2⟩, fun i hi q hq => ?_, b3⟩
  · have e4 : bt = q := Option.some.inj e
    rcases hf with hf | ⟨i, hi, hf⟩
    · have e5 : sp = q := Option.some.inj hf
      exact f6 (by rw [e4, e5])
    · rw [nth_eq _ _ hi, List.getElem_replicate] at hf
      cases hf
  · rw [nth_eq _ _ (by simpa using hi), List.getElem_replicate] at hq
    cases hq
end Go.Proofs.Ytlijimdkadobmaa
