/- The memory of Path. -/
import Derived.Test.YtjapnkhgijhakaaGdi
import Derived.Test.YtjapnkhgijhakaaGpp
namespace Go.Proofs.Ytjapnkhgijhakaa
open Go.RowKit Go.Dfl Go.Gra Go.Shelf

/-- The state of Path: the distances (box bf), the path so far (value pv), the node (box bi). -/
structure PW (bf bi B n cap : Nat) (s : Option Addr) (far : List Int) (pv : Value) (pl : List Nat) (v : Nat) (W : World) : Prop where
  bx : W.cell? ⟨bf, 0, none⟩ = some (.slice s n cap)
  row : OwnI W B 3 (.slice s n cap) far
  lst : OwnI W B 3 pv (pl.map fun x : Nat => (x : Int))
  ix : W.cell? ⟨bi, 0, none⟩ = some (.int .i64 (v : Int))
  ifr : W.frozen? ⟨bi, 0, none⟩ = false
  ne : bf ≠ bi ∧ B ≤ bf ∧ B ≤ bi ∧ B ≤ W.heap.size
  sep : ∀ k, (Value.slice s n cap).ownBlock = some k → k ≠ bf ∧ k ≠ bi ∧ pv.ownBlock ≠ some k
  sep2 : ∀ k, pv.ownBlock = some k → k ≠ bf ∧ k ≠ bi
  len : far.length = n
section
variable {bf bi B n cap : Nat} {s : Option Addr} {far : List Int} {pv : Value} {pl : List Nat} {v : Nat} {W W' : World}
theorem PW.lts (h : PW bf bi B n cap s far pv pl v W) : bf < W.heap.size ∧ bi < W.heap.size :=
  ⟨World.block_lt_of_cell? W ⟨bf, 0, none⟩ h.bx, World.block_lt_of_cell? W ⟨bi, 0, none⟩ h.ix⟩
theorem PW.grown (h : PW bf bi B n cap s far pv pl v W) {row : Option Nat} (hg : W.grownBy W' row) (hr : ∀ k, row = some k → k ≠ bf ∧ k ≠ bi ∧ (Value.slice s n cap).ownBlock ≠ some k ∧ pv.ownBlock ≠ some k) : PW bf bi B n cap s far pv pl v W' := by
  obtain ⟨l1, l3⟩ := h.lts
  obtain ⟨n1, n4, n6, n7⟩ := h.ne
  refine ⟨hg.cell h.bx fun e => (hr _ e.symm).1 rfl, h.row.grown hg ?_, h.lst.grown hg ?_, hg.cell h.ix fun e => (hr _ e.symm).2.1 rfl, frozen_kept hg l3 (fun e => (hr _ e.symm).2.1 rfl) h.ifr, ⟨n1, n4, n6, Nat.le_trans n7 hg.size⟩, h.sep, h.sep2, h.len⟩
  · cases e : row with
    | none => cases (Value.slice s n cap).ownBlock <;> simp
    | some k => exact .inr (hr k e).2.2.1
  · cases e : row with
    | none => cases pv.ownBlock <;> simp
    | some k => exact .inr (hr k e).2.2.2
/-- The node is changed. -/
theorem PW.goto (h : PW bf bi B n cap s far pv pl v W) (u : Nat) : PW bf bi B n cap s far pv pl u (W.setCell ⟨bi, 0, none⟩ (.int .i64 (u : Int))) := by
  obtain ⟨l1, l3⟩ := h.lts
  obtain ⟨n1, n4, n6, n7⟩ := h.ne
  have gS := grownBy_setCell W ⟨bi, 0, none⟩ (.int .i64 (u : Int))
  have e1 : (⟨bi, 0, none⟩ : Addr).block = bi := rfl
  refine ⟨gS.cell h.bx fun e => n1 (Option.some.inj e), h.row.grown gS (.inr fun e => (h.sep _ e).2.1 rfl), h.lst.grown gS (.inr fun e => (h.sep2 _ e).2 rfl), World.cell?_setCell_same W _ _ h.ix, by rw [World.frozen?_setCell]; exact h.ifr, ⟨n1, n4, n6, by rw [World.size_setCell]; exact n7⟩, h.sep, h.sep2, h.len⟩
/-- The path is longer by a node; the node lies in a new box. -/
theorem PW.push (h : PW bf bi B n cap s far pv pl v W) {w3 : World} {v' : Value} (hown : OwnI w3 B 3 v' ((pl.map fun x : Nat => (x : Int)) ++ [(v : Int)])) (hgr : (W.alloc (.cells #[.int .i64 (v : Int)] 3)).grownBy w3 pv.ownBlock)
    (hat : v'.ownBlock = pv.ownBlock ∨ v'.ownBlock = some (W.alloc (.cells #[.int .i64 (v : Int)] 3)).heap.size) :
    PW bf w3.heap.size B n cap s far v' (pl ++ [v]) v (w3.alloc (.cells #[.int .i64 (v : Int)] 3)) ∧ KeepsOthers W (w3.alloc (.cells #[.int .i64 (v : Int)] 3)) ∧ Below B W (w3.alloc (.cells #[.int .i64 (v : Int)] 3)) := by
  obtain ⟨l1, l3⟩ := h.lts
  obtain ⟨n1, n4, n6, n7⟩ := h.ne
  have gA := grownBy_alloc W (.cells #[.int .i64 (v : Int)] 3)
  have gB := grownBy_alloc w3 (.cells #[.int .i64 (v : Int)] 3)
  have hz1 : (W.alloc (.cells #[.int .i64 (v : Int)] 3)).heap.size = W.heap.size + 1 := World.size_alloc _ _
  rw [hz1] at hat
  have hz3 := hgr.size
  rw [hz1] at hz3
  have hob : ∀ k, v'.ownBlock = some k → (pv.ownBlock = some k ∨ k = W.heap.size + 1) := fun k e => by
    rcases hat with h1 | h1
    · exact .inl (h1 ▸ e)
    · exact .inr (Option.some.inj (e.symm.trans h1))
  have hno := hown.lt
  refine ⟨⟨gB.cell (hgr.cell (gA.cell h.bx (by simp)) fun e => (h.sep2 _ e.symm).1 rfl) (by simp), ((h.row.grown gA (by cases (Value.slice s n cap).ownBlock <;> simp)).grown hgr ?_).alloc _, by rw [List.map_append]; exact hown.alloc _, cell_alloc1 _ _ _, frozen_alloc1 _ _ _, ⟨by omega, n4, by omega, by rw [World.size_alloc]; omega⟩, fun k e => ⟨(h.sep k e).1, ?_, fun e2 => ?_⟩, fun k e => ⟨?_, ?_⟩, h.len⟩, ?_, ?_⟩
  · cases e : (Value.slice s n cap).ownBlock with
    | none => exact .inl rfl
    | some k => exact .inr fun e2 => (h.sep k e).2.2 e2.symm
  · have := h.row.lt k e; omega
  · rcases hob k e2 with h1 | h1
    · exact (h.sep k e).2.2 h1
    · have := h.row.lt k e; omega
  · rcases hob k e with h1 | h1
    · exact (h.sep2 k h1).1
    · omega
  · have := hno k e; omega
  · exact ((KeepsOthers.alloc _ _).trans (KeepsOthers.of_grownBy hgr fun j o' e ho' => own_isCells (h.lst.alloc _) e ho')).trans (KeepsOthers.alloc _ _)
  · exact ((((Below.refl B W).alloc n7 _).grown hgr (by rw [hz1]; omega) (fun k e => (h.lst.lt k e).1)).alloc (by omega) _)
end
theorem PW.start {W1 W2 W3 : World} {n cap : Nat} {s : Option Addr} {far : List Int} (hb : Below W1.heap.size W1 W3) (h : OwnI W3 W2.heap.size 3 (.slice s n cap) far) (h12 : W1.heap.size ≤ W2.heap.size) (hl : far.length = n) (a : Nat) :
    PW W3.heap.size (W3.heap.size + 1 + 1) W1.heap.size n cap s far (.slice (some ⟨W3.heap.size + 1, 0, none⟩) 1 1) [a] a (((W3.alloc (.cells #[.slice s n cap] 33)).alloc (.cells #[.int .i64 (a : Int)] 3)).alloc (.cells #[.int .i64 (a : Int)] 3))
    ∧ Below W1.heap.size W1 (((W3.alloc (.cells #[.slice s n cap] 33)).alloc (.cells #[.int .i64 (a : Int)] 3)).alloc (.cells #[.int .i64 (a : Int)] 3)) := by
  have hz := hb.size
  have gB := grownBy_alloc (W3.alloc (.cells #[.slice s n cap] 33)) (.cells #[.int .i64 (a : Int)] 3)
  have gC := grownBy_alloc ((W3.alloc (.cells #[.slice s n cap] 33)).alloc (.cells #[.int .i64 (a : Int)] 3)) (.cells #[.int .i64 (a : Int)] 3)
  have c1 := cell_alloc1 W3 (.slice s n cap) 33
  have c3 := cell_alloc1 ((W3.alloc (.cells #[.slice s n cap] 33)).alloc (.cells #[.int .i64 (a : Int)] 3)) (.int .i64 (a : Int)) 3
  have f3 := frozen_alloc1 ((W3.alloc (.cells #[.slice s n cap] 33)).alloc (.cells #[.int .i64 (a : Int)] 3)) (.int .i64 (a : Int)) 3
  have ho1 := own_one' (Value.int .i64) (w := W3.alloc (.cells #[.slice s n cap] 33)) (base := W1.heap.size) (e := 3) (B := W3.heap.size + 1) (a : Int) (by rw [World.size_alloc]) (by rw [World.size_alloc]; omega)
  simp only [World.size_alloc] at c3 f3
  refine ⟨⟨gC.cell (gB.cell c1 (by simp)) (by simp), (((h.mono h12).alloc _).alloc _).alloc _, ho1.alloc _, c3, f3, ⟨by omega, hz, by omega, by simp only [World.size_alloc]; omega⟩, fun k e => ?_, fun k e => ?_, hl⟩, ?_⟩
  · have := h.lt k e
    refine ⟨by omega, by omega, fun e2 => ?_⟩
    have := Option.some.inj e2
    dsimp only at this
    omega
  · have := Option.some.inj e
    dsimp only at this
    omega
  · exact ((hb.alloc hz _).alloc (by simp only [World.size_alloc]; omega) _).alloc (by simp only [World.size_alloc]; omega) _
end Go.Proofs.Ytjapnkhgijhakaa
