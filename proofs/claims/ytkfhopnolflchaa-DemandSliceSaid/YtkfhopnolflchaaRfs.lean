/- Contracts of the reference's list and Solve. -/
import Derived.Test.YtkfhopnolflchaaTba
namespace Go.Proofs.Ytkfhopnolflchaa
open Go.RowKit Go.Dfl Go.And

set_option maxHeartbeats 1600000 in
theorem tlist_any {S : Syst} {cv : Value} {tb : Nat} {ha : Option Addr} {hc : Nat} {vs : List Value} {M : List (List Bool)} {b : Bool} {W : World} (h : TbM S cv tb ha hc vs M b W) (i : Nat) (hi : i < S.N) (hs : S.sites ≤ 1000000) :
    Calls Try.prog 38 #[.pointer (some ⟨tb, 0, none⟩), .int .i64 (i : Int)] W fun e W' => ∃ a n c, e = .returned (.slice a n c) ∧ OwnI W' W.heap.size 3 (.slice a n c) (((List.range S.sites).filter (tg M i)).map fun x : Nat => (x : Int)) ∧ Below W.heap.size W W' := by
  have H := Lib.hid h
  clear h
  go_enter Try.func38, Try.ntmps38
  go_wp2_with fail
  go_loopw [5, 6] (fun o x wr => ∃ k : Nat, k ≤ S.sites ∧ x = .int .i64 k ∧ Hid (OwnI wr W.heap.size 3 o (((List.range k).filter (tg M i)).map fun x : Nat => (x : Int)) ∧ Below W.heap.size W wr)) (fun _ x _ => S.sites - (intOf x).toNat)
  case atStart => exact ⟨0, by omega, rfl, Own.nil _ _ _ _, Below.refl _ _⟩
  case round =>
    obtain ⟨k, hk, rfl, hh⟩ := hrel
    have hT := H.out.keep (grownBy_below hh.out.2)
    have s1 := hT.s1
    by_cases hlt : k < S.sites
    · obtain ⟨a, c, e2, i1, d1, i2, h2⟩ := hT.rd hi
      obtain ⟨d2, f2, ft⟩ := h2 k hlt
      have d0 := hT.has
      clear hT e2 h2 ft f2
      have hsz := hh.out.2.size
      have hll : (((List.range k).filter (tg M i)).map fun x : Nat => (x : Int)).length < 17592186044416 := by
        rw [List.length_map]; exact Nat.lt_of_le_of_lt (List.length_filter_le _ _) (by simp; omega)
      have HL := Lib.hid hll
      clear hll
      generalize htg : tg M i k = t at *
      have HT := Lib.hid htg
      clear htg
      cases t
      · go_wp2_with fail
        go_roundw
        case rel => exact ⟨k + 1, by omega, by go_num, by
          rw [List.range_succ, List.filter_append]; simpa [HT.out] using hh.out.1, hh.out.2⟩
        case measure => simp [intOf]; omega
      · go_wp2_with (at_builtin; refine wp_append1 (f := Value.int .i64) sInt rfl _ rfl _ _ rfl W.heap.size _ (((List.range k).filter (tg M i)).map fun x : Nat => (x : Int)) rfl (hh.out.1.alloc _) (k : Int) ⟨wr.heap.size, 0, none⟩ rfl (cell_alloc1 _ _ _) rfl HL.out (by omega) (le_alloc _ hsz) ?_; intro v' w3 hown hgr hb3)
        go_roundw
        case rel => exact ⟨k + 1, by omega, by go_num, by
          rw [List.range_succ, List.filter_append]; simpa [HT.out] using hown, (hh.out.2.alloc hh.out.2.size _).trans hb3⟩
        case measure => simp [intOf]; omega
    · obtain rfl : k = S.sites := by omega
      clear hT
      have HD := Lib.hid hh.out
      clear hh
      obtain ⟨a9, c9, rfl⟩ := HD.out.1.shape rfl
      go_wp2_with fail
      go_ret
      exact ⟨_, _, _, rfl, HD.out.1, HD.out.2⟩

/-- The table while its rows are made. -/
structure TbK (S : Syst) (cv : Value) (tb k : Nat) (ha : Option Addr) (hc : Nat) (vs : List Value) (W : World) : Prop where
  s0 : W.cell? ⟨tb, 0, none⟩ = some (.int .i64 (S.vars : Int))
  s1 : W.cell? ⟨tb, 1, none⟩ = some (.int .i64 (S.sites : Int))
  s2 : W.cell? ⟨tb, 2, none⟩ = some (.int .i64 (S.fields : Int))
  s3 : W.cell? ⟨tb, 3, none⟩ = some cv
  has : W.cell? ⟨tb, 4, none⟩ = some (.slice ha k hc)
  more : W.cell? ⟨tb, 5, none⟩ = some (.bool true)
  frz : ∀ j, W.frozen? ⟨tb, j, none⟩ = false
  own : OwnN IBool W (tb + 1) 49 (.slice ha k hc) vs (List.replicate k (List.replicate S.sites false))
theorem nth_replicate {α : Type} [Inhabited α] (n i : Nat) (x : α) (h : i < n) : nth (List.replicate n x) i = x := by simp [nth, h]
theorem TbK.done {S : Syst} {cv : Value} {tb : Nat} {ha : Option Addr} {hc : Nat} {vs : List Value} {W : World} (h : TbK S cv tb S.N ha hc vs W) : TbM S cv tb ha hc vs (List.replicate S.N (List.replicate S.sites false)) true W :=
  ⟨h.s0, h.s1, h.s2, h.s3, h.has, h.more, h.frz, h.own, by simp, fun i hi => by rw [nth_replicate _ _ _ hi]; simp⟩
theorem TbK.new (S : Syst) (cv : Value) (W : World) (t : TypeId) : TbK S cv W.heap.size 0 none 0 [] (W.alloc (.cells #[.int .i64 (S.vars : Int), .int .i64 (S.sites : Int), .int .i64 (S.fields : Int), cv, .slice none 0 0, .bool true] t)) := by
  have hn := cells_new (W := W) (cs := [.int .i64 (S.vars : Int), .int .i64 (S.sites : Int), .int .i64 (S.fields : Int), cv, .slice none 0 0, .bool true]) (t := t) rfl
  refine ⟨hn 0 _ rfl, hn 1 _ rfl, hn 2 _ rfl, hn 3 _ rfl, hn 4 _ rfl, hn 5 _ rfl, fun j => ?_, OwnN.empty _ _ _⟩
  have hb := heap_alloc_new W (.cells #[.int .i64 (S.vars : Int), .int .i64 (S.sites : Int), .int .i64 (S.fields : Int), cv, .slice none 0 0, .bool true] t)
  simp only [World.frozen?, hb]
  first | rfl | simp
theorem TbK.push {S : Syst} {cv : Value} {tb k : Nat} {ha : Option Addr} {hc : Nat} {vs : List Value} {W W1 W2 : World} (h : TbK S cv tb k ha hc vs W) {u : Value} (g1 : W.grownBy W1 none) (hu : IBool W1 W.heap.size u (List.replicate S.sites false))
    {a2 : Option Addr} {c2 : Nat} (ho : Own (fun x : Value => x) W2 (tb + 1) 49 (.slice a2 (k + 1) c2) (vs ++ [u])) (g2 : W1.grownBy W2 (Value.slice ha k hc).ownBlock) (hl : (Value.slice a2 (k + 1) c2).ownBlock = (Value.slice ha k hc).ownBlock ∨ (Value.slice a2 (k + 1) c2).ownBlock = some W1.heap.size) :
    W2.frozen? ⟨tb, 4, none⟩ = false ∧ W2.cell? ⟨tb, 4, none⟩ = some (.slice ha k hc) ∧ TbK S cv tb (k + 1) a2 c2 (vs ++ [u]) (W2.setCell ⟨tb, 4, none⟩ (.slice a2 (k + 1) c2)) := by
  have hlt : tb < W.heap.size := World.block_lt_of_cell? W _ h.s0
  have hne : some tb ≠ (Value.slice ha k hc).ownBlock := fun e => by have := (h.own.out.lt _ e.symm).1; omega
  have hc2 : ∀ {j : Nat} {x : Value}, W.cell? ⟨tb, j, none⟩ = some x → W2.cell? ⟨tb, j, none⟩ = some x := fun hx => g2.cell (g1.cell hx (by simp)) hne
  have hf : ∀ j, W2.frozen? ⟨tb, j, none⟩ = false := fun j => by
    rw [World.frozen?_of_block (a := ⟨tb, j, none⟩) ((g2.block tb (Nat.lt_of_lt_of_le hlt g1.size) hne).trans (g1.block tb hlt (by simp)))]; exact h.frz j
  have oth : ∀ {j : Nat} {x : Value}, j ≠ 4 → W.cell? ⟨tb, j, none⟩ = some x → (W2.setCell ⟨tb, 4, none⟩ (.slice a2 (k + 1) c2)).cell? ⟨tb, j, none⟩ = some x := fun hj hx => by
    rw [World.cell?_setCell_other _ _ _ _ (by intro e; simp at e; try omega)]; exact hc2 hx
  refine ⟨hf 4, hc2 h.has, oth (by omega) h.s0, oth (by omega) h.s1, oth (by omega) h.s2, oth (by omega) h.s3, World.cell?_setCell_same W2 _ _ (hc2 h.has), oth (by omega) h.more, fun j => by rw [World.frozen?_setCell]; exact hf j, ?_⟩
  have hp := OwnN.push kBool (h.own.grown kBool g1 (by simp)) ho g2 hl (u := u) (l := List.replicate S.sites false) (hu.mono (by omega)) (fun m hm hf => by
    have h1 := (hu.lt m hm).1
    have h2 := (h.own.foot kBool m hf).2
    omega)
  rw [← List.replicate_succ'] at hp
  exact hp.grown kBool (grownBy_setCell _ _ _) fun m e hf => by
    simp at e
    have := (hp.foot kBool m hf).1
    omega

theorem sol_of_table {S : Syst} {M : List (List Bool)} (hS : S.Ok) (h1 : Sub (tp M) (Pts S)) (h2 : Go.And.Shut S (tp M)) (i : Nat) : IsSol S i (((List.range S.sites).filter (tg M i)).map fun x : Nat => (x : Int)) := by
  refine ⟨_, rfl, List.pairwise_lt_range.filter _, fun y => ?_⟩
  rw [List.mem_filter, List.mem_range]
  constructor
  · exact fun h => h1 i y h.2
  · exact fun h => ⟨(pts_bound hS h).2, h _ h2⟩

/-- What the loop over the table keeps. -/
structure TbL (S : Syst) (cv : Value) (tb : Nat) (ha : Option Addr) (hc : Nat) (vs : List Value) (M : List (List Bool)) (b : Bool) (W0 W : World) : Prop where
  mem : TbM S cv tb ha hc vs M b W
  sub : Sub (tp M) (Pts S)
  shut : b = false → Go.And.Shut S (tp M)
  bel : Below tb W0 W
def gas (S : Syst) (M : List (List Bool)) (b : Bool) : Nat := 2 * (S.N * S.sites - cntB M) + (if b then 1 else 0)


/-- A push onto one of two rows of rows. -/
theorem push2 {w w1 w2 : World} {base : Nat} {e : TypeId} {v v' u v2 : Value} {vs vs2 : List Value} {ll ll2 : List (List Int)} {l : List Int} (h : OwnN IInt w base e v vs ll) (h2 : OwnN IInt w base e v2 vs2 ll2) (dis : ∀ k, Foot v vs k → ¬ Foot v2 vs2 k) (g1 : w.grownBy w1 none) (hu : IInt w1 w.heap.size u l) (hbase : base ≤ w.heap.size)
    (ho : Own (fun x : Value => x) w2 base e v' (vs ++ [u])) (g2 : w1.grownBy w2 v.ownBlock) (hl : v'.ownBlock = v.ownBlock ∨ v'.ownBlock = some w1.heap.size) :
    OwnN IInt w2 base e v' (vs ++ [u]) (ll ++ [l]) ∧ OwnN IInt w2 base e v2 vs2 ll2 ∧ ∀ k, Foot v' (vs ++ [u]) k → ¬ Foot v2 vs2 k := by
  have hfr : ∀ k, u.ownBlock = some k → ¬ Foot v vs k ∧ ¬ Foot v2 vs2 k := fun k hk =>
    ⟨fun hf => by have := (hu.lt k hk).1; have := (h.foot kInt k hf).2; omega, fun hf => by have := (hu.lt k hk).1; have := (h2.foot kInt k hf).2; omega⟩
  refine ⟨OwnN.push kInt (h.grown kInt g1 (by simp)) ho g2 hl (hu.mono hbase) fun k hk => (hfr k hk).1, (h2.grown kInt g1 (by simp)).grown kInt g2 fun k hk => dis k (.inl hk), fun k hk => ?_⟩
  rcases hk with hk | ⟨i, hi, hk⟩
  · rcases hl with e1 | e1
    · rw [e1] at hk; exact dis k (.inl hk)
    · rw [e1] at hk
      simp at hk
      intro hf
      have := (h2.foot kInt k hf).2
      have := g1.size
      omega
  · rw [nth_append] at hk
    by_cases e1 : i < vs.length
    · rw [if_pos e1] at hk; exact dis k (.inr ⟨i, e1, hk⟩)
    · simp at hi
      obtain rfl : i = vs.length := by omega
      rw [if_neg e1, Nat.sub_self] at hk
      exact (hfr k hk).2
def rowsOf (S : Syst) (M : List (List Bool)) (at0 n : Nat) : List (List Int) := (List.range n).map fun i => ((List.range S.sites).filter (tg M (at0 + i))).map fun x : Nat => (x : Int)
theorem rowsOf_len (S : Syst) (M : List (List Bool)) (at0 n : Nat) : (rowsOf S M at0 n).length = n := by simp [rowsOf]
theorem rowsOf_succ (S : Syst) (M : List (List Bool)) (at0 n : Nat) : rowsOf S M at0 (n + 1) = rowsOf S M at0 n ++ [((List.range S.sites).filter (tg M (at0 + n))).map fun x : Nat => (x : Int)] := by simp [rowsOf, List.range_succ]
theorem rowsOf_nth (S : Syst) (M : List (List Bool)) (at0 n i : Nat) (h : i < n) : nth (rowsOf S M at0 n) i = ((List.range S.sites).filter (tg M (at0 + i))).map fun x : Nat => (x : Int) := by simp [rowsOf, nth, h]

/-- The assignment that is being gathered. -/
structure Gat (S : Syst) (M : List (List Bool)) (pb n1 n2 : Nat) (a1 : Option Addr) (c1 : Nat) (vs1 : List Value) (a2 : Option Addr) (c2 : Nat) (vs2 : List Value) (W : World) : Prop where
  p0 : W.cell? ⟨pb, 0, none⟩ = some (.slice a1 n1 c1)
  p1 : W.cell? ⟨pb, 1, none⟩ = some (.slice a2 n2 c2)
  frz : ∀ j, W.frozen? ⟨pb, j, none⟩ = false
  o1 : OwnN IInt W (pb + 1) 27 (.slice a1 n1 c1) vs1 (rowsOf S M 0 n1)
  o2 : OwnN IInt W (pb + 1) 27 (.slice a2 n2 c2) vs2 (rowsOf S M S.vars n2)
  dis : ∀ k, Foot (.slice a1 n1 c1) vs1 k → ¬ Foot (.slice a2 n2 c2) vs2 k
theorem Gat.new (S : Syst) (M : List (List Bool)) (W : World) (t : TypeId) : Gat S M W.heap.size 0 0 none 0 [] none 0 [] (W.alloc (.cells #[.slice none 0 0, .slice none 0 0] t)) := by
  have hn := cells_new (W := W) (cs := [.slice none 0 0, .slice none 0 0]) (t := t) rfl
  refine ⟨hn 0 _ rfl, hn 1 _ rfl, fun j => ?_, OwnN.empty _ _ _, OwnN.empty _ _ _, fun k hk => ?_⟩
  · have hb := heap_alloc_new W (.cells #[.slice none 0 0, .slice none 0 0] t)
    simp only [World.frozen?, hb]
    first | rfl | simp
  · rcases hk with hk | ⟨i, hi, -⟩
    · simp [Value.ownBlock] at hk
    · simp at hi
theorem Gat.keep {S : Syst} {M : List (List Bool)} {pb n1 n2 : Nat} {a1 a2 : Option Addr} {c1 c2 : Nat} {vs1 vs2 : List Value} {W W' : World} (h : Gat S M pb n1 n2 a1 c1 vs1 a2 c2 vs2 W) {row : Option Nat} (hg : W.grownBy W' row) (hr : ∀ k, row = some k → k < pb) : Gat S M pb n1 n2 a1 c1 vs1 a2 c2 vs2 W' := by
  have hlt : pb < W.heap.size := World.block_lt_of_cell? W _ h.p0
  have hne : some pb ≠ row := fun e => by have := hr pb e.symm; omega
  refine ⟨hg.cell h.p0 hne, hg.cell h.p1 hne, fun j => ?_, h.o1.grown kInt hg fun k e hf => ?_, h.o2.grown kInt hg fun k e hf => ?_, h.dis⟩
  · rw [World.frozen?_of_block (a := ⟨pb, j, none⟩) (hg.block pb hlt hne)]; exact h.frz j
  · have := (h.o1.foot kInt k hf).1; have := hr k e; omega
  · have := (h.o2.foot kInt k hf).1; have := hr k e; omega
/-- What is left after the append, ahead of the store. -/
theorem Gat.cells {S : Syst} {M : List (List Bool)} {pb n1 n2 : Nat} {a1 a2 : Option Addr} {c1 c2 : Nat} {vs1 vs2 : List Value} {W W1 W2 : World} (h : Gat S M pb n1 n2 a1 c1 vs1 a2 c2 vs2 W) (g1 : W.grownBy W1 none) {v : Value} (hv : v = .slice a1 n1 c1 ∨ v = .slice a2 n2 c2) (g2 : W1.grownBy W2 v.ownBlock) :
    W2.cell? ⟨pb, 0, none⟩ = some (.slice a1 n1 c1) ∧ W2.cell? ⟨pb, 1, none⟩ = some (.slice a2 n2 c2) ∧ ∀ j, W2.frozen? ⟨pb, j, none⟩ = false := by
  have hlt : pb < W.heap.size := World.block_lt_of_cell? W _ h.p0
  have hne : some pb ≠ v.ownBlock := fun e => by
    rcases hv with rfl | rfl
    · have := (h.o1.out.lt _ e.symm).1; omega
    · have := (h.o2.out.lt _ e.symm).1; omega
  refine ⟨g2.cell (g1.cell h.p0 (by simp)) hne, g2.cell (g1.cell h.p1 (by simp)) hne, fun j => ?_⟩
  rw [World.frozen?_of_block (a := ⟨pb, j, none⟩) ((g2.block pb (Nat.lt_of_lt_of_le hlt g1.size) hne).trans (g1.block pb hlt (by simp)))]; exact h.frz j
theorem Gat.push1 {S : Syst} {M : List (List Bool)} {pb n1 n2 : Nat} {a1 a2 : Option Addr} {c1 c2 : Nat} {vs1 vs2 : List Value} {W W1 W2 : World} (h : Gat S M pb n1 n2 a1 c1 vs1 a2 c2 vs2 W) {u : Value} (g1 : W.grownBy W1 none) (hu : IInt W1 W.heap.size u (((List.range S.sites).filter (tg M n1)).map fun x : Nat => (x : Int)))
    {a3 : Option Addr} {c3 : Nat} (ho : Own (fun x : Value => x) W2 (pb + 1) 27 (.slice a3 (n1 + 1) c3) (vs1 ++ [u])) (g2 : W1.grownBy W2 (Value.slice a1 n1 c1).ownBlock) (hl : (Value.slice a3 (n1 + 1) c3).ownBlock = (Value.slice a1 n1 c1).ownBlock ∨ (Value.slice a3 (n1 + 1) c3).ownBlock = some W1.heap.size) :
    Gat S M pb (n1 + 1) n2 a3 c3 (vs1 ++ [u]) a2 c2 vs2 (W2.setCell ⟨pb, 0, none⟩ (.slice a3 (n1 + 1) c3)) := by
  have hlt : pb < W.heap.size := World.block_lt_of_cell? W _ h.p0
  obtain ⟨q0, q1, qf⟩ := h.cells g1 (.inl rfl) g2
  obtain ⟨r1, r2, r3⟩ := push2 h.o1 h.o2 h.dis g1 hu (by omega) ho g2 hl
  have e1 : rowsOf S M 0 n1 ++ [((List.range S.sites).filter (tg M n1)).map fun x : Nat => (x : Int)] = rowsOf S M 0 (n1 + 1) := by rw [rowsOf_succ, Nat.zero_add]
  rw [e1] at r1
  have gs := grownBy_setCell W2 ⟨pb, 0, none⟩ (.slice a3 (n1 + 1) c3)
  exact ⟨World.cell?_setCell_same W2 _ _ q0, by rw [World.cell?_setCell_other _ _ _ _ (by intro e; simp at e)]; exact q1, fun j => by rw [World.frozen?_setCell]; exact qf j,
    r1.grown kInt gs fun k e hf => by simp at e; have := (r1.foot kInt k hf).1; omega, r2.grown kInt gs fun k e hf => by simp at e; have := (r2.foot kInt k hf).1; omega, r3⟩
theorem Gat.push2 {S : Syst} {M : List (List Bool)} {pb n1 n2 : Nat} {a1 a2 : Option Addr} {c1 c2 : Nat} {vs1 vs2 : List Value} {W W1 W2 : World} (h : Gat S M pb n1 n2 a1 c1 vs1 a2 c2 vs2 W) {u : Value} (g1 : W.grownBy W1 none) (hu : IInt W1 W.heap.size u (((List.range S.sites).filter (tg M (S.vars + n2))).map fun x : Nat => (x : Int)))
    {a3 : Option Addr} {c3 : Nat} (ho : Own (fun x : Value => x) W2 (pb + 1) 27 (.slice a3 (n2 + 1) c3) (vs2 ++ [u])) (g2 : W1.grownBy W2 (Value.slice a2 n2 c2).ownBlock) (hl : (Value.slice a3 (n2 + 1) c3).ownBlock = (Value.slice a2 n2 c2).ownBlock ∨ (Value.slice a3 (n2 + 1) c3).ownBlock = some W1.heap.size) :
    Gat S M pb n1 (n2 + 1) a1 c1 vs1 a3 c3 (vs2 ++ [u]) (W2.setCell ⟨pb, 1, none⟩ (.slice a3 (n2 + 1) c3)) := by
  have hlt : pb < W.heap.size := World.block_lt_of_cell? W _ h.p0
  obtain ⟨q0, q1, qf⟩ := h.cells g1 (.inr rfl) g2
  obtain ⟨r1, r2, r3⟩ := _root_.Go.Proofs.Ytkfhopnolflchaa.push2 h.o2 h.o1 (fun k h1 h2 => h.dis k h2 h1) g1 hu (by omega) ho g2 hl
  rw [← rowsOf_succ] at r1
  have gs := grownBy_setCell W2 ⟨pb, 1, none⟩ (.slice a3 (n2 + 1) c3)
  exact ⟨by rw [World.cell?_setCell_other _ _ _ _ (by intro e; simp at e)]; exact q0, World.cell?_setCell_same W2 _ _ q1, fun j => by rw [World.frozen?_setCell]; exact qf j,
    r2.grown kInt gs fun k e hf => by simp at e; have := (r2.foot kInt k hf).1; omega, r1.grown kInt gs fun k e hf => by simp at e; have := (r1.foot kInt k hf).1; omega, fun k h1 h2 => r3 k h2 h1⟩
end Go.Proofs.Ytkfhopnolflchaa
