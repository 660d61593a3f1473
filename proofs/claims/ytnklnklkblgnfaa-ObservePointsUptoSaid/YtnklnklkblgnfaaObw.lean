/- The closed example of the statements on executions. -/
import Derived.Test.YtnklnklkblgnfaaObt
import Derived.Test.YtnklnklkblgnfaaGa
namespace Go.Proofs.Ytnklnklkblgnfaa
open Go.RowKit Go.Dfl Go.Gra Go.Obs Go.Sort Go.Maps
theorem _root_.Go.Dfl.InS.mk {α : Type} [Inhabited α] {V : Vw α} {W : World} {b n : Nat} {l : List α} (hn : l.length = n) (hm : n ≤ maxLen) (hb : b < W.heap.size) (css : List (List Value))
    (h : ∀ i, i < l.length → V.ok W (nth css i) (nth l i) ∧ (nth css i).length = V.sz ∧ ∀ j, j < V.sz → W.cell? ⟨b, i * V.sz + j, none⟩ = some (nth (nth css i) j)) : InS V W (.slice (some ⟨b, 0, none⟩) n n) l := by
  subst hn
  refine ⟨fun i j => nth (nth css i) j, ⟨some ⟨b, 0, none⟩, l.length, rfl, Nat.le_refl _, hm, fun i hi => ⟨rfl, hb, fun j hj => ?_⟩⟩, fun i hi => ?_⟩
  · show W.cell? ⟨b, 0 + i * V.sz + j, none⟩ = _
    rw [Nat.zero_add]; exact (h i hi).2.2 j hj
  · obtain ⟨h1, h2, -⟩ := h i hi
    have e1 : (List.range V.sz).map (fun j => nth (nth css i) j) = nth css i := by
      refine List.ext_getElem (by simp [h2]) fun j hj hj2 => ?_
      rw [List.getElem_map, List.getElem_range]
      exact nth_eq (nth css i) j hj2
    rw [e1]; exact h1
def awO : Ob := ⟨2, 0, 0, -1, [⟨1, 5, 0⟩, ⟨3, 0, 3⟩]⟩
def awX : Ex := ⟨0, [awO]⟩
theorem awX_pts : allP awX = [(2, 1, 3)] := by decide
theorem awX_ints : allN awX = [(2, 0, 0, 5)] := by decide
theorem one_eq {α : Type} {lt : α → α → Prop} (h : STO lt) {L : List α} {x : α} (hp : L.Pairwise lt) (hm : ∀ y, y ∈ L ↔ y ∈ [x]) : L = [x] := h.unique hp (List.pairwise_singleton _ _) hm
/-- The example in memory. -/
theorem aw_mem (W : World) : ∃ Z, Z = (((W.alloc (.cells #[.int .i64 1, .int .i64 5, .int .i64 0, .int .i64 3, .int .i64 0, .int .i64 3] 56)).alloc (.cells #[.int .i64 2, .int .i64 0, .int .i64 0, .int .i64 (-1), .slice (some ⟨W.heap.size, 0, none⟩) 2 2] 50)).alloc (.cells #[.int .i64 0, .slice (some ⟨W.heap.size + 1, 0, none⟩) 1 1] 24)) ∧ Below W.heap.size W Z ∧
    ExIn Z (.slice (some ⟨W.heap.size + 1, 0, none⟩) 1 1) awX ∧ Z.cell? ⟨W.heap.size + 1 + 1, 0, none⟩ = some (.int .i64 0) ∧ Z.cell? ⟨W.heap.size + 1 + 1, 1, none⟩ = some (.slice (some ⟨W.heap.size + 1, 0, none⟩) 1 1) := by
  obtain ⟨A, hA⟩ : ∃ A, A = W.alloc (.cells #[.int .i64 1, .int .i64 5, .int .i64 0, .int .i64 3, .int .i64 0, .int .i64 3] 56) := ⟨_, rfl⟩
  obtain ⟨B, hB⟩ : ∃ B, B = A.alloc (.cells #[.int .i64 2, .int .i64 0, .int .i64 0, .int .i64 (-1), .slice (some ⟨W.heap.size, 0, none⟩) 2 2] 50) := ⟨_, rfl⟩
  obtain ⟨C, hC⟩ : ∃ C, C = B.alloc (.cells #[.int .i64 0, .slice (some ⟨W.heap.size + 1, 0, none⟩) 1 1] 24) := ⟨_, rfl⟩
  have sA : A.heap.size = W.heap.size + 1 := by rw [hA, World.size_alloc]
  have sB : B.heap.size = W.heap.size + 2 := by rw [hB, World.size_alloc, sA]
  have sC : C.heap.size = W.heap.size + 3 := by rw [hC, World.size_alloc, sB]
  have bA : Below W.heap.size W A := by rw [hA]; exact (Below.refl _ _).alloc (Nat.le_refl _) _
  have gB : A.grownBy B none := by rw [hB]; exact grownBy_alloc _ _
  have gC : B.grownBy C none := by rw [hC]; exact grownBy_alloc _ _
  have bC : Below W.heap.size W C := (bA.grown gB bA.size (by simp)).grown gC (by omega) (by simp)
  have cA := cells_new (W := W) (cs := [.int .i64 1, .int .i64 5, .int .i64 0, .int .i64 3, .int .i64 0, .int .i64 3]) (t := 56) rfl
  have cB := cells_new (W := A) (cs := [.int .i64 2, .int .i64 0, .int .i64 0, .int .i64 (-1), .slice (some ⟨W.heap.size, 0, none⟩) 2 2]) (t := 50) rfl
  have cC := cells_new (W := B) (cs := [.int .i64 0, .slice (some ⟨W.heap.size + 1, 0, none⟩) 1 1]) (t := 24) rfl
  have cA' : ∀ j y, [Value.int .i64 1, .int .i64 5, .int .i64 0, .int .i64 3, .int .i64 0, .int .i64 3][j]? = some y → C.cell? ⟨W.heap.size, j, none⟩ = some y := fun j y h => gC.cell (gB.cell (by rw [hA]; exact cA j y h) (by simp)) (by simp)
  have cB' : ∀ j y, [Value.int .i64 2, .int .i64 0, .int .i64 0, .int .i64 (-1), .slice (some ⟨W.heap.size, 0, none⟩) 2 2][j]? = some y → C.cell? ⟨W.heap.size + 1, j, none⟩ = some y := fun j y h => gC.cell (by have h9 := cB j y h; rw [sA] at h9; rw [hB]; exact h9) (by simp)
  have hV : InS vVal C (.slice (some ⟨W.heap.size, 0, none⟩) 2 2) awO.vs := InS.mk rfl (by decide) (by omega) [[.int .i64 1, .int .i64 5, .int .i64 0], [.int .i64 3, .int .i64 0, .int .i64 3]] (fun i hi => by
    have hi2 : i = 0 ∨ i = 1 := by simp [awO] at hi; omega
    rcases hi2 with rfl | rfl
    · refine ⟨⟨rfl, by decide, by decide, by decide⟩, rfl, fun j hj => ?_⟩
      have hj3 : j = 0 ∨ j = 1 ∨ j = 2 := by have : j < 3 := hj; omega
      rcases hj3 with rfl | rfl | rfl <;> exact cA' _ _ rfl
    · refine ⟨⟨rfl, by decide, by decide, by decide⟩, rfl, fun j hj => ?_⟩
      have hj3 : j = 0 ∨ j = 1 ∨ j = 2 := by have : j < 3 := hj; omega
      rcases hj3 with rfl | rfl | rfl <;> exact cA' _ _ rfl)
  have hO : InS vOb C (.slice (some ⟨W.heap.size + 1, 0, none⟩) 1 1) awX.o := InS.mk rfl (by decide) (by omega) [[.int .i64 2, .int .i64 0, .int .i64 0, .int .i64 (-1), .slice (some ⟨W.heap.size, 0, none⟩) 2 2]] (fun i hi => by
    obtain rfl : i = 0 := by simp [awX] at hi; omega
    refine ⟨⟨_, rfl, ⟨by decide, by decide, by decide, by decide⟩, hV⟩, rfl, fun j hj => ?_⟩
    have hj5 : j = 0 ∨ j = 1 ∨ j = 2 ∨ j = 3 ∨ j = 4 := by have : j < 5 := hj; omega
    rcases hj5 with rfl | rfl | rfl | rfl | rfl <;> exact cB' _ _ rfl)
  refine ⟨C, by rw [hC, hB, hA], bC, ⟨by decide, hO⟩, ?_, ?_⟩
  · have h9 := cC 0 _ rfl; rw [sB] at h9; rw [hC]; exact h9
  · have h9 := cC 1 _ rfl; rw [sB] at h9; rw [hC]; exact h9
set_option maxHeartbeats 3200000 in
set_option maxRecDepth 100000 in
theorem awake_any (W : World) : Calls Try.prog 9 #[] W (TruePost W) := by
  obtain ⟨Z, hZ, hbz, hex, x0, x1⟩ := aw_mem W
  have HZ := Lib.hid (And.intro hZ (And.intro hbz hex))
  have HX := Lib.hid (And.intro x0 x1)
  clear hZ hbz hex x0 x1
  go_enter Try.func9, Try.ntmps9
  go_upto_region 2 with fail
  rw [← HZ.out.1]
  obtain ⟨x0, x1⟩ := HX.out
  obtain ⟨ov, hov⟩ : ∃ ov, ov = Value.slice (some ⟨W.heap.size + 1, 0, none⟩) 1 1 := ⟨_, rfl⟩
  obtain ⟨bx, hbx⟩ : ∃ bx, bx = W.heap.size + 1 + 1 := ⟨_, rfl⟩
  rw [← hbx] at x0
  rw [← hbx, ← hov] at x1
  rw [← hbx, ← hov]
  have H1 : Hid (ExIn Z ov awX ∧ Below W.heap.size W Z) := Lib.hid (by rw [hov]; exact ⟨HZ.out.2.2, HZ.out.2.1⟩)
  clear hov hbx HX HZ
  refine wp_region_plan (.take 0 (.take 2 (.alt 1 (.alt 3 (.take 4 (.take 5 .done)) .stop) .stop))) (fun w' => w'.cell? ⟨bx, 0, none⟩ = some (.int .i64 0) ∧ w'.cell? ⟨bx, 1, none⟩ = some ov) (by kernel_rfl) (by kernel_rfl) (by kernel_rfl) (by kernel_rfl) ⟨x0, x1⟩ ?_
  have hdr : Below Z.heap.size Z Z.drew := (Below.refl _ _).drew
  have hy : Z.drew.cell? ⟨bx, 0, none⟩ = some (.int .i64 0) ∧ Z.drew.cell? ⟨bx, 1, none⟩ = some ov := ⟨x0, x1⟩
  have H2 := Lib.hid (And.intro (H1.out.1.below hdr) (bel_trans H1.out.2 hdr))
  clear hdr x0 x1 H1
  generalize Z.drew = V at *
  have HV := Lib.hid hy
  clear hy
  repeat (
    refine plan_take (v := ?_) rfl (Or.inl ⟨by rfl, ?_⟩) ?_
    rotate_left
    · (intro W hW; obtain ⟨q1, q2⟩ := hW; go_simp; try with_reducible rfl)
    simp only [Act.put, List.setIfInBounds_toArray, List.getElem_toArray, List.getElem_cons_zero, List.getElem_cons_succ, List.set_cons_succ, List.set_cons_zero])
  refine plan_alt rfl ?_ plan_stop
  have hp := points_any awX ov V H2.out.1 (by decide)
  have HP := Lib.hid hp
  clear hp
  go_wp2_with fail
  refine HP.out.mono ?_
  rintro e W2 ⟨pa, pc, L, rfl, ho, hpw, hm, b2⟩
  rw [awX_pts] at hm
  obtain rfl := one_eq sto3 hpw hm
  have H3 := Lib.hid (And.intro (H2.out.1.below b2) (And.intro (bel_trans H2.out.2 b2) (OwnE.sliced ho)))
  have hc : W2.cell? ⟨bx, 0, none⟩ = some (.int .i64 0) ∧ W2.cell? ⟨bx, 1, none⟩ = some ov := ⟨(b2.cell (World.block_lt_of_cell? _ _ HV.out.1)).trans HV.out.1, (b2.cell (World.block_lt_of_cell? _ _ HV.out.2)).trans HV.out.2⟩
  have HC := Lib.hid hc
  clear ho hpw hm b2 hc HP
  go_wp2_with fail
  refine tail_mk HC.out ?_
  refine plan_alt rfl ?_ plan_stop
  have hp := ints_any awX ov W2 H3.out.1 (by decide)
  have HP := Lib.hid hp
  clear hp
  go_wp2_with fail
  refine HP.out.mono ?_
  rintro e W3 ⟨na, nc, L, rfl, ho, hpw, hm, b2⟩
  rw [awX_ints] at hm
  obtain rfl := one_eq sto4 hpw hm
  have H4 := Lib.hid (And.intro (bel_trans H3.out.2.1 b2) (And.intro (Sliced.below H3.out.2.2 b2) (OwnE.sliced ho)))
  have hc : W3.cell? ⟨bx, 0, none⟩ = some (.int .i64 0) ∧ W3.cell? ⟨bx, 1, none⟩ = some ov := ⟨(b2.cell (World.block_lt_of_cell? _ _ HC.out.1)).trans HC.out.1, (b2.cell (World.block_lt_of_cell? _ _ HC.out.2)).trans HC.out.2⟩
  have HC3 := Lib.hid hc
  clear ho hpw hm b2 hc HP
  go_wp2_with fail
  refine tail_mk HC3.out ?_
  repeat (
    refine plan_take (v := ?_) rfl (Or.inl ⟨by rfl, ?_⟩) ?_
    rotate_left
    · (intro W hW; go_simp; try with_reducible rfl)
    simp only [Act.put, List.setIfInBounds_toArray, List.getElem_toArray, List.getElem_cons_zero, List.getElem_cons_succ, List.set_cons_succ, List.set_cons_zero])
  refine plan_done ?_
  obtain ⟨pa', pc', he1, -, pi, pcl, -⟩ := Sliced.outN H4.out.2.1 sPf (by decide)
  simp only [Value.slice.injEq] at he1
  obtain ⟨rfl, -, rfl⟩ := he1
  obtain ⟨na', nc', he2, -, ni, ncl, -⟩ := Sliced.outN H4.out.2.2 sNf (by decide)
  simp only [Value.slice.injEq] at he2
  obtain ⟨rfl, -, rfl⟩ := he2
  have p0 := pcl 0 (by decide) 0 (by decide)
  have p1 := pcl 0 (by decide) 1 (by decide)
  have p2 := pcl 0 (by decide) 2 (by decide)
  have n3 := ncl 0 (by decide) 3 (by decide)
  have i1 := pi .i64 0 (by decide) (by decide)
  have i2 := ni .i64 0 (by decide) (by decide)
  simp [nth, elP, elN] at p0 p1 p2 n3 i1 i2
  have HB := Lib.hid H4.out.1
  clear pcl ncl pi ni H2 H3 H4 HC HC3 HV
  go_wp2_with fail
  go_ret
  exact ⟨rfl, HB.out⟩
end Go.Proofs.Ytnklnklkblgnfaa
