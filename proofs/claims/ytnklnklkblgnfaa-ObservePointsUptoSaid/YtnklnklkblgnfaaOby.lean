/- Contract of the reference's lessInt. -/
import Derived.Test.YtnklnklkblgnfaaObx
import Derived.Test.YtnklnklkblgnfaaOwd
namespace Go.Proofs.Ytnklnklkblgnfaa
open Go.RowKit Go.Dfl Go.Gra Go.Obs Go.Sort Go.Maps
theorem lt4_of3 {a1 a2 a3 a4 b1 b2 b3 b4 : Int} (h : ¬ (a1 = b1 ∧ a2 = b2 ∧ a3 = b3)) : decide (lt4 (a1, a2, a3, a4) (b1, b2, b3, b4)) = decide (lt3 (a1, a2, a3) (b1, b2, b3)) := by
  rw [decide_eq_decide]; simp only [lt4, lt3]; omega
theorem lt4_of4 {a1 a2 a3 a4 b4 : Int} : decide (lt4 (a1, a2, a3, a4) (a1, a2, a3, b4)) = decide (a4 < b4) := by
  rw [decide_eq_decide]; simp [lt4, lt3]
set_option maxHeartbeats 3200000 in
set_option maxRecDepth 100000 in
theorem lessInt_any (a b : Int × Int × Int × Int) (W : World) : Calls Try.prog 33 #[nv a, nv b] W fun e W' => e = .returned (.bool (decide (lt4 a b))) ∧ Below W.heap.size W W' := by
  obtain ⟨a1, a2, a3, a4⟩ := a
  obtain ⟨b1, b2, b3, b4⟩ := b
  have hg := ((Below.refl W.heap.size W).alloc (Nat.le_refl _) (.cells #[.int .i64 a1, .int .i64 a2, .int .i64 a3, .int .i64 a4] 32)).alloc (le_alloc _ (Nat.le_refl _)) (.cells #[.int .i64 b1, .int .i64 b2, .int .i64 b3, .int .i64 b4] 32)
  have c1 := cells_new (W := W) (cs := [.int .i64 a1, .int .i64 a2, .int .i64 a3, .int .i64 a4]) (t := 32) rfl
  have c2 := cells_new (W := W.alloc (.cells #[.int .i64 a1, .int .i64 a2, .int .i64 a3, .int .i64 a4] 32)) (cs := [.int .i64 b1, .int .i64 b2, .int .i64 b3, .int .i64 b4]) (t := 32) rfl
  have ga := grownBy_alloc (W.alloc (.cells #[.int .i64 a1, .int .i64 a2, .int .i64 a3, .int .i64 a4] 32)) (.cells #[.int .i64 b1, .int .i64 b2, .int .i64 b3, .int .i64 b4] 32)
  have hs := And.intro (ga.cell (c1 0 _ rfl) (by simp)) (And.intro (ga.cell (c1 1 _ rfl) (by simp)) (And.intro (ga.cell (c1 2 _ rfl) (by simp)) (And.intro (ga.cell (c1 3 _ rfl) (by simp)) (And.intro (c2 0 _ rfl) (And.intro (c2 1 _ rfl) (And.intro (c2 2 _ rfl) (c2 3 _ rfl)))))))
  rw [World.size_alloc] at hs
  have HS := Lib.hid (And.intro hg hs)
  clear hg c1 c2 ga hs
  go_enter Try.func33, Try.ntmps33
  go_upto_region 1 with fail
  refine gen_code (fun Z => Below W.heap.size W Z ∧ Z.cell? ⟨W.heap.size, 0, none⟩ = some (.int .i64 a1) ∧ Z.cell? ⟨W.heap.size, 1, none⟩ = some (.int .i64 a2) ∧ Z.cell? ⟨W.heap.size, 2, none⟩ = some (.int .i64 a3) ∧ Z.cell? ⟨W.heap.size, 3, none⟩ = some (.int .i64 a4) ∧ Z.cell? ⟨W.heap.size + 1, 0, none⟩ = some (.int .i64 b1) ∧ Z.cell? ⟨W.heap.size + 1, 1, none⟩ = some (.int .i64 b2) ∧ Z.cell? ⟨W.heap.size + 1, 2, none⟩ = some (.int .i64 b3) ∧ Z.cell? ⟨W.heap.size + 1, 3, none⟩ = some (.int .i64 b4)) HS.out ?_
  rintro Z ⟨hz, z⟩
  obtain ⟨ba, hba⟩ : ∃ k, k = W.heap.size := ⟨_, rfl⟩
  obtain ⟨bb, hbb⟩ : ∃ k, k = W.heap.size + 1 := ⟨_, rfl⟩
  rw [← hbb, ← hba] at z
  rw [← hbb, ← hba]
  clear hba hbb HS
  have HZ := Lib.hid hz
  clear hz
  have za1 := World.block_lt_of_cell? _ _ z.1
  have zb1 := World.block_lt_of_cell? _ _ z.2.2.2.2.1
  obtain ⟨z1, z2, z3, z4, y1, y2, y3, y4⟩ := z
  by_cases h1 : a1 = b1
  · obtain rfl := h1
    have w1 : (a1 != a1) = false := by simp
    by_cases h2 : a2 = b2
    · obtain rfl := h2
      have w2 : (a2 != a2) = false := by simp
      by_cases h3 : a3 = b3
      · obtain rfl := h3
        have w3 : (a3 != a3) = false := by simp
        have HD := Lib.hid (lt4_of4 (a1 := a1) (a2 := a2) (a3 := a3) (a4 := a4) (b4 := b4))
        go_wp2_with fail
        go_ret
        exact ⟨by rw [HD.out]; rfl, HZ.out⟩
      · have w3 : (a3 != b3) = true := by simpa using h3
        have HD := Lib.hid (show decide (lt4 (a1, a2, a3, a4) (a1, a2, b3, b4)) = decide (lt3 (a1, a2, a3) (a1, a2, b3)) from lt4_of3 (fun h9 => h3 h9.2.2))
        have hti := two_ints Z (a1, a2, a3) (a1, a2, b3) 3 3
        have HTI := Lib.hid hti
        have HBF := Lib.hid (before_any _ _ [a1, a2, a3] [a1, a2, b3] _ hti.1 hti.2 rfl)
        clear hti
        go_wp2_with fail
        refine HBF.out.mono ?_
        rintro e V3 ⟨rfl, q3⟩
        rw [bfB3 (a1, a2, a3) (a1, a2, b3), ← HD.out]
        have H3 := Lib.hid (bel_trans HZ.out (bel_trans (((Below.refl Z.heap.size Z).alloc (Nat.le_refl _) _).alloc (le_alloc _ (Nat.le_refl _)) _) (q3.below _)))
        clear q3 HBF HTI HD
        obtain ⟨r, hr⟩ : ∃ r, r = decide (lt4 (a1, a2, a3, a4) (a1, a2, b3, b4)) := ⟨_, rfl⟩
        rw [← hr]
        have HR := Lib.hid hr
        clear hr
        go_wp2_with fail
        go_ret
        exact ⟨by rw [← HR.out]; rfl, H3.out⟩
    · have w2 : (a2 != b2) = true := by simpa using h2
      have HD := Lib.hid (show decide (lt4 (a1, a2, a3, a4) (a1, b2, b3, b4)) = decide (lt3 (a1, a2, a3) (a1, b2, b3)) from lt4_of3 (fun h9 => h2 h9.2.1))
      have hti := two_ints Z (a1, a2, a3) (a1, b2, b3) 3 3
      have HTI := Lib.hid hti
      have HBF := Lib.hid (before_any _ _ [a1, a2, a3] [a1, b2, b3] _ hti.1 hti.2 rfl)
      clear hti
      go_wp2_with fail
      refine HBF.out.mono ?_
      rintro e V3 ⟨rfl, q3⟩
      rw [bfB3 (a1, a2, a3) (a1, b2, b3), ← HD.out]
      have H3 := Lib.hid (bel_trans HZ.out (bel_trans (((Below.refl Z.heap.size Z).alloc (Nat.le_refl _) _).alloc (le_alloc _ (Nat.le_refl _)) _) (q3.below _)))
      clear q3 HBF HTI HD
      obtain ⟨r, hr⟩ : ∃ r, r = decide (lt4 (a1, a2, a3, a4) (a1, b2, b3, b4)) := ⟨_, rfl⟩
      rw [← hr]
      have HR := Lib.hid hr
      clear hr
      go_wp2_with fail
      go_ret
      exact ⟨by rw [← HR.out]; rfl, H3.out⟩
  · have w1 : (a1 != b1) = true := by simpa using h1
    have HD := Lib.hid (show decide (lt4 (a1, a2, a3, a4) (b1, b2, b3, b4)) = decide (lt3 (a1, a2, a3) (b1, b2, b3)) from lt4_of3 (fun h9 => h1 h9.1))
    have hti := two_ints Z (a1, a2, a3) (b1, b2, b3) 3 3
    have HTI := Lib.hid hti
    have HBF := Lib.hid (before_any _ _ [a1, a2, a3] [b1, b2, b3] _ hti.1 hti.2 rfl)
    clear hti
    go_wp2_with fail
    refine HBF.out.mono ?_
    rintro e V3 ⟨rfl, q3⟩
    rw [bfB3 (a1, a2, a3) (b1, b2, b3), ← HD.out]
    have H3 := Lib.hid (bel_trans HZ.out (bel_trans (((Below.refl Z.heap.size Z).alloc (Nat.le_refl _) _).alloc (le_alloc _ (Nat.le_refl _)) _) (q3.below _)))
    clear q3 HBF HTI HD
    obtain ⟨r, hr⟩ : ∃ r, r = decide (lt4 (a1, a2, a3, a4) (b1, b2, b3, b4)) := ⟨_, rfl⟩
    rw [← hr]
    have HR := Lib.hid hr
    clear hr
    go_wp2_with fail
    go_ret
    exact ⟨by rw [← HR.out]; rfl, H3.out⟩
end Go.Proofs.Ytnklnklkblgnfaa
