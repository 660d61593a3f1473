/- The orders of facts: contracts of the comparing functions. -/
import Derived.Test.YtnklnklkblgnfaaCmp
import Derived.Test.YtnklnklkblgnfaaObv
namespace Go.Proofs.Ytnklnklkblgnfaa
open Go.RowKit Go.Dfl Go.Gra Go.Obs
theorem orI_cons (x : Int) (l : List Int) : orI (x :: l) = if x ≠ 0 then x else orI l := by
  unfold orI
  by_cases h : x = 0 <;> simp [h]
def cmp3 (a b : Int × Int × Int) : Int := orI [cmpI a.1 b.1, cmpI a.2.1 b.2.1, cmpI a.2.2 b.2.2]
def cmp4 (a b : Int × Int × Int × Int) : Int := orI [cmpI a.1 b.1, cmpI a.2.1 b.2.1, cmpI a.2.2.1 b.2.2.1, cmpI a.2.2.2 b.2.2.2]
theorem cmp3_neg (a b : Int × Int × Int) : cmp3 a b < 0 ↔ lt3 a b := by
  unfold cmp3
  rw [orI_cons, orI_cons, orI_cons]
  unfold cmpI lt3 orI
  simp only [List.find?_nil, Option.getD_none]
  repeat' split
  all_goals omega
theorem cmp4_neg (a b : Int × Int × Int × Int) : cmp4 a b < 0 ↔ lt4 a b := by
  unfold cmp4
  rw [orI_cons, orI_cons, orI_cons, orI_cons]
  unfold cmpI lt4 lt3 orI
  simp only [List.find?_nil, Option.getD_none]
  repeat' split
  all_goals omega
/-- A fact as a value. -/
abbrev pv (x : Int × Int × Int) : Value := .agg #[.int .i64 x.1, .int .i64 x.2.1, .int .i64 x.2.2]
abbrev nv (x : Int × Int × Int × Int) : Value := .agg #[.int .i64 x.1, .int .i64 x.2.1, .int .i64 x.2.2.1, .int .i64 x.2.2.2]
set_option maxHeartbeats 1600000 in
theorem cmp3_any (a b : Int × Int × Int) (W : World) : Calls Try.prog 18 #[pv a, pv b] W fun e W' => e = .returned (.int .i64 (cmp3 a b)) ∧ Grw W W' := by
  obtain ⟨a1, a2, a3⟩ := a
  obtain ⟨b1, b2, b3⟩ := b
  have hg := ((Grw.refl W).alloc (.cells #[.int .i64 a1, .int .i64 a2, .int .i64 a3] 53)).alloc (.cells #[.int .i64 b1, .int .i64 b2, .int .i64 b3] 53)
  have c1 := cells_new (W := W) (cs := [.int .i64 a1, .int .i64 a2, .int .i64 a3]) (t := 53) rfl
  have c2 := cells_new (W := W.alloc (.cells #[.int .i64 a1, .int .i64 a2, .int .i64 a3] 53)) (cs := [.int .i64 b1, .int .i64 b2, .int .i64 b3]) (t := 53) rfl
  have ga := grownBy_alloc (W.alloc (.cells #[.int .i64 a1, .int .i64 a2, .int .i64 a3] 53)) (.cells #[.int .i64 b1, .int .i64 b2, .int .i64 b3] 53)
  have hs := And.intro (ga.cell (c1 0 _ rfl) (by simp)) (And.intro (ga.cell (c1 1 _ rfl) (by simp)) (And.intro (ga.cell (c1 2 _ rfl) (by simp)) (And.intro (c2 0 _ rfl) (And.intro (c2 1 _ rfl) (c2 2 _ rfl)))))
  rw [World.size_alloc] at hs
  have HS := Lib.hid (And.intro hg hs)
  clear hg c1 c2 ga hs
  go_enter Try.func18, Try.ntmps18
  go_wp2_with fail
  refine gen_code (fun Z => Grw W Z ∧ Z.cell? ⟨W.heap.size, 0, none⟩ = some (.int .i64 a1) ∧ Z.cell? ⟨W.heap.size, 1, none⟩ = some (.int .i64 a2) ∧ Z.cell? ⟨W.heap.size, 2, none⟩ = some (.int .i64 a3) ∧ Z.cell? ⟨W.heap.size + 1, 0, none⟩ = some (.int .i64 b1) ∧ Z.cell? ⟨W.heap.size + 1, 1, none⟩ = some (.int .i64 b2) ∧ Z.cell? ⟨W.heap.size + 1, 2, none⟩ = some (.int .i64 b3)) HS.out ?_
  rintro Z ⟨hz, z⟩
  obtain ⟨ba, hba⟩ : ∃ k, k = W.heap.size := ⟨_, rfl⟩
  obtain ⟨bb, hbb⟩ : ∃ k, k = W.heap.size + 1 := ⟨_, rfl⟩
  rw [← hbb, ← hba] at z
  rw [← hbb, ← hba]
  clear hba hbb HS
  refine wp_region_mix [0, 1, 2, 3, 5, 6, 7, 8, 10, 11, 12, 13] [4, 9, 14, 15, 16, 17] (fun w' => w'.cell? ⟨ba, 0, none⟩ = some (.int .i64 a1) ∧ w'.cell? ⟨ba, 1, none⟩ = some (.int .i64 a2) ∧ w'.cell? ⟨ba, 2, none⟩ = some (.int .i64 a3) ∧ w'.cell? ⟨bb, 0, none⟩ = some (.int .i64 b1) ∧ w'.cell? ⟨bb, 1, none⟩ = some (.int .i64 b2) ∧ w'.cell? ⟨bb, 2, none⟩ = some (.int .i64 b3)) (by kernel_rfl) (by kernel_rfl) (by kernel_rfl) z ?_
  have hz' := hz.drew
  have hs : Z.drew.cell? ⟨ba, 0, none⟩ = some (.int .i64 a1) ∧ Z.drew.cell? ⟨ba, 1, none⟩ = some (.int .i64 a2) ∧ Z.drew.cell? ⟨ba, 2, none⟩ = some (.int .i64 a3) ∧ Z.drew.cell? ⟨bb, 0, none⟩ = some (.int .i64 b1) ∧ Z.drew.cell? ⟨bb, 1, none⟩ = some (.int .i64 b2) ∧ Z.drew.cell? ⟨bb, 2, none⟩ = some (.int .i64 b3) := z
  generalize Z.drew = V at *
  have HV := Lib.hid (And.intro hz' hs)
  clear hz hz' hs z
  repeat (
    refine wpHeads_cons (v := ?_) rfl (Or.inl ⟨by rfl, ?_⟩) ?_
    rotate_left
    · (intro W hW; obtain ⟨q1, q2, q3, q4, q5, q6⟩ := hW; go_simp; try with_reducible rfl)
    simp only [Act.put, List.setIfInBounds_toArray])
  refine wpHeads_nil ?_
  refine wpTails_cons rfl ?_
  go_wp2_with (go_at_call 20; refine (cmpI_any _ _ _).mono ?_; rintro e w' ⟨rfl, hw⟩; rw [hw]; clear hw w')
  refine tail_mk HV.out.2 ?_
  refine wpTails_cons rfl ?_
  go_wp2_with (go_at_call 20; refine (cmpI_any _ _ _).mono ?_; rintro e w' ⟨rfl, hw⟩; rw [hw]; clear hw w')
  refine tail_mk HV.out.2 ?_
  refine wpTails_cons rfl ?_
  go_wp2_with (go_at_call 20; refine (cmpI_any _ _ _).mono ?_; rintro e w' ⟨rfl, hw⟩; rw [hw]; clear hw w')
  refine tail_mk HV.out.2 ?_
  refine wpTails_cons rfl ?_
  have hoc : cmp3 (a1, a2, a3) (b1, b2, b3) = orI [cmpI a1 b1, cmpI a2 b2, cmpI a3 b3] := rfl
  obtain ⟨r1, hr1⟩ : ∃ r, r = cmpI a1 b1 := ⟨_, rfl⟩
  obtain ⟨r2, hr2⟩ : ∃ r, r = cmpI a2 b2 := ⟨_, rfl⟩
  obtain ⟨r3, hr3⟩ : ∃ r, r = cmpI a3 b3 := ⟨_, rfl⟩
  rw [← hr1, ← hr2, ← hr3] at hoc ⊢
  have HO := Lib.hid hoc
  clear hr1 hr2 hr3 hoc
  go_wp2_with fail
  have gA := grownBy_alloc V (.cells #[.int .i64 r1, .int .i64 r2, .int .i64 r3] 3)
  have s2 := And.intro (gA.cell HV.out.2.1 (by simp)) (And.intro (gA.cell HV.out.2.2.1 (by simp)) (And.intro (gA.cell HV.out.2.2.2.1 (by simp)) (And.intro (gA.cell HV.out.2.2.2.2.1 (by simp)) (And.intro (gA.cell HV.out.2.2.2.2.2.1 (by simp)) (gA.cell HV.out.2.2.2.2.2.2 (by simp))))))
  have H2 := Lib.hid s2
  have hI : Ints (V.alloc (.cells #[.int .i64 r1, .int .i64 r2, .int .i64 r3] 3)) (.slice (some ⟨V.heap.size, 0, none⟩) 3 3) [r1, r2, r3] := (show OwnI _ V.heap.size 3 (.slice (some ⟨V.heap.size, 0, none⟩) 3 3) [r1, r2, r3] from World.ownsRow_lit (size := 1) V #[.int .i64 r1, .int .i64 r2, .int .i64 r3] 3 (Nat.le_refl _) (by unfold maxLen; omega) rfl).lst
  have HI := Lib.hid hI
  clear gA s2 hI
  refine tail_mk H2.out ?_
  refine wpTails_cons rfl ?_
  go_wp2_with fail
  refine (cmpOr_any _ [r1, r2, r3] _ HI.out).mono ?_
  rintro e W9 ⟨rfl, rfl⟩
  go_wp2_with fail
  refine tail_mk H2.out ?_
  refine wpTails_one rfl ?_
  go_wp2_with fail
  refine thenQ_mk ?_
  go_wp2_with fail
  go_ret
  exact ⟨ret_int HO.out.symm, HV.out.1.alloc _⟩
set_option maxHeartbeats 1600000 in
theorem cmp4_any (a b : Int × Int × Int × Int) (W : World) : Calls Try.prog 23 #[nv a, nv b] W fun e W' => e = .returned (.int .i64 (cmp4 a b)) ∧ Grw W W' := by
  obtain ⟨a1, a2, a3, a4⟩ := a
  obtain ⟨b1, b2, b3, b4⟩ := b
  have hg := ((Grw.refl W).alloc (.cells #[.int .i64 a1, .int .i64 a2, .int .i64 a3, .int .i64 a4] 32)).alloc (.cells #[.int .i64 b1, .int .i64 b2, .int .i64 b3, .int .i64 b4] 32)
  have c1 := cells_new (W := W) (cs := [.int .i64 a1, .int .i64 a2, .int .i64 a3, .int .i64 a4]) (t := 32) rfl
  have c2 := cells_new (W := W.alloc (.cells #[.int .i64 a1, .int .i64 a2, .int .i64 a3, .int .i64 a4] 32)) (cs := [.int .i64 b1, .int .i64 b2, .int .i64 b3, .int .i64 b4]) (t := 32) rfl
  have ga := grownBy_alloc (W.alloc (.cells #[.int .i64 a1, .int .i64 a2, .int .i64 a3, .int .i64 a4] 32)) (.cells #[.int .i64 b1, .int .i64 b2, .int .i64 b3, .int .i64 b4] 32)
  have hs := And.intro (ga.cell (c1 0 _ rfl) (by simp)) (And.intro (ga.cell (c1 1 _ rfl) (by simp)) (And.intro (ga.cell (c1 2 _ rfl) (by simp)) (And.intro (ga.cell (c1 3 _ rfl) (by simp)) (And.intro (c2 0 _ rfl) (And.intro (c2 1 _ rfl) (And.intro (c2 2 _ rfl) (c2 3 _ rfl)))))))
  rw [World.size_alloc] at hs
  have HS := Lib.hid (And.intro hg hs)
  clear hg c1 c2 ga hs
  go_enter Try.func23, Try.ntmps23
  go_wp2_with fail
  refine gen_code (fun Z => Grw W Z ∧ Z.cell? ⟨W.heap.size, 0, none⟩ = some (.int .i64 a1) ∧ Z.cell? ⟨W.heap.size, 1, none⟩ = some (.int .i64 a2) ∧ Z.cell? ⟨W.heap.size, 2, none⟩ = some (.int .i64 a3) ∧ Z.cell? ⟨W.heap.size, 3, none⟩ = some (.int .i64 a4) ∧ Z.cell? ⟨W.heap.size + 1, 0, none⟩ = some (.int .i64 b1) ∧ Z.cell? ⟨W.heap.size + 1, 1, none⟩ = some (.int .i64 b2) ∧ Z.cell? ⟨W.heap.size + 1, 2, none⟩ = some (.int .i64 b3) ∧ Z.cell? ⟨W.heap.size + 1, 3, none⟩ = some (.int .i64 b4)) HS.out ?_
  rintro Z ⟨hz, z⟩
  obtain ⟨ba, hba⟩ : ∃ k, k = W.heap.size := ⟨_, rfl⟩
  obtain ⟨bb, hbb⟩ : ∃ k, k = W.heap.size + 1 := ⟨_, rfl⟩
  rw [← hbb, ← hba] at z
  rw [← hbb, ← hba]
  clear hba hbb HS
  refine wp_region_mix [0, 1, 2, 3, 5, 6, 7, 8, 10, 11, 12, 13, 15, 16, 17, 18] [4, 9, 14, 19, 20, 21, 22] (fun w' => w'.cell? ⟨ba, 0, none⟩ = some (.int .i64 a1) ∧ w'.cell? ⟨ba, 1, none⟩ = some (.int .i64 a2) ∧ w'.cell? ⟨ba, 2, none⟩ = some (.int .i64 a3) ∧ w'.cell? ⟨ba, 3, none⟩ = some (.int .i64 a4) ∧ w'.cell? ⟨bb, 0, none⟩ = some (.int .i64 b1) ∧ w'.cell? ⟨bb, 1, none⟩ = some (.int .i64 b2) ∧ w'.cell? ⟨bb, 2, none⟩ = some (.int .i64 b3) ∧ w'.cell? ⟨bb, 3, none⟩ = some (.int .i64 b4)) (by kernel_rfl) (by kernel_rfl) (by kernel_rfl) z ?_
  have hz' := hz.drew
  have hs : Z.drew.cell? ⟨ba, 0, none⟩ = some (.int .i64 a1) ∧ Z.drew.cell? ⟨ba, 1, none⟩ = some (.int .i64 a2) ∧ Z.drew.cell? ⟨ba, 2, none⟩ = some (.int .i64 a3) ∧ Z.drew.cell? ⟨ba, 3, none⟩ = some (.int .i64 a4) ∧ Z.drew.cell? ⟨bb, 0, none⟩ = some (.int .i64 b1) ∧ Z.drew.cell? ⟨bb, 1, none⟩ = some (.int .i64 b2) ∧ Z.drew.cell? ⟨bb, 2, none⟩ = some (.int .i64 b3) ∧ Z.drew.cell? ⟨bb, 3, none⟩ = some (.int .i64 b4) := z
  generalize Z.drew = V at *
  have HV := Lib.hid (And.intro hz' hs)
  clear hz hz' hs z
  repeat (
    refine wpHeads_cons (v := ?_) rfl (Or.inl ⟨by rfl, ?_⟩) ?_
    rotate_left
    · (intro W hW; obtain ⟨q1, q2, q3, q4, q5, q6, q7, q8⟩ := hW; go_simp; try with_reducible rfl)
    simp only [Act.put, List.setIfInBounds_toArray])
  refine wpHeads_nil ?_
  refine wpTails_cons rfl ?_
  go_wp2_with (go_at_call 20; refine (cmpI_any _ _ _).mono ?_; rintro e w' ⟨rfl, hw⟩; rw [hw]; clear hw w')
  refine tail_mk HV.out.2 ?_
  refine wpTails_cons rfl ?_
  go_wp2_with (go_at_call 20; refine (cmpI_any _ _ _).mono ?_; rintro e w' ⟨rfl, hw⟩; rw [hw]; clear hw w')
  refine tail_mk HV.out.2 ?_
  refine wpTails_cons rfl ?_
  go_wp2_with (go_at_call 20; refine (cmpI_any _ _ _).mono ?_; rintro e w' ⟨rfl, hw⟩; rw [hw]; clear hw w')
  refine tail_mk HV.out.2 ?_
  refine wpTails_cons rfl ?_
  go_wp2_with (go_at_call 24; refine (cmpL_any _ _ _).mono ?_; rintro e w' ⟨rfl, hw⟩; rw [hw]; clear hw w')
  refine tail_mk HV.out.2 ?_
  refine wpTails_cons rfl ?_
  have hoc : cmp4 (a1, a2, a3, a4) (b1, b2, b3, b4) = orI [cmpI a1 b1, cmpI a2 b2, cmpI a3 b3, cmpI a4 b4] := rfl
  obtain ⟨r1, hr1⟩ : ∃ r, r = cmpI a1 b1 := ⟨_, rfl⟩
  obtain ⟨r2, hr2⟩ : ∃ r, r = cmpI a2 b2 := ⟨_, rfl⟩
  obtain ⟨r3, hr3⟩ : ∃ r, r = cmpI a3 b3 := ⟨_, rfl⟩
  obtain ⟨r4, hr4⟩ : ∃ r, r = cmpI a4 b4 := ⟨_, rfl⟩
  rw [← hr1, ← hr2, ← hr3, ← hr4] at hoc ⊢
  have HO := Lib.hid hoc
  clear hr1 hr2 hr3 hr4 hoc
  go_wp2_with fail
  have gA := grownBy_alloc V (.cells #[.int .i64 r1, .int .i64 r2, .int .i64 r3, .int .i64 r4] 3)
  have s2 := And.intro (gA.cell HV.out.2.1 (by simp)) (And.intro (gA.cell HV.out.2.2.1 (by simp)) (And.intro (gA.cell HV.out.2.2.2.1 (by simp)) (And.intro (gA.cell HV.out.2.2.2.2.1 (by simp)) (And.intro (gA.cell HV.out.2.2.2.2.2.1 (by simp)) (And.intro (gA.cell HV.out.2.2.2.2.2.2.1 (by simp)) (And.intro (gA.cell HV.out.2.2.2.2.2.2.2.1 (by simp)) (gA.cell HV.out.2.2.2.2.2.2.2.2 (by simp))))))))
  have H2 := Lib.hid s2
  have hI : Ints (V.alloc (.cells #[.int .i64 r1, .int .i64 r2, .int .i64 r3, .int .i64 r4] 3)) (.slice (some ⟨V.heap.size, 0, none⟩) 4 4) [r1, r2, r3, r4] := (show OwnI _ V.heap.size 3 (.slice (some ⟨V.heap.size, 0, none⟩) 4 4) [r1, r2, r3, r4] from World.ownsRow_lit (size := 1) V #[.int .i64 r1, .int .i64 r2, .int .i64 r3, .int .i64 r4] 4 (Nat.le_refl _) (by unfold maxLen; omega) rfl).lst
  have HI := Lib.hid hI
  clear gA s2 hI
  refine tail_mk H2.out ?_
  refine wpTails_cons rfl ?_
  go_wp2_with fail
  refine (cmpOr_any _ [r1, r2, r3, r4] _ HI.out).mono ?_
  rintro e W9 ⟨rfl, rfl⟩
  go_wp2_with fail
  refine tail_mk H2.out ?_
  refine wpTails_one rfl ?_
  go_wp2_with fail
  refine thenQ_mk ?_
  go_wp2_with fail
  go_ret
  exact ⟨ret_int HO.out.symm, HV.out.1.alloc _⟩
end Go.Proofs.Ytnklnklkblgnfaa
