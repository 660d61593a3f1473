/- Contracts of node, compare, Check of package graph, and of the reference's less, Check. -/
import Derived.Test.YtchmjgjagaaomaaGrp
import Derived.Test.YtchmjgjagaaomaaGa
import Derived.Test.YtchmjgjagaaomaaLay
namespace Go.Gra
open Go.RowKit
/-- The world has drawn and grown. -/
def Grw (W Z : World) : Prop := ∃ q os, Z = Go.Sort.grow (W.drewN q) os
theorem gen_code {P : Program} {c : Code} {Q : Exit → Act → World → Prop} {a : Act} {w : World} (p : World → Prop) (hw : p w) (h : ∀ W, p W → Code.wp P c Q a W) : Code.wp P c Q a w := h w hw
theorem gen_calls {P : Program} {f : FuncId} {args : Array Value} {w : World} {Q : Ending → World → Prop} (p : World → Prop) (hw : p w) (h : ∀ W, p W → Calls P f args W Q) : Calls P f args w Q := h w hw
theorem Grw.refl (W : World) : Grw W W := ⟨0, #[], by simp; rfl⟩
theorem Grw.drewN {W Z : World} (h : Grw W Z) (n : Nat) : Grw W (Z.drewN n) := by
  obtain ⟨q, os, rfl⟩ := h
  exact ⟨q + n, os, by rw [← World.drewN_drewN]; rfl⟩
theorem Grw.drew {W Z : World} (h : Grw W Z) : Grw W Z.drew := h.drewN 1
theorem Grw.alloc {W Z : World} (h : Grw W Z) (o : Obj) : Grw W (Z.alloc o) := by
  obtain ⟨q, os, rfl⟩ := h
  exact ⟨q, os.push o, by rw [Go.Sort.alloc_eq_grow, Go.Sort.grow_grow, Array.append_singleton]⟩
theorem Grw.trans {A B C : World} (h : Grw A B) (k : Grw B C) : Grw A C := by
  obtain ⟨q, os, rfl⟩ := h
  obtain ⟨q2, os2, rfl⟩ := k
  refine ⟨q + q2, os ++ os2, ?_⟩
  rw [← Go.Sort.grow_grow, ← World.drewN_drewN]; rfl
theorem Grw.below {A B : World} (h : Grw A B) : Below A.heap.size A B := by
  obtain ⟨q, os, rfl⟩ := h
  exact Go.Proofs.below_grown_sl _ _ _ _ (Nat.le_refl _)
end Go.Gra
namespace Go.Proofs.Ytchmjgjagaaomaa
open Go.RowKit Go.Dfl Go.Gra

theorem sEdge : SliceOf Try.prog 22 35 (.agg #[.int .i64 0, .int .i64 0]) 2 16 := ⟨Try.underlying22, info_parts (P := Try.prog) (e := 35) (by kernel_rfl)⟩
theorem sIntG : SliceOf Try.prog 32 3 (.int .i64 0) 1 8 := ⟨Try.underlying32, info_parts (P := Try.prog) (e := 3) (by kernel_rfl)⟩
theorem sBoolG : SliceOf Try.prog 31 4 (.bool false) 1 1 := ⟨Try.underlying31, info_parts (P := Try.prog) (e := 4) (by kernel_rfl)⟩
/-- An edge as a value. -/
abbrev ev (e : Int × Int) : Value := .agg #[.int .i64 e.1, .int .i64 e.2]
def GV (g : G) (cv : Value) : Value := .agg #[.int .i64 g.n, cv]

theorem node_any (n v : Int) (w : World) : Calls Try.prog 42 #[.int .i64 n, .int .i64 v] w fun e w' => e = .returned (.bool (nodeB n v)) ∧ w' = w := by
  by_cases h1 : 0 ≤ v
  · by_cases h2 : v < n
    · go_enter Try.func42, Try.ntmps42
      go_wp2_with fail
      go_ret
      exact ⟨ret_bool (by simp [nodeB, h1, h2]), rfl⟩
    · go_enter Try.func42, Try.ntmps42
      go_wp2_with fail
      go_ret
      exact ⟨ret_bool (by simp [nodeB, h1, h2]), rfl⟩
  · go_enter Try.func42, Try.ntmps42
    go_wp2_with fail
    go_ret
    exact ⟨ret_bool (by simp [nodeB]; omega), rfl⟩
theorem cmpI_any (x y : Int) (w : World) : Calls Try.prog 60 #[.int .i64 x, .int .i64 y] w fun e w' => e = .returned (.int .i64 (cmpI x y)) ∧ w' = w := by
  have q1 : (x != x) = false := by simp
  have q2 : (y != y) = false := by simp
  by_cases h1 : x < y
  · go_enter Try.func60, Try.ntmps60
    go_wp2
    go_ret
    exact ⟨ret_int (by simp [cmpI, h1]), rfl⟩
  · by_cases h2 : y < x
    · go_enter Try.func60, Try.ntmps60
      go_wp2
      go_ret
      exact ⟨ret_int (by simp [cmpI, h1, h2]), rfl⟩
    · go_enter Try.func60, Try.ntmps60
      go_wp2
      go_ret
      exact ⟨ret_int (by unfold cmpI; rw [if_neg (by omega), if_neg (by omega)]), rfl⟩
def orI (l : List Int) : Int := (l.find? fun x => decide (x ≠ 0)).getD 0
theorem orI_first {l : List Int} {k : Nat} (h : k < l.length) (h0 : ∀ i, i < k → nth l i = 0) (h1 : nth l k ≠ 0) : orI l = nth l k := by
  unfold orI
  have : l.find? (fun x => decide (x ≠ 0)) = some (nth l k) := by
    rw [List.find?_eq_some_iff_getElem]
    refine ⟨by simpa using h1, k, h, (nth_eq _ _ h).symm, fun j hj => ?_⟩
    rw [← nth_eq l j (by omega), h0 j hj]; simp
  rw [this]; rfl
theorem orI_none {l : List Int} (h0 : ∀ i, i < l.length → nth l i = 0) : orI l = 0 := by
  unfold orI
  have : l.find? (fun x => decide (x ≠ 0)) = none := by
    rw [List.find?_eq_none]
    intro x hx
    obtain ⟨i, hi, rfl⟩ := mem_nth hx
    simp [h0 i hi]
  rw [this]; rfl
theorem orI_cmp (a b : Int × Int) : orI [cmpI a.1 b.1, cmpI a.2 b.2] = cmpE a b := by
  unfold cmpE
  by_cases h : cmpI a.1 b.1 = 0
  · rw [if_neg (by simpa using h)]
    by_cases h2 : cmpI a.2 b.2 = 0
    · rw [orI_none (fun i hi => by simp at hi; obtain rfl | rfl : i = 0 ∨ i = 1 := by omega
                                   · exact h
                                   · exact h2), h2]
    · exact orI_first (k := 1) (by simp) (fun i hi => by obtain rfl : i = 0 := by omega
                                                         exact h) h2
  · rw [if_pos h]
    exact orI_first (k := 0) (by simp) (fun i hi => by omega) h
set_option maxHeartbeats 800000 in
theorem cmpOr_any (v : Value) (l : List Int) (w : World) (h : Ints w v l) :
    Calls Try.prog 59 #[v] w fun e w' => e = .returned (.int .i64 (orI l)) ∧ w' = w := by
  obtain ⟨a, cap, rfl, hm, hidx, hcell, _⟩ := h.out1 sIntG
  clear h
  go_enter Try.func59, Try.ntmps59
  go_wp2_with fail
  go_loopw [5, 8] (fun _ i wr => ∃ k : Nat, k ≤ l.length ∧ i = .int .i64 k ∧ wr = w ∧ Hid (∀ i, i < k → nth l i = 0)) (fun _ i _ => l.length - (intOf i).toNat)
  case atStart => exact ⟨0, by omega, rfl, rfl, fun i hi => by omega⟩
  case round =>
    obtain ⟨k, hk, rfl, rfl, hch⟩ := hrel
    by_cases hlt : k < l.length
    · have hck := hcell k hlt
      by_cases h1 : nth l k = 0
      · have hd : (nth l k != 0) = false := by simpa using h1
        have HX := Lib.hid h1
        clear h1
        go_wp2_with fail
        go_roundw
        case rel => exact ⟨k + 1, by omega, by go_num, by trivial, fun i hi => by
          by_cases e : i = k
          · subst e; exact HX.out
          · exact hch.out i (by omega)⟩
        case measure => simp [intOf]; omega
      · have hd : (nth l k != 0) = true := by simpa using h1
        have HX := Lib.hid h1
        clear h1
        go_wp2_with fail
        go_ret
        exact ⟨ret_int (orI_first hlt hch.out HX.out).symm, rfl⟩
    · obtain rfl : k = l.length := by omega
      go_wp2_with fail
      go_ret
      exact ⟨ret_int (orI_none hch.out).symm, rfl⟩

set_option maxHeartbeats 1600000 in
theorem compare_any (a b : Int × Int) (W : World) : Calls Try.prog 43 #[ev a, ev b] W fun e W' => e = .returned (.int .i64 (cmpE a b)) ∧ Grw W W' := by
  obtain ⟨a1, a2⟩ := a
  obtain ⟨b1, b2⟩ := b
  have hg := ((Grw.refl W).alloc (.cells #[.int .i64 a1, .int .i64 a2] 35)).alloc (.cells #[.int .i64 b1, .int .i64 b2] 35)
  have c1 := cells_new (W := W) (cs := [.int .i64 a1, .int .i64 a2]) (t := 35) rfl
  have c2 := cells_new (W := W.alloc (.cells #[.int .i64 a1, .int .i64 a2] 35)) (cs := [.int .i64 b1, .int .i64 b2]) (t := 35) rfl
  have ga := grownBy_alloc (W.alloc (.cells #[.int .i64 a1, .int .i64 a2] 35)) (.cells #[.int .i64 b1, .int .i64 b2] 35)
  have hs := And.intro (ga.cell (c1 0 _ rfl) (by simp)) (And.intro (ga.cell (c1 1 _ rfl) (by simp)) (And.intro (c2 0 _ rfl) (c2 1 _ rfl)))
  rw [World.size_alloc] at hs
  have HS := Lib.hid (And.intro hg hs)
  clear hg c1 c2 ga hs
  go_enter Try.func43, Try.ntmps43
  go_wp2_with fail
  refine gen_code (fun Z => Grw W Z ∧ Z.cell? ⟨W.heap.size, 0, none⟩ = some (.int .i64 a1) ∧ Z.cell? ⟨W.heap.size, 1, none⟩ = some (.int .i64 a2) ∧ Z.cell? ⟨W.heap.size + 1, 0, none⟩ = some (.int .i64 b1) ∧ Z.cell? ⟨W.heap.size + 1, 1, none⟩ = some (.int .i64 b2)) HS.out ?_
  rintro Z ⟨hz, z1, z2, z3, z4⟩
  obtain ⟨ba, hba⟩ : ∃ k, k = W.heap.size := ⟨_, rfl⟩
  obtain ⟨bb, hbb⟩ : ∃ k, k = W.heap.size + 1 := ⟨_, rfl⟩
  rw [← hbb] at z3 z4
  rw [← hba] at z1 z2
  rw [← hbb, ← hba]
  clear hba hbb HS
  have HZ := Lib.hid hz
  refine wp_region_mix [0, 1, 2, 3, 5, 6, 7, 8] [4, 9, 10, 11, 12] (fun w' => w'.cell? ⟨ba, 0, none⟩ = some (.int .i64 a1) ∧ w'.cell? ⟨ba, 1, none⟩ = some (.int .i64 a2) ∧ w'.cell? ⟨bb, 0, none⟩ = some (.int .i64 b1) ∧ w'.cell? ⟨bb, 1, none⟩ = some (.int .i64 b2)) (by kernel_rfl) (by kernel_rfl) (by kernel_rfl) ⟨z1, z2, z3, z4⟩ ?_
  have hs : Z.drew.cell? ⟨ba, 0, none⟩ = some (.int .i64 a1) ∧ Z.drew.cell? ⟨ba, 1, none⟩ = some (.int .i64 a2) ∧ Z.drew.cell? ⟨bb, 0, none⟩ = some (.int .i64 b1) ∧ Z.drew.cell? ⟨bb, 1, none⟩ = some (.int .i64 b2) := ⟨z1, z2, z3, z4⟩
  have hz' := hz.drew
  generalize Z.drew = V at *
  have HV := Lib.hid (And.intro hz' hs)
  clear hz hz' hs z1 z2 z3 z4
  repeat (
    refine wpHeads_cons (v := ?_) rfl (Or.inl ⟨by rfl, ?_⟩) ?_
    rotate_left
    · (intro W hW; obtain ⟨q1, q2, q3, q4⟩ := hW; go_simp; try with_reducible rfl)
    simp only [Act.put, List.setIfInBounds_toArray])
  refine wpHeads_nil ?_
  refine wpTails_cons rfl ?_
  go_wp2_with (go_at_call 60; refine (cmpI_any _ _ _).mono ?_; rintro e w' ⟨rfl, hw⟩; rw [hw]; clear hw w')
  refine tail_mk HV.out.2 ?_
  refine wpTails_cons rfl ?_
  go_wp2_with (go_at_call 60; refine (cmpI_any _ _ _).mono ?_; rintro e w' ⟨rfl, hw⟩; rw [hw]; clear hw w')
  refine tail_mk HV.out.2 ?_
  refine wpTails_cons rfl ?_
  have hoc := orI_cmp (a1, a2) (b1, b2)
  obtain ⟨r1, hr1⟩ : ∃ r, r = cmpI a1 b1 := ⟨_, rfl⟩
  obtain ⟨r2, hr2⟩ : ∃ r, r = cmpI a2 b2 := ⟨_, rfl⟩
  dsimp only at hoc
  rw [← hr1, ← hr2] at hoc ⊢
  have HO := Lib.hid hoc
  clear hr1 hr2 hoc
  go_wp2_with fail
  have gA := grownBy_alloc V (.cells #[.int .i64 r1, .int .i64 r2] 3)
  have s2 := And.intro (gA.cell HV.out.2.1 (by simp)) (And.intro (gA.cell HV.out.2.2.1 (by simp)) (And.intro (gA.cell HV.out.2.2.2.1 (by simp)) (gA.cell HV.out.2.2.2.2 (by simp))))
  have H2 := Lib.hid s2
  have hI : Ints (V.alloc (.cells #[.int .i64 r1, .int .i64 r2] 3)) (.slice (some ⟨V.heap.size, 0, none⟩) 2 2) [r1, r2] := (show OwnI _ V.heap.size 3 (.slice (some ⟨V.heap.size, 0, none⟩) 2 2) [r1, r2] from World.ownsRow_lit (size := 1) V #[.int .i64 r1, .int .i64 r2] 2 (Nat.le_refl _) (by unfold maxLen; omega) rfl).lst
  have HI := Lib.hid hI
  clear gA s2 hI
  refine tail_mk H2.out ?_
  refine wpTails_cons rfl ?_
  go_wp2_with fail
  refine (cmpOr_any _ [r1, r2] _ HI.out).mono ?_
  rintro e W9 ⟨rfl, rfl⟩
  go_wp2_with fail
  refine tail_mk H2.out ?_
  refine wpTails_one rfl ?_
  go_wp2_with fail
  refine thenQ_mk ?_
  go_wp2_with fail
  go_ret
  exact ⟨ret_int HO.out, HV.out.1.alloc _⟩
end Go.Proofs.Ytchmjgjagaaomaa
