/- Contract of a demand query's search. -/
import Derived.Test.YtkfhopnolflchaaDmr
import Derived.Test.YtkfhopnolflchaaGa
import Derived.Test.YtkfhopnolflchaaCls
import Derived.Deep.DeepCutAuto
namespace Go.Proofs.Ytkfhopnolflchaa
open Go.RowKit Go.Dfl Go.And

def VisR (S : Syst) (v : Nat) (W : World) (e : Ending) (W' : World) : Prop :=
  ∃ va vc fa fc vl fl, e = .returned (.agg #[.slice va S.vars vc, .slice fa S.fields fc, .int .i64 ((vl.count true : Nat) : Int)]) ∧ Lst Value.bool W' (.slice va S.vars vc) vl ∧ Lst Value.bool W' (.slice fa S.fields fc) fl ∧ vl.length = S.vars ∧ fl.length = S.fields ∧ (∀ x, nth vl x = true ↔ Vis S v x) ∧ (∀ f, nth fl f = true ↔ LdF S v f) ∧ Below W.heap.size W W'

theorem grownBy_setCell3 (W : World) (b : Nat) (x y z : Value) : W.grownBy (((W.setCell ⟨b, 0, none⟩ x).setCell ⟨b, 1, none⟩ y).setCell ⟨b, 2, none⟩ z) (some b) :=
  grownBy_trans (grownBy_trans (grownBy_setCell W ⟨b, 0, none⟩ x) (grownBy_setCell _ ⟨b, 1, none⟩ y)) (grownBy_setCell _ ⟨b, 2, none⟩ z)
set_option maxHeartbeats 12800000 in
set_option maxRecDepth 100000 in
theorem visited_any (s : Sy) (cv : Value) (v : Nat) (W : World) (hc : ConsIn W cv s.cons) (hs : Sm s) (hv : Vld s) (hvl : v < s.S.vars) : Calls Try.prog 23 #[SysV s cv, .int .i64 (v : Int)] W (VisR s.S v W) := by
  obtain ⟨ca, cc, rfl, hlen, hci, hcc⟩ := hc.out
  have HC := Lib.hid (And.intro hc (And.intro hs (And.intro hv hcc)))
  have hcn := hs.cons
  obtain ⟨S, hS⟩ : ∃ S, S = s.S := ⟨_, rfl⟩
  have hB := hs.bnd
  have bv : S.vars ≤ 40 := by rw [hS]; exact hB.vars
  have bsi : S.sites ≤ 12 := by rw [hS]; exact hB.sites
  have bfi : S.fields ≤ 5 := by rw [hS]; exact hB.fields
  have e1 : s.vars = (S.vars : Int) := by rw [hS]; exact (Int.toNat_of_nonneg hv.vars).symm
  have e2 : s.sites = (S.sites : Int) := by rw [hS]; exact (Int.toNat_of_nonneg hv.sites).symm
  have e3 : s.fields = (S.fields : Int) := by rw [hS]; exact (Int.toNat_of_nonneg hv.fields).symm
  have hOk : S.Ok := by rw [hS]; exact hv.ok
  have hcons : S.cons = s.cons.map R.C := by rw [hS]; rfl
  rw [← hS] at hvl ⊢
  unfold SysV
  rw [e1, e2, e3]
  have HS := Lib.hid (And.intro hS (And.intro hOk hcons))
  have hbox := cells_new (W := W) (cs := [.int .i64 (S.vars : Int), .int .i64 S.sites, .int .i64 S.fields, .slice ca s.cons.length cc]) (t := 24) rfl
  have gB := grownBy_alloc (W.alloc (.cells #[.int .i64 (S.vars : Int), .int .i64 S.sites, .int .i64 S.fields, .slice ca s.cons.length cc] 24)) (.cells #[.slice none 0 0, .slice none 0 0, .int .i64 0] 51)
  have d0 := gB.cell (hbox 0 _ rfl) (by simp)
  have d2 := gB.cell (hbox 2 _ rfl) (by simp)
  have d3 := gB.cell (hbox 3 _ rfl) (by simp)
  have hbr : VQ ((W.alloc (.cells #[.int .i64 (S.vars : Int), .int .i64 S.sites, .int .i64 S.fields, .slice ca s.cons.length cc] 24)).alloc (.cells #[.slice none 0 0, .slice none 0 0, .int .i64 0] 51)) (W.heap.size + 1) := by
    have := heap_alloc_new (W.alloc (.cells #[.int .i64 (S.vars : Int), .int .i64 S.sites, .int .i64 S.fields, .slice ca s.cons.length cc] 24)) (.cells #[.slice none 0 0, .slice none 0 0, .int .i64 0] 51)
    rw [World.size_alloc] at this
    exact this
  have HB0 := Lib.hid (And.intro d0 (And.intro d2 (And.intro d3 (And.intro hbr (below2' W (.cells #[.int .i64 (S.vars : Int), .int .i64 S.sites, .int .i64 S.fields, .slice ca s.cons.length cc] 24) (.cells #[.slice none 0 0, .slice none 0 0, .int .i64 0] 51))))))
  clear hbox gB d0 d2 d3 hbr hc hs hv hcc hS hOk hcons e1 e2 e3 hB
  go_enter Try.func23, Try.ntmps23
  go_upto_region 1 with fail
  refine wp_gen (fun Z => (Z.cell? ⟨W.heap.size, 0, none⟩ = some (.int .i64 (S.vars : Int)) ∧ Z.cell? ⟨W.heap.size, 2, none⟩ = some (.int .i64 (S.fields : Int)) ∧ Z.cell? ⟨W.heap.size, 3, none⟩ = some (.slice ca s.cons.length cc)) ∧ VQ Z (W.heap.size + 1) ∧ Below W.heap.size W Z) ⟨⟨HB0.out.1, HB0.out.2.1, HB0.out.2.2.1⟩, HB0.out.2.2.2.1, HB0.out.2.2.2.2⟩ ?_
  rintro Wb hWb
  clear HB0
  obtain ⟨bs, hbs⟩ : ∃ bs, bs = W.heap.size := ⟨_, rfl⟩
  obtain ⟨br, hbr⟩ : ∃ br, br = W.heap.size + 1 := ⟨_, rfl⟩
  have HWb : Hid ((Wb.cell? ⟨bs, 0, none⟩ = some (.int .i64 (S.vars : Int)) ∧ Wb.cell? ⟨bs, 2, none⟩ = some (.int .i64 (S.fields : Int)) ∧ Wb.cell? ⟨bs, 3, none⟩ = some (.slice ca s.cons.length cc)) ∧ VQ Wb br ∧ Below W.heap.size W Wb) := by rw [hbs, hbr]; exact hWb
  rw [← hbr, ← hbs]
  have HBB := Lib.hid (And.intro hbs hbr)
  clear hWb hbs hbr
  go_cut [5] (fun q wx => ∃ bq va vc fa fc, q = .pointer (some ⟨bq, 0, none⟩) ∧ VN S W.heap.size bq va vc fa fc Wb wx)
  case first =>
    refine wp_region_plan (.take 0 (.take 1 (.take 3 (.take 4 (.alt 2 (.alt 5 (.take 6 (.alt 7 (.alt 8 .done .stop) .stop)) (.alt 7 (.alt 5 (.take 6 (.alt 8 .done .stop)) .stop) .stop)) (.alt 5 (.alt 2 (.take 6 (.alt 7 (.alt 8 .done .stop) .stop)) (.alt 7 (.alt 2 (.take 6 (.alt 8 .done .stop)) .stop) .stop)) (.alt 7 (.alt 2 (.alt 5 (.take 6 (.alt 8 .done .stop)) .stop) (.alt 5 (.alt 2 (.take 6 (.alt 8 .done .stop)) .stop) .stop)) .stop)))))))
      (fun w' => w'.cell? ⟨bs, 0, none⟩ = some (.int .i64 (S.vars : Int)) ∧ w'.cell? ⟨bs, 2, none⟩ = some (.int .i64 (S.fields : Int))) (by kernel_rfl) (by kernel_rfl) (by kernel_rfl) (by kernel_rfl) ⟨(grownBy_drew0 _).cell HWb.out.1.1 (by simp), (grownBy_drew0 _).cell HWb.out.1.2.1 (by simp)⟩ ?_
    refine plan_take (v := ?_) rfl (Or.inl ⟨by rfl, ?_⟩) ?_
    rotate_left
    · (intro W hW; obtain ⟨q1, q2⟩ := hW; go_simp; try with_reducible rfl)
    simp only [Act.put, List.setIfInBounds_toArray]
    refine plan_take (v := ?_) rfl (Or.inl ⟨by rfl, ?_⟩) ?_
    rotate_left
    · (intro W hW; obtain ⟨q1, q2⟩ := hW; go_simp; try with_reducible rfl)
    simp only [Act.put]
    refine plan_take (v := ?_) rfl (Or.inl ⟨by rfl, ?_⟩) ?_
    rotate_left
    · (intro W hW; obtain ⟨q1, q2⟩ := hW; go_simp; try with_reducible rfl)
    simp only [Act.put]
    refine plan_take (v := ?_) rfl (Or.inl ⟨by rfl, ?_⟩) ?_
    rotate_left
    · (intro W hW; obtain ⟨q1, q2⟩ := hW; go_simp; try with_reducible rfl)
    simp only [Act.put]
    have s0 : Wb.drew.cell? ⟨bs, 0, none⟩ = some (.int .i64 (S.vars : Int)) ∧ Wb.drew.cell? ⟨bs, 2, none⟩ = some (.int .i64 (S.fields : Int)) := ⟨(grownBy_drew0 _).cell HWb.out.1.1 (by simp), (grownBy_drew0 _).cell HWb.out.1.2.1 (by simp)⟩
    have g0 := grownBy_drew0 Wb
    generalize Wb.drew = V0 at *
    have G0 := Lib.hid g0
    clear g0
    refine plan_alt rfl ?_ ?_
    · skip
      refine wp_make (f := Value.bool) false sBoolD rfl _ rfl _ _ rfl .i64 .i64 _ _ S.vars rfl rfl rfl rfl (by omega) (by unfold maxLen; omega) ?_
      intro va vc V1 ov q1
      have lv := ov.lt
      have z1 := q1.size
      have s1 := s0.imp (fun h => (grownBy_below q1).cell h (by simp)) (fun h => (grownBy_below q1).cell h (by simp))
      refine tail_mk s1 ?_
      refine plan_alt rfl ?_ ?_
      · skip
        refine wp_make (f := Value.bool) false sBoolD rfl _ rfl _ _ rfl .i64 .i64 _ _ S.fields rfl rfl rfl rfl (by omega) (by unfold maxLen; omega) ?_
        intro fa fc V2 of q2
        have lf := of.lt
        have z2 := q2.size
        replace ov := ov.below q2
        have s2 := s1.imp (fun h => (grownBy_below q2).cell h (by simp)) (fun h => (grownBy_below q2).cell h (by simp))
        refine tail_mk s2 ?_
        refine plan_take (v := ?_) rfl (Or.inl ⟨by rfl, ?_⟩) ?_
        rotate_left
        · (intro W hW; obtain ⟨q1, q2⟩ := hW; go_simp; try with_reducible rfl)
        simp only [Act.put]
        refine plan_alt rfl ?_ ?_
        · skip
          go_wp2_with fail
          have q3 : Below V2.heap.size V2 (V2.alloc (.cells #[.slice none 0 0, .slice none 0 0, .int .i64 0] 51)) := (Below.refl _ _).alloc (Nat.le_refl _) _
          have vq : VQ (V2.alloc (.cells #[.slice none 0 0, .slice none 0 0, .int .i64 0] 51)) V2.heap.size := heap_alloc_new _ _
          have lq : V2.heap.size < (V2.alloc (.cells #[.slice none 0 0, .slice none 0 0, .int .i64 0] 51)).heap.size := by simp
          generalize V2.alloc (.cells #[.slice none 0 0, .slice none 0 0, .int .i64 0] 51) = V3 at *
          obtain ⟨bq, hbq⟩ : ∃ bq, bq = V2.heap.size := ⟨_, rfl⟩
          rw [← hbq] at vq lq ⊢
          have z3 := q3.size
          replace ov := ov.below q3
          replace of := of.below q3
          have s3 := s2.imp (fun h => (grownBy_below q3).cell h (by simp)) (fun h => (grownBy_below q3).cell h (by simp))
          refine tail_mk s3 ?_
          refine plan_alt rfl ?_ plan_stop
          have hvq : V3.heap[bq]? = some (.cells #[.slice none 0 0, .slice none 0 0, .int .i64 0] 51) := vq
          have w0 : V3.cell? ⟨bq, 0, none⟩ = some (.slice none 0 0) := by simp [World.cell?, hvq]
          have w1 : V3.cell? ⟨bq, 1, none⟩ = some (.slice none 0 0) := by simp [World.cell?, hvq]
          have w2 : V3.cell? ⟨bq, 2, none⟩ = some (.int .i64 0) := by simp [World.cell?, hvq]
          have w3 : V3.frozen? ⟨bq, 0, none⟩ = false := by simp [World.frozen?, hvq]
          have w4 : V3.frozen? ⟨bq, 1, none⟩ = false := by simp [World.frozen?, hvq]
          have w5 : V3.frozen? ⟨bq, 2, none⟩ = false := by simp [World.frozen?, hvq]
          have HL := Lib.hid (And.intro lv (And.intro lf (And.intro vq (And.intro ov (And.intro of (And.intro hbq (And.intro (grownBy_below q1) (And.intro (grownBy_below q2) (grownBy_below q3)))))))))
          have HBQ : ¬ bs = bq := by have h1 := World.block_lt_of_cell? Wb _ HWb.out.1.1; have h2 := G0.out.size; have h3 : bs < Wb.heap.size := h1; omega
          clear vq ov of lv lf hvq hbq
          go_wp2_with fail
          refine tail_mk (s3.imp (fun h => (grownBy_setCell3 V3 bq _ _ _).cell h (by simp; exact HBQ)) (fun h => (grownBy_setCell3 V3 bq _ _ _).cell h (by simp; exact HBQ))) ?_
          refine plan_done ?_
          go_wp2_with fail
          go_meet
          case rel =>
            obtain ⟨lv, lf, vq, ov, of, hbq, g1, g2, g3⟩ := HL.out
            have g0 := G0.out.size
            refine ⟨bq, va, vc, fa, fc, rfl, VN.mk2 (HWb.out.2.2.size) (grownBy_trans G0.out (grownBy_trans g1 (grownBy_trans g2 g3))) vq (by omega) (ov.mono (by omega)) (of.mono (by omega)) (fun k hk => ⟨?_, fun e => ?_⟩) (fun k hk => ?_)⟩
            · have := lv k hk; omega
            · have h1 := lv k hk
              have h2 := lf k e
              omega
            · have := lf k hk; omega
        exact plan_stop
      refine plan_alt rfl ?_ ?_
      · skip
        go_wp2_with fail
        have q2 : Below V1.heap.size V1 (V1.alloc (.cells #[.slice none 0 0, .slice none 0 0, .int .i64 0] 51)) := (Below.refl _ _).alloc (Nat.le_refl _) _
        have vq : VQ (V1.alloc (.cells #[.slice none 0 0, .slice none 0 0, .int .i64 0] 51)) V1.heap.size := heap_alloc_new _ _
        have lq : V1.heap.size < (V1.alloc (.cells #[.slice none 0 0, .slice none 0 0, .int .i64 0] 51)).heap.size := by simp
        generalize V1.alloc (.cells #[.slice none 0 0, .slice none 0 0, .int .i64 0] 51) = V2 at *
        obtain ⟨bq, hbq⟩ : ∃ bq, bq = V1.heap.size := ⟨_, rfl⟩
        rw [← hbq] at vq lq ⊢
        have z2 := q2.size
        replace ov := ov.below q2
        have s2 := s1.imp (fun h => (grownBy_below q2).cell h (by simp)) (fun h => (grownBy_below q2).cell h (by simp))
        refine tail_mk s2 ?_
        refine plan_alt rfl ?_ ?_
        · skip
          refine wp_make (f := Value.bool) false sBoolD rfl _ rfl _ _ rfl .i64 .i64 _ _ S.fields rfl rfl rfl rfl (by omega) (by unfold maxLen; omega) ?_
          intro fa fc V3 of q3
          have lf := of.lt
          have z3 := q3.size
          replace ov := ov.below q3
          replace vq := vq.grown (grownBy_below q3)
          have s3 := s2.imp (fun h => (grownBy_below q3).cell h (by simp)) (fun h => (grownBy_below q3).cell h (by simp))
          refine tail_mk s3 ?_
          refine plan_take (v := ?_) rfl (Or.inl ⟨by rfl, ?_⟩) ?_
          rotate_left
          · (intro W hW; obtain ⟨q1, q2⟩ := hW; go_simp; try with_reducible rfl)
          simp only [Act.put, List.setIfInBounds_toArray]
          refine plan_alt rfl ?_ plan_stop
          have hvq : V3.heap[bq]? = some (.cells #[.slice none 0 0, .slice none 0 0, .int .i64 0] 51) := vq
          have w0 : V3.cell? ⟨bq, 0, none⟩ = some (.slice none 0 0) := by simp [World.cell?, hvq]
          have w1 : V3.cell? ⟨bq, 1, none⟩ = some (.slice none 0 0) := by simp [World.cell?, hvq]
          have w2 : V3.cell? ⟨bq, 2, none⟩ = some (.int .i64 0) := by simp [World.cell?, hvq]
          have w3 : V3.frozen? ⟨bq, 0, none⟩ = false := by simp [World.frozen?, hvq]
          have w4 : V3.frozen? ⟨bq, 1, none⟩ = false := by simp [World.frozen?, hvq]
          have w5 : V3.frozen? ⟨bq, 2, none⟩ = false := by simp [World.frozen?, hvq]
          have HL := Lib.hid (And.intro lv (And.intro lf (And.intro vq (And.intro ov (And.intro of (And.intro hbq (And.intro (grownBy_below q1) (And.intro (grownBy_below q2) (grownBy_below q3)))))))))
          have HBQ : ¬ bs = bq := by have h1 := World.block_lt_of_cell? Wb _ HWb.out.1.1; have h2 := G0.out.size; have h3 : bs < Wb.heap.size := h1; omega
          clear vq ov of lv lf hvq hbq
          go_wp2_with fail
          refine tail_mk (s3.imp (fun h => (grownBy_setCell3 V3 bq _ _ _).cell h (by simp; exact HBQ)) (fun h => (grownBy_setCell3 V3 bq _ _ _).cell h (by simp; exact HBQ))) ?_
          refine plan_done ?_
          go_wp2_with fail
          go_meet
          case rel =>
            obtain ⟨lv, lf, vq, ov, of, hbq, g1, g2, g3⟩ := HL.out
            have g0 := G0.out.size
            refine ⟨bq, va, vc, fa, fc, rfl, VN.mk2 (HWb.out.2.2.size) (grownBy_trans G0.out (grownBy_trans g1 (grownBy_trans g2 g3))) vq (by omega) (ov.mono (by omega)) (of.mono (by omega)) (fun k hk => ⟨?_, fun e => ?_⟩) (fun k hk => ?_)⟩
            · have := lv k hk; omega
            · have h1 := lv k hk
              have h2 := lf k e
              omega
            · have := lf k hk; omega
        exact plan_stop
      exact plan_stop
    refine plan_alt rfl ?_ ?_
    · skip
      refine wp_make (f := Value.bool) false sBoolD rfl _ rfl _ _ rfl .i64 .i64 _ _ S.fields rfl rfl rfl rfl (by omega) (by unfold maxLen; omega) ?_
      intro fa fc V1 of q1
      have lf := of.lt
      have z1 := q1.size
      have s1 := s0.imp (fun h => (grownBy_below q1).cell h (by simp)) (fun h => (grownBy_below q1).cell h (by simp))
      refine tail_mk s1 ?_
      refine plan_alt rfl ?_ ?_
      · skip
        refine wp_make (f := Value.bool) false sBoolD rfl _ rfl _ _ rfl .i64 .i64 _ _ S.vars rfl rfl rfl rfl (by omega) (by unfold maxLen; omega) ?_
        intro va vc V2 ov q2
        have lv := ov.lt
        have z2 := q2.size
        replace of := of.below q2
        have s2 := s1.imp (fun h => (grownBy_below q2).cell h (by simp)) (fun h => (grownBy_below q2).cell h (by simp))
        refine tail_mk s2 ?_
        refine plan_take (v := ?_) rfl (Or.inl ⟨by rfl, ?_⟩) ?_
        rotate_left
        · (intro W hW; obtain ⟨q1, q2⟩ := hW; go_simp; try with_reducible rfl)
        simp only [Act.put]
        refine plan_alt rfl ?_ ?_
        · skip
          go_wp2_with fail
          have q3 : Below V2.heap.size V2 (V2.alloc (.cells #[.slice none 0 0, .slice none 0 0, .int .i64 0] 51)) := (Below.refl _ _).alloc (Nat.le_refl _) _
          have vq : VQ (V2.alloc (.cells #[.slice none 0 0, .slice none 0 0, .int .i64 0] 51)) V2.heap.size := heap_alloc_new _ _
          have lq : V2.heap.size < (V2.alloc (.cells #[.slice none 0 0, .slice none 0 0, .int .i64 0] 51)).heap.size := by simp
          generalize V2.alloc (.cells #[.slice none 0 0, .slice none 0 0, .int .i64 0] 51) = V3 at *
          obtain ⟨bq, hbq⟩ : ∃ bq, bq = V2.heap.size := ⟨_, rfl⟩
          rw [← hbq] at vq lq ⊢
          have z3 := q3.size
          replace of := of.below q3
          replace ov := ov.below q3
          have s3 := s2.imp (fun h => (grownBy_below q3).cell h (by simp)) (fun h => (grownBy_below q3).cell h (by simp))
          refine tail_mk s3 ?_
          refine plan_alt rfl ?_ plan_stop
          have hvq : V3.heap[bq]? = some (.cells #[.slice none 0 0, .slice none 0 0, .int .i64 0] 51) := vq
          have w0 : V3.cell? ⟨bq, 0, none⟩ = some (.slice none 0 0) := by simp [World.cell?, hvq]
          have w1 : V3.cell? ⟨bq, 1, none⟩ = some (.slice none 0 0) := by simp [World.cell?, hvq]
          have w2 : V3.cell? ⟨bq, 2, none⟩ = some (.int .i64 0) := by simp [World.cell?, hvq]
          have w3 : V3.frozen? ⟨bq, 0, none⟩ = false := by simp [World.frozen?, hvq]
          have w4 : V3.frozen? ⟨bq, 1, none⟩ = false := by simp [World.frozen?, hvq]
          have w5 : V3.frozen? ⟨bq, 2, none⟩ = false := by simp [World.frozen?, hvq]
          have HL := Lib.hid (And.intro lv (And.intro lf (And.intro vq (And.intro ov (And.intro of (And.intro hbq (And.intro (grownBy_below q1) (And.intro (grownBy_below q2) (grownBy_below q3)))))))))
          have HBQ : ¬ bs = bq := by have h1 := World.block_lt_of_cell? Wb _ HWb.out.1.1; have h2 := G0.out.size; have h3 : bs < Wb.heap.size := h1; omega
          clear vq ov of lv lf hvq hbq
          go_wp2_with fail
          refine tail_mk (s3.imp (fun h => (grownBy_setCell3 V3 bq _ _ _).cell h (by simp; exact HBQ)) (fun h => (grownBy_setCell3 V3 bq _ _ _).cell h (by simp; exact HBQ))) ?_
          refine plan_done ?_
          go_wp2_with fail
          go_meet
          case rel =>
            obtain ⟨lv, lf, vq, ov, of, hbq, g1, g2, g3⟩ := HL.out
            have g0 := G0.out.size
            refine ⟨bq, va, vc, fa, fc, rfl, VN.mk2 (HWb.out.2.2.size) (grownBy_trans G0.out (grownBy_trans g1 (grownBy_trans g2 g3))) vq (by omega) (ov.mono (by omega)) (of.mono (by omega)) (fun k hk => ⟨?_, fun e => ?_⟩) (fun k hk => ?_)⟩
            · have := lv k hk; omega
            · have h1 := lv k hk
              have h2 := lf k e
              omega
            · have := lf k hk; omega
        exact plan_stop
      refine plan_alt rfl ?_ ?_
      · skip
        go_wp2_with fail
        have q2 : Below V1.heap.size V1 (V1.alloc (.cells #[.slice none 0 0, .slice none 0 0, .int .i64 0] 51)) := (Below.refl _ _).alloc (Nat.le_refl _) _
        have vq : VQ (V1.alloc (.cells #[.slice none 0 0, .slice none 0 0, .int .i64 0] 51)) V1.heap.size := heap_alloc_new _ _
        have lq : V1.heap.size < (V1.alloc (.cells #[.slice none 0 0, .slice none 0 0, .int .i64 0] 51)).heap.size := by simp
        generalize V1.alloc (.cells #[.slice none 0 0, .slice none 0 0, .int .i64 0] 51) = V2 at *
        obtain ⟨bq, hbq⟩ : ∃ bq, bq = V1.heap.size := ⟨_, rfl⟩
        rw [← hbq] at vq lq ⊢
        have z2 := q2.size
        replace of := of.below q2
        have s2 := s1.imp (fun h => (grownBy_below q2).cell h (by simp)) (fun h => (grownBy_below q2).cell h (by simp))
        refine tail_mk s2 ?_
        refine plan_alt rfl ?_ ?_
        · skip
          refine wp_make (f := Value.bool) false sBoolD rfl _ rfl _ _ rfl .i64 .i64 _ _ S.vars rfl rfl rfl rfl (by omega) (by unfold maxLen; omega) ?_
          intro va vc V3 ov q3
          have lv := ov.lt
          have z3 := q3.size
          replace of := of.below q3
          replace vq := vq.grown (grownBy_below q3)
          have s3 := s2.imp (fun h => (grownBy_below q3).cell h (by simp)) (fun h => (grownBy_below q3).cell h (by simp))
          refine tail_mk s3 ?_
          refine plan_take (v := ?_) rfl (Or.inl ⟨by rfl, ?_⟩) ?_
          rotate_left
          · (intro W hW; obtain ⟨q1, q2⟩ := hW; go_simp; try with_reducible rfl)
          simp only [Act.put, List.setIfInBounds_toArray]
          refine plan_alt rfl ?_ plan_stop
          have hvq : V3.heap[bq]? = some (.cells #[.slice none 0 0, .slice none 0 0, .int .i64 0] 51) := vq
          have w0 : V3.cell? ⟨bq, 0, none⟩ = some (.slice none 0 0) := by simp [World.cell?, hvq]
          have w1 : V3.cell? ⟨bq, 1, none⟩ = some (.slice none 0 0) := by simp [World.cell?, hvq]
          have w2 : V3.cell? ⟨bq, 2, none⟩ = some (.int .i64 0) := by simp [World.cell?, hvq]
          have w3 : V3.frozen? ⟨bq, 0, none⟩ = false := by simp [World.frozen?, hvq]
          have w4 : V3.frozen? ⟨bq, 1, none⟩ = false := by simp [World.frozen?, hvq]
          have w5 : V3.frozen? ⟨bq, 2, none⟩ = false := by simp [World.frozen?, hvq]
          have HL := Lib.hid (And.intro lv (And.intro lf (And.intro vq (And.intro ov (And.intro of (And.intro hbq (And.intro (grownBy_below q1) (And.intro (grownBy_below q2) (grownBy_below q3)))))))))
          have HBQ : ¬ bs = bq := by have h1 := World.block_lt_of_cell? Wb _ HWb.out.1.1; have h2 := G0.out.size; have h3 : bs < Wb.heap.size := h1; omega
          clear vq ov of lv lf hvq hbq
          go_wp2_with fail
          refine tail_mk (s3.imp (fun h => (grownBy_setCell3 V3 bq _ _ _).cell h (by simp; exact HBQ)) (fun h => (grownBy_setCell3 V3 bq _ _ _).cell h (by simp; exact HBQ))) ?_
          refine plan_done ?_
          go_wp2_with fail
          go_meet
          case rel =>
            obtain ⟨lv, lf, vq, ov, of, hbq, g1, g2, g3⟩ := HL.out
            have g0 := G0.out.size
            refine ⟨bq, va, vc, fa, fc, rfl, VN.mk2 (HWb.out.2.2.size) (grownBy_trans G0.out (grownBy_trans g1 (grownBy_trans g2 g3))) vq (by omega) (ov.mono (by omega)) (of.mono (by omega)) (fun k hk => ⟨?_, fun e => ?_⟩) (fun k hk => ?_)⟩
            · have := lv k hk; omega
            · have h1 := lv k hk
              have h2 := lf k e
              omega
            · have := lf k hk; omega
        exact plan_stop
      exact plan_stop
    refine plan_alt rfl ?_ ?_
    · skip
      go_wp2_with fail
      have q1 : Below V0.heap.size V0 (V0.alloc (.cells #[.slice none 0 0, .slice none 0 0, .int .i64 0] 51)) := (Below.refl _ _).alloc (Nat.le_refl _) _
      have vq : VQ (V0.alloc (.cells #[.slice none 0 0, .slice none 0 0, .int .i64 0] 51)) V0.heap.size := heap_alloc_new _ _
      have lq : V0.heap.size < (V0.alloc (.cells #[.slice none 0 0, .slice none 0 0, .int .i64 0] 51)).heap.size := by simp
      generalize V0.alloc (.cells #[.slice none 0 0, .slice none 0 0, .int .i64 0] 51) = V1 at *
      obtain ⟨bq, hbq⟩ : ∃ bq, bq = V0.heap.size := ⟨_, rfl⟩
      rw [← hbq] at vq lq ⊢
      have z1 := q1.size
      have s1 := s0.imp (fun h => (grownBy_below q1).cell h (by simp)) (fun h => (grownBy_below q1).cell h (by simp))
      refine tail_mk s1 ?_
      refine plan_alt rfl ?_ ?_
      · skip
        refine wp_make (f := Value.bool) false sBoolD rfl _ rfl _ _ rfl .i64 .i64 _ _ S.vars rfl rfl rfl rfl (by omega) (by unfold maxLen; omega) ?_
        intro va vc V2 ov q2
        have lv := ov.lt
        have z2 := q2.size
        replace vq := vq.grown (grownBy_below q2)
        have s2 := s1.imp (fun h => (grownBy_below q2).cell h (by simp)) (fun h => (grownBy_below q2).cell h (by simp))
        refine tail_mk s2 ?_
        refine plan_alt rfl ?_ ?_
        · skip
          refine wp_make (f := Value.bool) false sBoolD rfl _ rfl _ _ rfl .i64 .i64 _ _ S.fields rfl rfl rfl rfl (by omega) (by unfold maxLen; omega) ?_
          intro fa fc V3 of q3
          have lf := of.lt
          have z3 := q3.size
          replace vq := vq.grown (grownBy_below q3)
          replace ov := ov.below q3
          have s3 := s2.imp (fun h => (grownBy_below q3).cell h (by simp)) (fun h => (grownBy_below q3).cell h (by simp))
          refine tail_mk s3 ?_
          refine plan_take (v := ?_) rfl (Or.inl ⟨by rfl, ?_⟩) ?_
          rotate_left
          · (intro W hW; obtain ⟨q1, q2⟩ := hW; go_simp; try with_reducible rfl)
          simp only [Act.put, List.setIfInBounds_toArray]
          refine plan_alt rfl ?_ plan_stop
          have hvq : V3.heap[bq]? = some (.cells #[.slice none 0 0, .slice none 0 0, .int .i64 0] 51) := vq
          have w0 : V3.cell? ⟨bq, 0, none⟩ = some (.slice none 0 0) := by simp [World.cell?, hvq]
          have w1 : V3.cell? ⟨bq, 1, none⟩ = some (.slice none 0 0) := by simp [World.cell?, hvq]
          have w2 : V3.cell? ⟨bq, 2, none⟩ = some (.int .i64 0) := by simp [World.cell?, hvq]
          have w3 : V3.frozen? ⟨bq, 0, none⟩ = false := by simp [World.frozen?, hvq]
          have w4 : V3.frozen? ⟨bq, 1, none⟩ = false := by simp [World.frozen?, hvq]
          have w5 : V3.frozen? ⟨bq, 2, none⟩ = false := by simp [World.frozen?, hvq]
          have HL := Lib.hid (And.intro lv (And.intro lf (And.intro vq (And.intro ov (And.intro of (And.intro hbq (And.intro (grownBy_below q1) (And.intro (grownBy_below q2) (grownBy_below q3)))))))))
          have HBQ : ¬ bs = bq := by have h1 := World.block_lt_of_cell? Wb _ HWb.out.1.1; have h2 := G0.out.size; have h3 : bs < Wb.heap.size := h1; omega
          clear vq ov of lv lf hvq hbq
          go_wp2_with fail
          refine tail_mk (s3.imp (fun h => (grownBy_setCell3 V3 bq _ _ _).cell h (by simp; exact HBQ)) (fun h => (grownBy_setCell3 V3 bq _ _ _).cell h (by simp; exact HBQ))) ?_
          refine plan_done ?_
          go_wp2_with fail
          go_meet
          case rel =>
            obtain ⟨lv, lf, vq, ov, of, hbq, g1, g2, g3⟩ := HL.out
            have g0 := G0.out.size
            refine ⟨bq, va, vc, fa, fc, rfl, VN.mk2 (HWb.out.2.2.size) (grownBy_trans G0.out (grownBy_trans g1 (grownBy_trans g2 g3))) vq (by omega) (ov.mono (by omega)) (of.mono (by omega)) (fun k hk => ⟨?_, fun e => ?_⟩) (fun k hk => ?_)⟩
            · have := lv k hk; omega
            · have h1 := lv k hk
              have h2 := lf k e
              omega
            · have := lf k hk; omega
        exact plan_stop
      refine plan_alt rfl ?_ ?_
      · skip
        refine wp_make (f := Value.bool) false sBoolD rfl _ rfl _ _ rfl .i64 .i64 _ _ S.fields rfl rfl rfl rfl (by omega) (by unfold maxLen; omega) ?_
        intro fa fc V2 of q2
        have lf := of.lt
        have z2 := q2.size
        replace vq := vq.grown (grownBy_below q2)
        have s2 := s1.imp (fun h => (grownBy_below q2).cell h (by simp)) (fun h => (grownBy_below q2).cell h (by simp))
        refine tail_mk s2 ?_
        refine plan_alt rfl ?_ ?_
        · skip
          refine wp_make (f := Value.bool) false sBoolD rfl _ rfl _ _ rfl .i64 .i64 _ _ S.vars rfl rfl rfl rfl (by omega) (by unfold maxLen; omega) ?_
          intro va vc V3 ov q3
          have lv := ov.lt
          have z3 := q3.size
          replace vq := vq.grown (grownBy_below q3)
          replace of := of.below q3
          have s3 := s2.imp (fun h => (grownBy_below q3).cell h (by simp)) (fun h => (grownBy_below q3).cell h (by simp))
          refine tail_mk s3 ?_
          refine plan_take (v := ?_) rfl (Or.inl ⟨by rfl, ?_⟩) ?_
          rotate_left
          · (intro W hW; obtain ⟨q1, q2⟩ := hW; go_simp; try with_reducible rfl)
          simp only [Act.put, List.setIfInBounds_toArray]
          refine plan_alt rfl ?_ plan_stop
          have hvq : V3.heap[bq]? = some (.cells #[.slice none 0 0, .slice none 0 0, .int .i64 0] 51) := vq
          have w0 : V3.cell? ⟨bq, 0, none⟩ = some (.slice none 0 0) := by simp [World.cell?, hvq]
          have w1 : V3.cell? ⟨bq, 1, none⟩ = some (.slice none 0 0) := by simp [World.cell?, hvq]
          have w2 : V3.cell? ⟨bq, 2, none⟩ = some (.int .i64 0) := by simp [World.cell?, hvq]
          have w3 : V3.frozen? ⟨bq, 0, none⟩ = false := by simp [World.frozen?, hvq]
          have w4 : V3.frozen? ⟨bq, 1, none⟩ = false := by simp [World.frozen?, hvq]
          have w5 : V3.frozen? ⟨bq, 2, none⟩ = false := by simp [World.frozen?, hvq]
          have HL := Lib.hid (And.intro lv (And.intro lf (And.intro vq (And.intro ov (And.intro of (And.intro hbq (And.intro (grownBy_below q1) (And.intro (grownBy_below q2) (grownBy_below q3)))))))))
          have HBQ : ¬ bs = bq := by have h1 := World.block_lt_of_cell? Wb _ HWb.out.1.1; have h2 := G0.out.size; have h3 : bs < Wb.heap.size := h1; omega
          clear vq ov of lv lf hvq hbq
          go_wp2_with fail
          refine tail_mk (s3.imp (fun h => (grownBy_setCell3 V3 bq _ _ _).cell h (by simp; exact HBQ)) (fun h => (grownBy_setCell3 V3 bq _ _ _).cell h (by simp; exact HBQ))) ?_
          refine plan_done ?_
          go_wp2_with fail
          go_meet
          case rel =>
            obtain ⟨lv, lf, vq, ov, of, hbq, g1, g2, g3⟩ := HL.out
            have g0 := G0.out.size
            refine ⟨bq, va, vc, fa, fc, rfl, VN.mk2 (HWb.out.2.2.size) (grownBy_trans G0.out (grownBy_trans g1 (grownBy_trans g2 g3))) vq (by omega) (ov.mono (by omega)) (of.mono (by omega)) (fun k hk => ⟨?_, fun e => ?_⟩) (fun k hk => ?_)⟩
            · have := lv k hk; omega
            · have h1 := lv k hk
              have h2 := lf k e
              omega
            · have := lf k hk; omega
        exact plan_stop
      exact plan_stop
    exact plan_stop
  case rest =>
    obtain ⟨bq, va, vc, fa, fc, rfl, hVN⟩ := hcut
    have d0 := hVN.gr.cell HWb.out.1.1 (by simp)
    have d2 := hVN.gr.cell HWb.out.1.2.1 (by simp)
    have hWC : Below W.heap.size W wc := HWb.out.2.2.grown hVN.gr HWb.out.2.2.size (by simp)
    have HVN := Lib.hid (And.intro hVN hWC)
    clear hVN hWC
    go_wp2_with (at_make; refine wp_make (f := fun x : Value => x) (.slice none 0 0) sInt2 rfl _ rfl _ _ rfl .i64 .i64 _ _ S.vars rfl rfl rfl rfl (by omega) (by unfold maxLen; omega) ?_)
    intro ia ic W3 o3 q3
    have d2' : W3.cell? ⟨bs, 2, none⟩ = some (.int .i64 (S.fields : Int)) := (grownBy_below q3).cell d2 (by simp)
    have H3 := Lib.hid (And.intro o3 q3)
    clear o3 q3 d0 d2
    go_wp2_with (at_make; refine wp_make (f := fun x : Value => x) (.slice none 0 0) sInt2 rfl _ rfl _ _ rfl .i64 .i64 _ _ S.fields rfl rfl rfl rfl (by omega) (by unfold maxLen; omega) ?_)
    intro ja jc W4 o4 q4
    have hPH := PH.start (S := S) H3.out.1 H3.out.2 o4 q4
    have d3 : W4.cell? ⟨bs, 3, none⟩ = some (.slice ca s.cons.length cc) := (grownBy_below q4).cell ((grownBy_below H3.out.2).cell (HVN.out.1.gr.cell HWb.out.1.2.2 (by simp)) (by simp)) (by simp)
    obtain ⟨Bi, hBi⟩ : ∃ Bi, Bi = wc.heap.size := ⟨_, rfl⟩
    rw [← hBi] at hPH
    have HBi := Lib.hid hBi
    have HPH := Lib.hid hPH
    clear hPH o4 q4 d2' hBi H3
    go_wp2_with fail
    clear d3
    go_loopw [8, 9, 34] (fun _ _ x wr => ∃ (k : Nat) (us ws : List Value) (ll ss : List (List Int)), k ≤ s.cons.length ∧ x = .int .i64 k ∧ Hid (PH S Bi k ia ic ja jc us ws ll ss wc wr)) (fun _ _ x _ => s.cons.length - (intOf x).toNat)
    case atStart => exact ⟨0, _, _, _, _, by omega, rfl, HPH.out⟩
    case round =>
      obtain ⟨k, us, ws, ll, ss, hk, rfl, hh⟩ := hrel
      by_cases hlt : k < s.cons.length
      · have hBW : Below W.heap.size W wr := HVN.out.2.trans (hh.out.bel.mono (by rw [HBi.out]; exact HVN.out.2.size))
        obtain ⟨sa, sn, sc, q0, q1, q2, q3, q4, hI, hblk⟩ := HC.out.2.2.2 k hlt
        have hvc := HC.out.2.2.1.cons _ (nth_mem _ _ hlt)
        obtain ⟨c, hcd⟩ : ∃ c, c = (nth s.cons k).C := ⟨_, rfl⟩
        have e0 : (nth s.cons k).k = (c.k : Int) := by rw [hcd]; have := hvc.kind; show _ = ((nth s.cons k).k.toNat : Int); omega
        have e1 : (nth s.cons k).a = (c.a : Int) := by rw [hcd]; have := hvc.a.1; show _ = ((nth s.cons k).a.toNat : Int); omega
        have e2 : (nth s.cons k).b = (c.b : Int) := by rw [hcd]; have := hvc.b.1; show _ = ((nth s.cons k).b.toNat : Int); omega
        have e3 : (nth s.cons k).f = (c.f : Int) := by rw [hcd]; have := hvc.f'; show _ = ((nth s.cons k).f.toNat : Int); omega
        have e4 : (nth s.cons k).s = c.s.map fun x : Nat => (x : Int) := by rw [hcd]; exact (cast_toNat fun x hx => (hvc.s x hx).1).symm
        have hcS : nth S.cons k = c := by rw [HS.out.2.2, nth_map' _ _ _ hlt, hcd]
        have hOkc : c.Ok S := HS.out.2.1 c (by rw [← hcS]; exact nth_mem _ _ (by rw [HS.out.2.2]; simpa using hlt))
        rw [e4] at hI
        obtain ⟨a8, c8, e8, -⟩ := id hI
        simp only [Value.slice.injEq, List.length_map] at e8
        obtain ⟨rfl, rfl, rfl⟩ := e8
        have p0 : wr.cell? ⟨blk ca, ofs ca + k * 5, none⟩ = some (.int .i64 (c.k : Int)) := by rw [hBW.cell (p := ⟨blk ca, ofs ca + k * 5, none⟩) hblk, q0, e0]
        have p1 : wr.cell? ⟨blk ca, ofs ca + k * 5 + 1, none⟩ = some (.int .i64 (c.a : Int)) := by rw [hBW.cell (p := ⟨blk ca, ofs ca + k * 5 + 1, none⟩) hblk, q1, e1]
        have p2 : wr.cell? ⟨blk ca, ofs ca + k * 5 + 2, none⟩ = some (.int .i64 (c.b : Int)) := by rw [hBW.cell (p := ⟨blk ca, ofs ca + k * 5 + 2, none⟩) hblk, q2, e2]
        have p3 : wr.cell? ⟨blk ca, ofs ca + k * 5 + 3, none⟩ = some (.int .i64 (c.f : Int)) := by rw [hBW.cell (p := ⟨blk ca, ofs ca + k * 5 + 3, none⟩) hblk, q3, e3]
        have p4 : wr.cell? ⟨blk ca, ofs ca + k * 5 + 4, none⟩ = some (.slice sa c.s.length sc) := by rw [hBW.cell (p := ⟨blk ca, ofs ca + k * 5 + 4, none⟩) hblk, q4]
        have H4 := Lib.hid (And.intro hOkc hcS)
        clear hOkc hcS e0 e1 e2 e3 e4 q0 q1 q2 q3 q4 hI hblk hvc hcd hBW
        obtain ⟨ck, c_a, c_b, c_f, c_s⟩ := c
        dsimp only at *
        have hck := H4.out.1.kind
        have hk5 : ck = 1 ∨ ck = 2 ∨ ck = 3 ∨ ck = 4 ∨ ck = 5 := by have : 1 ≤ ck ∧ ck ≤ 5 := hck; omega
        have hbv : c_b < S.vars := H4.out.1.b
        clear hck
        rcases hk5 with rfl | rfl | rfl | rfl | rfl
        · rw [show ((1 : Nat) : Int) = 1 from rfl] at p0
          go_wp2_with fail
          go_roundw
          case rel => exact ⟨k + 1, us, ws, ll, ss, by omega, by go_num, (hh.out.keep (grownBy_alloc _ _)).skip (by rw [H4.out.2])⟩
          case measure => simp [intOf]; omega
        · rw [show ((2 : Nat) : Int) = 2 from rfl] at p0
          have HW := Lib.hid hh.out
          clear hh
          go_wp2_with fail
          refine wp_gen (fun Z => PH S Bi k ia ic ja jc us ws ll ss wc Z ∧ BoxC Z wr.heap.size 2 c_a c_b c_f (.slice sa c_s.length sc)) ⟨HW.out.keep (grownBy_alloc _ _), BoxC.new wr 2 c_a c_b c_f _ _⟩ ?_
          rintro W5 h5
          have hft : ∀ m, Foot (.slice ia S.vars ic) us m → m < wr.heap.size := fun m hm => (HW.out.o1.foot kInt m hm).2
          obtain ⟨bc, hbc⟩ : ∃ bc, bc = wr.heap.size := ⟨_, rfl⟩
          rw [← hbc] at h5 hft ⊢
          clear hbc p0 p1 p2 p3 p4
          have hjl : c_b < ll.length := by rw [HW.out.l1]; exact hbv
          have hjv : c_b < us.length := by rw [HW.out.o1.len]; exact hjl
          obtain ⟨ra, rc, hra⟩ := (h5.1.o1.inn c_b hjl).shape (n := (nth ll c_b).length) rfl
          obtain ⟨a3, c3, he3, -, i3, d3, -⟩ := h5.1.o1.out.lst.out1 sInt2
          simp only [Value.slice.injEq] at he3
          obtain ⟨rfl, hvl, rfl⟩ := he3
          have f3 := h5.1.o1.out.frozen (by omega) (ofs ia + c_b)
          have d4 := d3 c_b hjv
          rw [hra] at d4
          obtain ⟨n, hn⟩ : ∃ n, n = (nth ll c_b).length := ⟨_, rfl⟩
          rw [← hn] at d4 hra
          have hnb : n ≤ 1000 := by rw [hn, HW.out.m1 c_b hbv, List.length_map]; exact Nat.le_trans (intoL_len S c_b k) (by omega)
          rw [← hvl] at i3
          have q2 := h5.2.2.2.1
          have hbn : (Value.slice ia S.vars ic).ownBlock = some (blk ia) := own_block h5.1.o1.out hjv
          have n1 : some bc ≠ (nth us c_b).ownBlock := fun e => by have := hft bc (.inr ⟨c_b, hjv, e.symm⟩); omega
          have n2 : some (blk ia) ≠ (nth us c_b).ownBlock := fun e => h5.1.o1.apart c_b hjl _ e.symm hbn
          have hsz5 : Bi ≤ W5.heap.size := Nat.le_trans h5.1.sz h5.1.bel.size
          have H5 := Lib.hid (And.intro h5 (And.intro hra (And.intro hn (And.intro n1 n2))))
          clear h5 hft hra hn d3 hvl hjl hjv n1 n2 hbn
          refine wp_region_mix [0, 1, 2, 3, 4, 5, 6, 7, 8] [9, 10, 11, 12] (fun w' => w'.cell? ⟨bc, 2, none⟩ = some (.int .i64 (c_b : Int)) ∧ w'.cell? ⟨blk ia, ofs ia + c_b, none⟩ = some (.slice ra n rc)) (by kernel_rfl) (by kernel_rfl) (by kernel_rfl) ⟨(grownBy_drew0 _).cell q2 (by simp), (grownBy_drew0 _).cell d4 (by simp)⟩ ?_
          have g5 := grownBy_drew0 W5
          have s5 := And.intro (g5.cell q2 (by simp)) (g5.cell d4 (by simp))
          have z5 : Bi ≤ W5.drew.heap.size := hsz5
          generalize W5.drew = V5 at *
          have S5 := Lib.hid (And.intro s5 g5)
          clear s5 g5 q2 d4 f3
          repeat (
            refine wpHeads_cons (v := ?_) rfl (Or.inl ⟨by rfl, ?_⟩) ?_
            rotate_left
            · (intro W hW; obtain ⟨q1, q2⟩ := hW; go_simp; try with_reducible rfl)
            simp only [Act.put, List.setIfInBounds_toArray])
          refine wpHeads_nil ?_
          refine wpTails_cons rfl ?_
          go_wp2_with fail
          refine tail_mk ⟨(grownBy_alloc _ _).cell S5.out.1.1 (by simp), (grownBy_alloc _ _).cell S5.out.1.2 (by simp)⟩ ?_
          refine wpTails_cons rfl ?_
          have hO9 : OwnI (V5.alloc (.cells #[.int .i64 (k : Int)] 3)) Bi 3 (.slice ra n rc) (nth ll c_b) := by
            have h := (H5.out.1.1.keep (grownBy_trans S5.out.2 (grownBy_alloc _ (.cells #[.int .i64 (k : Int)] 3)))).o1.inn c_b (by rw [HW.out.l1]; exact hbv)
            rw [H5.out.2.1] at h
            exact h
          refine wp_appendS (f := Value.int .i64) sIntD rfl rfl _ _ rfl Bi (.slice ra n rc) (nth ll c_b) rfl (.slice (some ⟨V5.heap.size, 0, none⟩) 1 1) [(k : Int)] rfl hO9 (src_one _ (cell_at1 rfl)) (by simp [Value.oneCell']) (by rw [← H5.out.2.2.1]; simp; omega) (by omega) (by simp; omega) ?_
          intro v9 W9 o9 g9 l9
          clear hO9
          obtain ⟨s9, c9, rfl⟩ := o9.shape (n := n + 1) (by simp [H5.out.2.2.1])
          have gA : W5.grownBy (V5.alloc (.cells #[.int .i64 (k : Int)] 3)) none := grownBy_trans S5.out.2 (grownBy_alloc _ _)
          rw [← H5.out.2.1] at g9 l9
          have s9' := And.intro (g9.cell ((grownBy_alloc V5 (.cells #[.int .i64 (k : Int)] 3)).cell S5.out.1.1 (by simp)) H5.out.2.2.2.1) (g9.cell ((grownBy_alloc V5 (.cells #[.int .i64 (k : Int)] 3)).cell S5.out.1.2 (by simp)) H5.out.2.2.2.2)
          have f9 : W9.frozen? ⟨blk ia, ofs ia + c_b, none⟩ = false := by
            have hkp := H5.out.1.1.keep gA
            have hjl : c_b < ll.length := by rw [HW.out.l1]; exact hbv
            exact (hkp.o1.outAt hjl g9).frozen (by rw [HW.out.o1.len]; omega) _
          have hP := H5.out.1.1.into (b := c_b) (by rw [H4.out.2]; exact .inl rfl) (by rw [H4.out.2]) hbv gA o9 g9 l9
          have H9 := Lib.hid (And.intro hP s9')
          clear o9 g9 l9 hP gA
          refine tail_mk H9.out.2 ?_
          refine wpTails_cons rfl ?_
          go_wp2_with fail
          refine tail_mk H9.out.2 ?_
          refine wpTails_one rfl ?_
          have c9' := H9.out.2.2
          clear s9'
          go_wp2_with fail
          refine thenQ_mk ?_
          clear c9' f9
          go_wp2_with fail
          go_roundw
          case rel => exact ⟨k + 1, _, _, _, _, by omega, by go_num, H9.out.1⟩
          case measure => simp [intOf]; omega
        · rw [show ((3 : Nat) : Int) = 3 from rfl] at p0
          have HW := Lib.hid hh.out
          clear hh
          go_wp2_with fail
          refine wp_gen (fun Z => PH S Bi k ia ic ja jc us ws ll ss wc Z ∧ BoxC Z wr.heap.size 3 c_a c_b c_f (.slice sa c_s.length sc)) ⟨HW.out.keep (grownBy_alloc _ _), BoxC.new wr 3 c_a c_b c_f _ _⟩ ?_
          rintro W5 h5
          have hft : ∀ m, Foot (.slice ia S.vars ic) us m → m < wr.heap.size := fun m hm => (HW.out.o1.foot kInt m hm).2
          obtain ⟨bc, hbc⟩ : ∃ bc, bc = wr.heap.size := ⟨_, rfl⟩
          rw [← hbc] at h5 hft ⊢
          clear hbc p0 p1 p2 p3 p4
          have hjl : c_b < ll.length := by rw [HW.out.l1]; exact hbv
          have hjv : c_b < us.length := by rw [HW.out.o1.len]; exact hjl
          obtain ⟨ra, rc, hra⟩ := (h5.1.o1.inn c_b hjl).shape (n := (nth ll c_b).length) rfl
          obtain ⟨a3, c3, he3, -, i3, d3, -⟩ := h5.1.o1.out.lst.out1 sInt2
          simp only [Value.slice.injEq] at he3
          obtain ⟨rfl, hvl, rfl⟩ := he3
          have f3 := h5.1.o1.out.frozen (by omega) (ofs ia + c_b)
          have d4 := d3 c_b hjv
          rw [hra] at d4
          obtain ⟨n, hn⟩ : ∃ n, n = (nth ll c_b).length := ⟨_, rfl⟩
          rw [← hn] at d4 hra
          have hnb : n ≤ 1000 := by rw [hn, HW.out.m1 c_b hbv, List.length_map]; exact Nat.le_trans (intoL_len S c_b k) (by omega)
          rw [← hvl] at i3
          have q2 := h5.2.2.2.1
          have hbn : (Value.slice ia S.vars ic).ownBlock = some (blk ia) := own_block h5.1.o1.out hjv
          have n1 : some bc ≠ (nth us c_b).ownBlock := fun e => by have := hft bc (.inr ⟨c_b, hjv, e.symm⟩); omega
          have n2 : some (blk ia) ≠ (nth us c_b).ownBlock := fun e => h5.1.o1.apart c_b hjl _ e.symm hbn
          have hsz5 : Bi ≤ W5.heap.size := Nat.le_trans h5.1.sz h5.1.bel.size
          have H5 := Lib.hid (And.intro h5 (And.intro hra (And.intro hn (And.intro n1 n2))))
          clear h5 hft hra hn d3 hvl hjl hjv n1 n2 hbn
          refine wp_region_mix [0, 1, 2, 3, 4, 5, 6, 7, 8] [9, 10, 11, 12] (fun w' => w'.cell? ⟨bc, 2, none⟩ = some (.int .i64 (c_b : Int)) ∧ w'.cell? ⟨blk ia, ofs ia + c_b, none⟩ = some (.slice ra n rc)) (by kernel_rfl) (by kernel_rfl) (by kernel_rfl) ⟨(grownBy_drew0 _).cell q2 (by simp), (grownBy_drew0 _).cell d4 (by simp)⟩ ?_
          have g5 := grownBy_drew0 W5
          have s5 := And.intro (g5.cell q2 (by simp)) (g5.cell d4 (by simp))
          have z5 : Bi ≤ W5.drew.heap.size := hsz5
          generalize W5.drew = V5 at *
          have S5 := Lib.hid (And.intro s5 g5)
          clear s5 g5 q2 d4 f3
          repeat (
            refine wpHeads_cons (v := ?_) rfl (Or.inl ⟨by rfl, ?_⟩) ?_
            rotate_left
            · (intro W hW; obtain ⟨q1, q2⟩ := hW; go_simp; try with_reducible rfl)
            simp only [Act.put, List.setIfInBounds_toArray])
          refine wpHeads_nil ?_
          refine wpTails_cons rfl ?_
          go_wp2_with fail
          refine tail_mk ⟨(grownBy_alloc _ _).cell S5.out.1.1 (by simp), (grownBy_alloc _ _).cell S5.out.1.2 (by simp)⟩ ?_
          refine wpTails_cons rfl ?_
          have hO9 : OwnI (V5.alloc (.cells #[.int .i64 (k : Int)] 3)) Bi 3 (.slice ra n rc) (nth ll c_b) := by
            have h := (H5.out.1.1.keep (grownBy_trans S5.out.2 (grownBy_alloc _ (.cells #[.int .i64 (k : Int)] 3)))).o1.inn c_b (by rw [HW.out.l1]; exact hbv)
            rw [H5.out.2.1] at h
            exact h
          refine wp_appendS (f := Value.int .i64) sIntD rfl rfl _ _ rfl Bi (.slice ra n rc) (nth ll c_b) rfl (.slice (some ⟨V5.heap.size, 0, none⟩) 1 1) [(k : Int)] rfl hO9 (src_one _ (cell_at1 rfl)) (by simp [Value.oneCell']) (by rw [← H5.out.2.2.1]; simp; omega) (by omega) (by simp; omega) ?_
          intro v9 W9 o9 g9 l9
          clear hO9
          obtain ⟨s9, c9, rfl⟩ := o9.shape (n := n + 1) (by simp [H5.out.2.2.1])
          have gA : W5.grownBy (V5.alloc (.cells #[.int .i64 (k : Int)] 3)) none := grownBy_trans S5.out.2 (grownBy_alloc _ _)
          rw [← H5.out.2.1] at g9 l9
          have s9' := And.intro (g9.cell ((grownBy_alloc V5 (.cells #[.int .i64 (k : Int)] 3)).cell S5.out.1.1 (by simp)) H5.out.2.2.2.1) (g9.cell ((grownBy_alloc V5 (.cells #[.int .i64 (k : Int)] 3)).cell S5.out.1.2 (by simp)) H5.out.2.2.2.2)
          have f9 : W9.frozen? ⟨blk ia, ofs ia + c_b, none⟩ = false := by
            have hkp := H5.out.1.1.keep gA
            have hjl : c_b < ll.length := by rw [HW.out.l1]; exact hbv
            exact (hkp.o1.outAt hjl g9).frozen (by rw [HW.out.o1.len]; omega) _
          have hP := H5.out.1.1.into (b := c_b) (by rw [H4.out.2]; exact .inr (.inl rfl)) (by rw [H4.out.2]) hbv gA o9 g9 l9
          have H9 := Lib.hid (And.intro hP s9')
          clear o9 g9 l9 hP gA
          refine tail_mk H9.out.2 ?_
          refine wpTails_cons rfl ?_
          go_wp2_with fail
          refine tail_mk H9.out.2 ?_
          refine wpTails_one rfl ?_
          have c9' := H9.out.2.2
          clear s9'
          go_wp2_with fail
          refine thenQ_mk ?_
          clear c9' f9
          go_wp2_with fail
          go_roundw
          case rel => exact ⟨k + 1, _, _, _, _, by omega, by go_num, H9.out.1⟩
          case measure => simp [intOf]; omega
        · rw [show ((4 : Nat) : Int) = 4 from rfl] at p0
          have hfv : c_f < S.fields := H4.out.1.f (.inr rfl)
          have HW := Lib.hid hh.out
          clear hh
          go_wp2_with fail
          refine wp_gen (fun Z => PH S Bi k ia ic ja jc us ws ll ss wc Z ∧ BoxC Z wr.heap.size 4 c_a c_b c_f (.slice sa c_s.length sc)) ⟨HW.out.keep (grownBy_alloc _ _), BoxC.new wr 4 c_a c_b c_f _ _⟩ ?_
          rintro W5 h5
          have hft : ∀ m, Foot (.slice ja S.fields jc) ws m → m < wr.heap.size := fun m hm => (HW.out.o2.foot kInt m hm).2
          obtain ⟨bc, hbc⟩ : ∃ bc, bc = wr.heap.size := ⟨_, rfl⟩
          rw [← hbc] at h5 hft ⊢
          clear hbc p0 p1 p2 p3 p4
          have hjl : c_f < ss.length := by rw [HW.out.l2]; exact hfv
          have hjv : c_f < ws.length := by rw [HW.out.o2.len]; exact hjl
          obtain ⟨ra, rc, hra⟩ := (h5.1.o2.inn c_f hjl).shape (n := (nth ss c_f).length) rfl
          obtain ⟨a3, c3, he3, -, i3, d3, -⟩ := h5.1.o2.out.lst.out1 sInt2
          simp only [Value.slice.injEq] at he3
          obtain ⟨rfl, hvl, rfl⟩ := he3
          have f3 := h5.1.o2.out.frozen (by omega) (ofs ja + c_f)
          have d4 := d3 c_f hjv
          rw [hra] at d4
          obtain ⟨n, hn⟩ : ∃ n, n = (nth ss c_f).length := ⟨_, rfl⟩
          rw [← hn] at d4 hra
          have hnb : n ≤ 1000 := by rw [hn, HW.out.m2 c_f hfv, List.length_map]; exact Nat.le_trans (storL_len S c_f k) (by omega)
          rw [← hvl] at i3
          have q2 := h5.2.2.2.2.1
          have hbn : (Value.slice ja S.fields jc).ownBlock = some (blk ja) := own_block h5.1.o2.out hjv
          have n1 : some bc ≠ (nth ws c_f).ownBlock := fun e => by have := hft bc (.inr ⟨c_f, hjv, e.symm⟩); omega
          have n2 : some (blk ja) ≠ (nth ws c_f).ownBlock := fun e => h5.1.o2.apart c_f hjl _ e.symm hbn
          have hsz5 : Bi ≤ W5.heap.size := Nat.le_trans h5.1.sz h5.1.bel.size
          have H5 := Lib.hid (And.intro h5 (And.intro hra (And.intro hn (And.intro n1 n2))))
          clear h5 hft hra hn d3 hvl hjl hjv n1 n2 hbn
          refine wp_region_mix [0, 1, 2, 3, 4, 5, 6, 7, 8] [9, 10, 11, 12] (fun w' => w'.cell? ⟨bc, 3, none⟩ = some (.int .i64 (c_f : Int)) ∧ w'.cell? ⟨blk ja, ofs ja + c_f, none⟩ = some (.slice ra n rc)) (by kernel_rfl) (by kernel_rfl) (by kernel_rfl) ⟨(grownBy_drew0 _).cell q2 (by simp), (grownBy_drew0 _).cell d4 (by simp)⟩ ?_
          have g5 := grownBy_drew0 W5
          have s5 := And.intro (g5.cell q2 (by simp)) (g5.cell d4 (by simp))
          have z5 : Bi ≤ W5.drew.heap.size := hsz5
          generalize W5.drew = V5 at *
          have S5 := Lib.hid (And.intro s5 g5)
          clear s5 g5 q2 d4 f3
          repeat (
            refine wpHeads_cons (v := ?_) rfl (Or.inl ⟨by rfl, ?_⟩) ?_
            rotate_left
            · (intro W hW; obtain ⟨q1, q2⟩ := hW; go_simp; try with_reducible rfl)
            simp only [Act.put, List.setIfInBounds_toArray])
          refine wpHeads_nil ?_
          refine wpTails_cons rfl ?_
          go_wp2_with fail
          refine tail_mk ⟨(grownBy_alloc _ _).cell S5.out.1.1 (by simp), (grownBy_alloc _ _).cell S5.out.1.2 (by simp)⟩ ?_
          refine wpTails_cons rfl ?_
          have hO9 : OwnI (V5.alloc (.cells #[.int .i64 (k : Int)] 3)) Bi 3 (.slice ra n rc) (nth ss c_f) := by
            have h := (H5.out.1.1.keep (grownBy_trans S5.out.2 (grownBy_alloc _ (.cells #[.int .i64 (k : Int)] 3)))).o2.inn c_f (by rw [HW.out.l2]; exact hfv)
            rw [H5.out.2.1] at h
            exact h
          refine wp_appendS (f := Value.int .i64) sIntD rfl rfl _ _ rfl Bi (.slice ra n rc) (nth ss c_f) rfl (.slice (some ⟨V5.heap.size, 0, none⟩) 1 1) [(k : Int)] rfl hO9 (src_one _ (cell_at1 rfl)) (by simp [Value.oneCell']) (by rw [← H5.out.2.2.1]; simp; omega) (by omega) (by simp; omega) ?_
          intro v9 W9 o9 g9 l9
          clear hO9
          obtain ⟨s9, c9, rfl⟩ := o9.shape (n := n + 1) (by simp [H5.out.2.2.1])
          have gA : W5.grownBy (V5.alloc (.cells #[.int .i64 (k : Int)] 3)) none := grownBy_trans S5.out.2 (grownBy_alloc _ _)
          rw [← H5.out.2.1] at g9 l9
          have s9' := And.intro (g9.cell ((grownBy_alloc V5 (.cells #[.int .i64 (k : Int)] 3)).cell S5.out.1.1 (by simp)) H5.out.2.2.2.1) (g9.cell ((grownBy_alloc V5 (.cells #[.int .i64 (k : Int)] 3)).cell S5.out.1.2 (by simp)) H5.out.2.2.2.2)
          have f9 : W9.frozen? ⟨blk ja, ofs ja + c_f, none⟩ = false := by
            have hkp := H5.out.1.1.keep gA
            have hjl : c_f < ss.length := by rw [HW.out.l2]; exact hfv
            exact (hkp.o2.outAt hjl g9).frozen (by rw [HW.out.o2.len]; omega) _
          have hP := H5.out.1.1.stor (f := c_f) (by rw [H4.out.2]) (by rw [H4.out.2]) hfv gA o9 g9 l9
          have H9 := Lib.hid (And.intro hP s9')
          clear o9 g9 l9 hP gA
          refine tail_mk H9.out.2 ?_
          refine wpTails_cons rfl ?_
          go_wp2_with fail
          refine tail_mk H9.out.2 ?_
          refine wpTails_one rfl ?_
          have c9' := H9.out.2.2
          clear s9'
          go_wp2_with fail
          refine thenQ_mk ?_
          clear c9' f9
          go_wp2_with fail
          go_roundw
          case rel => exact ⟨k + 1, _, _, _, _, by omega, by go_num, H9.out.1⟩
          case measure => simp [intOf]; omega
        · rw [show ((5 : Nat) : Int) = 5 from rfl] at p0
          have HW := Lib.hid hh.out
          clear hh
          go_wp2_with fail
          refine wp_gen (fun Z => PH S Bi k ia ic ja jc us ws ll ss wc Z ∧ BoxC Z wr.heap.size 5 c_a c_b c_f (.slice sa c_s.length sc)) ⟨HW.out.keep (grownBy_alloc _ _), BoxC.new wr 5 c_a c_b c_f _ _⟩ ?_
          rintro W5 h5
          have hft : ∀ m, Foot (.slice ia S.vars ic) us m → m < wr.heap.size := fun m hm => (HW.out.o1.foot kInt m hm).2
          obtain ⟨bc, hbc⟩ : ∃ bc, bc = wr.heap.size := ⟨_, rfl⟩
          rw [← hbc] at h5 hft ⊢
          clear hbc p0 p1 p2 p3 p4
          have hjl : c_b < ll.length := by rw [HW.out.l1]; exact hbv
          have hjv : c_b < us.length := by rw [HW.out.o1.len]; exact hjl
          obtain ⟨ra, rc, hra⟩ := (h5.1.o1.inn c_b hjl).shape (n := (nth ll c_b).length) rfl
          obtain ⟨a3, c3, he3, -, i3, d3, -⟩ := h5.1.o1.out.lst.out1 sInt2
          simp only [Value.slice.injEq] at he3
          obtain ⟨rfl, hvl, rfl⟩ := he3
          have f3 := h5.1.o1.out.frozen (by omega) (ofs ia + c_b)
          have d4 := d3 c_b hjv
          rw [hra] at d4
          obtain ⟨n, hn⟩ : ∃ n, n = (nth ll c_b).length := ⟨_, rfl⟩
          rw [← hn] at d4 hra
          have hnb : n ≤ 1000 := by rw [hn, HW.out.m1 c_b hbv, List.length_map]; exact Nat.le_trans (intoL_len S c_b k) (by omega)
          rw [← hvl] at i3
          have q2 := h5.2.2.2.1
          have hbn : (Value.slice ia S.vars ic).ownBlock = some (blk ia) := own_block h5.1.o1.out hjv
          have n1 : some bc ≠ (nth us c_b).ownBlock := fun e => by have := hft bc (.inr ⟨c_b, hjv, e.symm⟩); omega
          have n2 : some (blk ia) ≠ (nth us c_b).ownBlock := fun e => h5.1.o1.apart c_b hjl _ e.symm hbn
          have hsz5 : Bi ≤ W5.heap.size := Nat.le_trans h5.1.sz h5.1.bel.size
          have H5 := Lib.hid (And.intro h5 (And.intro hra (And.intro hn (And.intro n1 n2))))
          clear h5 hft hra hn d3 hvl hjl hjv n1 n2 hbn
          refine wp_region_mix [0, 1, 2, 3, 4, 5, 6, 7, 8] [9, 10, 11, 12] (fun w' => w'.cell? ⟨bc, 2, none⟩ = some (.int .i64 (c_b : Int)) ∧ w'.cell? ⟨blk ia, ofs ia + c_b, none⟩ = some (.slice ra n rc)) (by kernel_rfl) (by kernel_rfl) (by kernel_rfl) ⟨(grownBy_drew0 _).cell q2 (by simp), (grownBy_drew0 _).cell d4 (by simp)⟩ ?_
          have g5 := grownBy_drew0 W5
          have s5 := And.intro (g5.cell q2 (by simp)) (g5.cell d4 (by simp))
          have z5 : Bi ≤ W5.drew.heap.size := hsz5
          generalize W5.drew = V5 at *
          have S5 := Lib.hid (And.intro s5 g5)
          clear s5 g5 q2 d4 f3
          repeat (
            refine wpHeads_cons (v := ?_) rfl (Or.inl ⟨by rfl, ?_⟩) ?_
            rotate_left
            · (intro W hW; obtain ⟨q1, q2⟩ := hW; go_simp; try with_reducible rfl)
            simp only [Act.put, List.setIfInBounds_toArray])
          refine wpHeads_nil ?_
          refine wpTails_cons rfl ?_
          go_wp2_with fail
          refine tail_mk ⟨(grownBy_alloc _ _).cell S5.out.1.1 (by simp), (grownBy_alloc _ _).cell S5.out.1.2 (by simp)⟩ ?_
          refine wpTails_cons rfl ?_
          have hO9 : OwnI (V5.alloc (.cells #[.int .i64 (k : Int)] 3)) Bi 3 (.slice ra n rc) (nth ll c_b) := by
            have h := (H5.out.1.1.keep (grownBy_trans S5.out.2 (grownBy_alloc _ (.cells #[.int .i64 (k : Int)] 3)))).o1.inn c_b (by rw [HW.out.l1]; exact hbv)
            rw [H5.out.2.1] at h
            exact h
          refine wp_appendS (f := Value.int .i64) sIntD rfl rfl _ _ rfl Bi (.slice ra n rc) (nth ll c_b) rfl (.slice (some ⟨V5.heap.size, 0, none⟩) 1 1) [(k : Int)] rfl hO9 (src_one _ (cell_at1 rfl)) (by simp [Value.oneCell']) (by rw [← H5.out.2.2.1]; simp; omega) (by omega) (by simp; omega) ?_
          intro v9 W9 o9 g9 l9
          clear hO9
          obtain ⟨s9, c9, rfl⟩ := o9.shape (n := n + 1) (by simp [H5.out.2.2.1])
          have gA : W5.grownBy (V5.alloc (.cells #[.int .i64 (k : Int)] 3)) none := grownBy_trans S5.out.2 (grownBy_alloc _ _)
          rw [← H5.out.2.1] at g9 l9
          have s9' := And.intro (g9.cell ((grownBy_alloc V5 (.cells #[.int .i64 (k : Int)] 3)).cell S5.out.1.1 (by simp)) H5.out.2.2.2.1) (g9.cell ((grownBy_alloc V5 (.cells #[.int .i64 (k : Int)] 3)).cell S5.out.1.2 (by simp)) H5.out.2.2.2.2)
          have f9 : W9.frozen? ⟨blk ia, ofs ia + c_b, none⟩ = false := by
            have hkp := H5.out.1.1.keep gA
            have hjl : c_b < ll.length := by rw [HW.out.l1]; exact hbv
            exact (hkp.o1.outAt hjl g9).frozen (by rw [HW.out.o1.len]; omega) _
          have hP := H5.out.1.1.into (b := c_b) (by rw [H4.out.2]; exact .inr (.inr rfl)) (by rw [H4.out.2]) hbv gA o9 g9 l9
          have H9 := Lib.hid (And.intro hP s9')
          clear o9 g9 l9 hP gA
          refine tail_mk H9.out.2 ?_
          refine wpTails_cons rfl ?_
          go_wp2_with fail
          refine tail_mk H9.out.2 ?_
          refine wpTails_one rfl ?_
          have c9' := H9.out.2.2
          clear s9'
          go_wp2_with fail
          refine thenQ_mk ?_
          clear c9' f9
          go_wp2_with fail
          go_roundw
          case rel => exact ⟨k + 1, _, _, _, _, by omega, by go_num, H9.out.1⟩
          case measure => simp [intOf]; omega
      · obtain rfl : k = s.cons.length := by omega
        have HP := Lib.hid hh.out
        have lbs : bs < Wb.heap.size := World.block_lt_of_cell? Wb _ HWb.out.1.1
        have lbr : br < Wb.heap.size := (Array.getElem?_eq_some_iff.1 HWb.out.2.1).1
        have hst := RDI.start (W := W) (br := br) HVN.out.1 HP.out HBi.out rfl lbs lbr HWb.out.2.1 HVN.out.2 (HVN.out.1.gr.cell HWb.out.1.2.2 (by simp))
        have hdm := DM.start HVN.out.1 (by have := HP.out.bel; rw [HBi.out] at this; exact this)
        have H6 := Lib.hid (And.intro hdm hst)
        clear hh hlt hk HPH lbs lbr hst hdm
        go_wp2_with fail
        refine calls_genD (fun Z => DM S W.heap.size bq wr.heap.size (wr.heap.size + 1) va vc fa fc none 0 (List.replicate S.vars false) (List.replicate S.fields false) [] ((List.replicate S.vars false).count true) Z ∧ RDI S bs br (.slice ca s.cons.length cc) ia ic ja jc us ws ll ss W Z ∧ wr.heap.size + 1 ≤ Z.heap.size) ⟨H6.out.1, H6.out.2.1, by simp⟩ ?_
        rintro Z6 h6
        have hfr := H6.out.2.2
        obtain ⟨bt, hbt⟩ : ∃ bt, bt = wr.heap.size := ⟨_, rfl⟩
        obtain ⟨Bt, hBt⟩ : ∃ Bt, Bt = wr.heap.size + 1 := ⟨_, rfl⟩
        rw [← hBt, ← hbt] at h6 hfr
        rw [← hbt]
        clear hbt hBt H6
        have HFR := Lib.hid hfr
        clear hfr
        refine (add_any h6.1 v hvl (by omega) (by simp) h6.2.2).mono ?_
        rintro e Z7 ⟨⟨v7, rfl⟩, ta, tc, hD7, hK7, -⟩
        have ea : addV (List.replicate S.vars false) v = (List.replicate S.vars false).set v true := by unfold addV; rw [if_neg (by rw [nth_false]; simp)]
        have et : addT (List.replicate S.vars false) [] v = [v] := by unfold addT; rw [if_neg (by rw [nth_false]; simp)]; rfl
        rw [ea, et] at hD7
        have hI7 := DInv.start (S := S) hvl
        have hR7 := h6.2.1.kd hK7 HFR.out
        have hz7 : Bt ≤ Z7.heap.size := Nat.le_trans h6.2.2 hK7.size
        have hg7 : gasD ((List.replicate S.vars false).set v true) [v] ≤ 81 := by
          have : gasD ((List.replicate S.vars false).set v true) [v] = 2 * (S.vars - ((List.replicate S.vars false).set v true).count true) + 1 := by simp [gasD]
          omega
        generalize (List.replicate S.vars false).set v true = vl0 at *
        generalize List.replicate S.fields false = fl0 at *
        have H7 := Lib.hid (And.intro hD7 (And.intro hI7 (And.intro hR7 hz7)))
        clear hD7 hK7 hI7 hR7 hz7 ea et h6
        go_wp2_with fail
        go_loopg [12, 14, 15, 17] (gasD vl0 [v]) (fun g _ _ _ _ wr => ∃ (ta : Option Addr) (tc : Nat) (vl fl : List Bool) (todo : List Nat), g = gasD vl todo ∧ gasD vl todo ≤ 81 ∧ Hid (DM S W.heap.size bq bt Bt va vc fa fc ta tc vl fl todo (vl.count true) wr ∧ DInv S v vl fl todo (fun _ => False) (fun _ => False) ∧ RDI S bs br (.slice ca s.cons.length cc) ia ic ja jc us ws ll ss W wr ∧ Bt ≤ wr.heap.size))
        case atStart => exact ⟨ta, tc, vl0, fl0, [v], rfl, hg7, H7.out⟩
        case round =>
          clear H7 hg7
          obtain ⟨ta, tc, vl, fl, todo, rfl, hg, hh⟩ := hrel
          rcases nil_or_snoc todo with rfl | ⟨t, b, rfl⟩
          · have t0 := hh.out.1.t0
            have q0 := hh.out.1.q0
            have q1 := hh.out.1.q1
            have q2 := hh.out.1.q2
            have hvq : wr.heap[br]? = some (.cells #[.slice none 0 0, .slice none 0 0, .int .i64 0] 51) := hh.out.2.2.1.vq
            have w0 : wr.cell? ⟨br, 0, none⟩ = some (.slice none 0 0) := by simp [World.cell?, hvq]
            have w1 : wr.cell? ⟨br, 1, none⟩ = some (.slice none 0 0) := by simp [World.cell?, hvq]
            have w2 : wr.cell? ⟨br, 2, none⟩ = some (.int .i64 0) := by simp [World.cell?, hvq]
            have w3 : wr.frozen? ⟨br, 0, none⟩ = false := by simp [World.frozen?, hvq]
            have w4 : wr.frozen? ⟨br, 1, none⟩ = false := by simp [World.frozen?, hvq]
            have w5 : wr.frozen? ⟨br, 2, none⟩ = false := by simp [World.frozen?, hvq]
            have HH := Lib.hid hh.out
            obtain ⟨cn, hcn⟩ : ∃ n, n = vl.count true := ⟨_, rfl⟩
            rw [← hcn] at q2
            have HCN := Lib.hid hcn
            clear hh hvq hcn
            go_wp2_with fail
            refine bodyPost_ret (v := .agg #[.slice va S.vars vc, .slice fa S.fields fc, .int .i64 (cn : Int)]) (by rw [results_cell1 rfl]; go_simp; try rfl) rfl ?_
            have gf := grownBy_setCell3 wr br (.slice va S.vars vc) (.slice fa S.fields fc) (.int .i64 (cn : Int))
            obtain ⟨f1, f2⟩ := HH.out.2.1.fin
            have nb := (HFR.out br (.inr (.inr (.inr (.inr rfl))))).2
            refine ⟨va, vc, fa, fc, vl, fl, by rw [HCN.out], (HH.out.1.ov.grown gf (.inr fun e => nb (.inr (.inr (.inl e))))).lst, (HH.out.1.of.grown gf (.inr fun e => nb (.inr (.inr (.inr e))))).lst, HH.out.1.lv, HH.out.1.lf, f1, f2, ?_⟩
            have hbb := HBB.out
            have hle : W.heap.size ≤ br := by omega
            exact ((HH.out.2.2.1.bel.setCell (show W.heap.size ≤ (⟨br, 0, none⟩ : Addr).block from hle) _).setCell (show W.heap.size ≤ (⟨br, 1, none⟩ : Addr).block from hle) _).setCell (show W.heap.size ≤ (⟨br, 2, none⟩ : Addr).block from hle) _
          · have hlen : (t ++ [b]).length = t.length + 1 := by simp
            have hdm := hh.out.1
            have hvb : nth vl b = true := hh.out.2.1.td b (by simp)
            have hbS : b < S.vars := (hh.out.2.1.sv b hvb).lt HS.out.2.1 hvl
            obtain ⟨a9, c9, he9, -, i9, d9, -⟩ := hdm.ot.lst.out1 sIntD
            simp only [Value.slice.injEq, List.length_map] at he9
            obtain ⟨rfl, -, rfl⟩ := he9
            have t0 := hdm.t0
            have ft := hdm.ft 0
            have d8 := d9 t.length (by simp)
            rw [nth_map' _ _ _ (by simp), nth_append, if_neg (by omega), Nat.sub_self] at d8
            have d8' : wr.cell? ⟨blk ta, ofs ta + t.length, none⟩ = some (.int .i64 (b : Int)) := d8
            obtain ⟨ta2, tc2, hcut, hoc⟩ := Own.cutOwn sIntD hdm.ot t.length (by simp)
            have htk : ((t ++ [b]).map fun x : Nat => (x : Int)).take t.length = t.map fun x : Nat => (x : Int) := by rw [← List.map_take]; simp
            rw [htk] at hoc
            obtain ⟨-, -, hd2⟩ := hdm.setT (t2 := t) (grownBy_refl wr _) hoc
            simp only [List.length_map] at i9
            rw [hlen] at t0 hcut i9
            have hgb : t.length ≤ 81 := by have h1 : gasD vl (t ++ [b]) = 2 * (vl.length - vl.count true) + (t.length + 1) := by simp [gasD]
                                           omega
            obtain ⟨n, hn⟩ : ∃ n, n = t.length := ⟨_, rfl⟩
            rw [← hn] at t0 hcut i9 d8' hgb hd2
            have hR2 : RDI S bs br (.slice ca s.cons.length cc) ia ic ja jc us ws ll ss W (wr.setCell ⟨bt, 0, none⟩ (.slice ta2 n tc2)) := hh.out.2.2.1.kd (KD.grown (grownBy_setCell _ _ _) (fun k e => by simp at e; exact .inl (.inr (.inl e.symm)))) HFR.out
            obtain ⟨ra, rc, hra, ii1, ii2, hmm, hcs⟩ := grid_rd hR2.g1 HP.out.l1 hbS
            have hrow := (hcs _ hR2.g1).1
            have hI2 := hh.out.2.1.pop
            obtain ⟨m, hm⟩ : ∃ m, m = (nth ll b).length := ⟨_, rfl⟩
            have hml : nth ll b = (intoL S b s.cons.length).map fun x : Nat => (x : Int) := HP.out.m1 b hbS
            rw [← hm] at hrow hmm ii2 hcs
            have hgl : gasD vl t < gasD vl (t ++ [b]) := by simp [gasD]
            have H8 := Lib.hid (And.intro hd2 (And.intro hI2 (And.intro hR2 (And.intro hh.out.2.2.2 (And.intro hvb (And.intro hcs (And.intro hm (And.intro hml hgl))))))))
            have ic9 := i9 .i64 (n : Int) (by omega) (by simp; omega)
            simp only [Int.toNat_natCast] at ic9
            clear hh hdm d9 d8 hoc htk hd2 hI2 hR2 hcs hm hml hlen hra hn hvb hgl i9
            go_wp2_with fail
            refine wp_gen (fun Z => DM S W.heap.size bq bt Bt va vc fa fc ta2 tc2 vl fl t (vl.count true) Z ∧ DInv S v vl fl t (fun y => y = b) (fun _ => False) ∧ RDI S bs br (.slice ca s.cons.length cc) ia ic ja jc us ws ll ss W Z ∧ Bt ≤ Z.heap.size) ⟨H8.out.1, H8.out.2.1, H8.out.2.2.1, by simpa using H8.out.2.2.2.1⟩ ?_
            rintro Z8 h8
            have H9 := Lib.hid h8
            obtain ⟨L, hL⟩ : ∃ L, L = intoL S b s.cons.length := ⟨_, rfl⟩
            have hmL : m = L.length := by rw [H8.out.2.2.2.2.2.2.1, H8.out.2.2.2.2.2.2.2.1, hL, List.length_map]
            have HL := Lib.hid (And.intro hL hmL)
            clear h8 hrow t0 ft d8' hcut ic9 hL hmL
            go_loopw [14, 15, 17, 95] (fun _ _ _ x wr => ∃ (j : Nat) (ta : Option Addr) (tc : Nat) (vl2 fl2 : List Bool) (todo2 : List Nat), j ≤ m ∧ x = .int .i64 j ∧ gasD vl2 todo2 ≤ 81 ∧ Hid (DM S W.heap.size bq bt Bt va vc fa fc ta tc vl2 fl2 todo2 (vl2.count true) wr ∧ DInv S v vl2 fl2 todo2 (fun y => y = b) (fun _ => False) ∧ RDI S bs br (.slice ca s.cons.length cc) ia ic ja jc us ws ll ss W wr ∧ Bt ≤ wr.heap.size ∧ nth vl2 b = true ∧ gasD vl2 todo2 ≤ gasD vl t ∧ ∀ i, i < j → nth vl2 (nth S.cons (nth L i)).a = true ∧ ((nth S.cons (nth L i)).k = 3 → nth fl2 (nth S.cons (nth L i)).f = true))) (fun _ _ _ x _ => m - (intOf x).toNat)
            case atStart => exact ⟨0, ta2, tc2, vl, fl, t, by omega, rfl, (by have := H8.out.2.2.2.2.2.2.2.2; omega), H9.out.1, H9.out.2.1, H9.out.2.2.1, H9.out.2.2.2, H8.out.2.2.2.2.1, Nat.le_refl _, fun i hi => by omega⟩
            case round =>
              obtain ⟨j, ta3, tc3, vl2, fl2, todo2, hj, rfl, hg2, hh⟩ := hrel
              by_cases hlt : j < m
              · have hmem := nth_mem L j (by rw [← HL.out.2]; exact hlt)
                rw [HL.out.1] at hmem
                obtain ⟨hi1, hi2, hi3⟩ := mem_intoL.1 hmem
                rw [← HL.out.1] at hi1 hi2 hi3
                have hc0 : wr.cell? ⟨blk ra, ofs ra + j, none⟩ = some (.int .i64 ((nth L j : Nat) : Int)) := by
                  rw [(H8.out.2.2.2.2.2.1 _ hh.out.2.2.1.g1).2 j hlt, H8.out.2.2.2.2.2.2.2.1, ← HL.out.1, nth_map' _ _ _ (by rw [← HL.out.2]; exact hlt)]
                obtain ⟨i, hi⟩ : ∃ i, i = nth L j := ⟨_, rfl⟩
                rw [← hi] at hc0 hi1 hi2 hi3
                obtain ⟨sa, sc, hcell⟩ := cons_cells HC.out.1 HC.out.2.2.1 hi1
                rw [← HS.out.1] at hcell
                obtain ⟨p0, p1, p2, p3, p4, -⟩ := hcell wr hh.out.2.2.1.bel
                have b3 := hh.out.2.2.1.b3
                have hcm : nth S.cons i ∈ S.cons := nth_mem _ _ (by rw [HS.out.2.2, List.length_map]; exact hi1)
                have hOkc := HS.out.2.1 _ hcm
                have hav : (nth S.cons i).a < S.vars := by have h := hOkc.a; rw [if_neg (by unfold Flw at hi2; omega)] at h; exact h
                have hvis : Vis S v (nth S.cons i).a := .flow hcm hi2 (by rw [hi3]; exact hh.out.2.1.sv b hh.out.2.2.2.2.1)
                obtain ⟨c, hc⟩ : ∃ c, c = nth S.cons i := ⟨_, rfl⟩
                rw [← hc] at p0 p1 p2 p3 p4 hcm hOkc hav hvis hi2 hi3
                have HI := Lib.hid (And.intro hi (And.intro hc (And.intro hcm (And.intro hOkc (And.intro hvis (And.intro hi2 hi3))))))
                clear hi hc hcm hOkc hvis hi2 hi3 hcell hmem
                obtain ⟨ck, c_a, c_b, c_f, c_s⟩ := c
                dsimp only at *
                have htl : todo2.length ≤ 1000000 := by have h1 : gasD vl2 todo2 = 2 * (vl2.length - vl2.count true) + todo2.length := rfl
                                                        omega
                by_cases h3 : ck = 3
                · subst h3
                  rw [show ((3 : Nat) : Int) = 3 from rfl] at p0
                  go_wp2_with fail
                  refine calls_genD (fun Z => DM S W.heap.size bq bt Bt va vc fa fc ta3 tc3 vl2 fl2 todo2 (vl2.count true) Z ∧ RDI S bs br (.slice ca s.cons.length cc) ia ic ja jc us ws ll ss W Z ∧ BoxC Z wr.heap.size 3 c_a c_b c_f (.slice sa c_s.length sc) ∧ Bt ≤ Z.heap.size ∧ wr.heap.size < Z.heap.size) ⟨hh.out.1.keep (grownBy_alloc _ _), hh.out.2.2.1.keep (grownBy_alloc _ _), BoxC.new wr 3 c_a c_b c_f _ _, (by have := hh.out.2.2.2.1; simp; omega), by simp⟩ ?_
                  rintro Z9 h9
                  have hbc0 : Bt ≤ wr.heap.size ∧ (Value.slice ta3 todo2.length tc3).ownBlock ≠ some wr.heap.size := ⟨hh.out.2.2.2.1, fun e => by have := (hh.out.1.ot.lt _ e).2; omega⟩
                  obtain ⟨bc, hbc⟩ : ∃ bc, bc = wr.heap.size := ⟨_, rfl⟩
                  rw [← hbc] at h9 hbc0 ⊢
                  clear hbc p0 p1 p2 p3 p4 b3 hc0
                  refine (add_any h9.1 c_a hav (by omega) htl h9.2.2.2.1).mono ?_
                  rintro e W10 ⟨⟨v10, rfl⟩, ta4, tc4, hD, hK, hF⟩
                  have hbx : BoxC W10 bc 3 c_a c_b c_f (.slice sa c_s.length sc) := h9.2.2.1.same (hF bc h9.2.2.2.2 (fun hw => by have := (h9.1.wr bc hw).2; omega) hbc0.2)
                  have hR := h9.2.1.kd hK HFR.out
                  have hI := hh.out.2.1.add hav HI.out.2.2.2.2.1
                  have hxl : c_a < vl2.length := by rw [hh.out.1.lv]; exact hav
                  have hgA := gas_add (vl := vl2) (todo := todo2) hxl
                  have hup : ∀ y, nth vl2 y = true → nth (addV vl2 c_a) y = true := fun y hy => (addV_iff hxl y).2 (.inr hy)
                  have hca : nth (addV vl2 c_a) c_a = true := (addV_iff hxl _).2 (.inl rfl)
                  have hz10 : Bt ≤ W10.heap.size := Nat.le_trans h9.2.2.2.1 hK.size
                  have e10 : bc < W10.heap.size := Nat.lt_of_lt_of_le h9.2.2.2.2 hK.size
                  generalize addV vl2 c_a = vl3 at *
                  generalize addT vl2 todo2 c_a = todo3 at *
                  obtain ⟨q1, q2, q3, q4, q5⟩ := id hbx
                  have H10 := Lib.hid (And.intro hD (And.intro hI (And.intro hR (And.intro hz10 (And.intro hup (And.intro hca (And.intro hbx (And.intro hbc0.1 e10))))))))
                  clear hD hI hR hup hca hK hF h9 hbx hxl e10 hz10 hbc0
                  have hfF : c_f < S.fields := HI.out.2.2.2.1.f (.inl rfl)
                  obtain ⟨fi, fd⟩ := H10.out.1.rdF
                  obtain ⟨fd1, ff1⟩ := fd c_f hfF
                  have qf := H10.out.1.q1
                  clear fd
                  by_cases hfl : nth fl2 c_f = true
                  · rw [hfl] at fd1
                    have HFL := Lib.hid hfl
                    clear hfl
                    go_wp2_with fail
                    go_roundw
                    case rel => exact ⟨j + 1, ta4, tc4, vl3, fl2, todo3, by omega, by go_num, by omega, H10.out.1, H10.out.2.1, H10.out.2.2.1, H10.out.2.2.2.1, H10.out.2.2.2.2.1 _ hh.out.2.2.2.2.1, (by have := hh.out.2.2.2.2.2.1; omega), fun i2 hi2 => by
                      by_cases e : i2 = j
                      · subst e
                        rw [← HI.out.1, ← HI.out.2.1]
                        exact ⟨H10.out.2.2.2.2.2.1, fun _ => HFL.out⟩
                      · have := hh.out.2.2.2.2.2.2 i2 (by omega)
                        exact ⟨H10.out.2.2.2.2.1 _ this.1, this.2⟩⟩
                    case measure => simp [intOf]; omega
                  · have hfl' : nth fl2 c_f = false := by simpa using hfl
                    rw [hfl'] at fd1
                    have hcb : c_b = b := HI.out.2.2.2.2.2.2
                    have hvcb : nth vl3 c_b = true := by rw [hcb]; exact H10.out.2.2.2.2.1 _ hh.out.2.2.2.2.1
                    have hD11 := H10.out.1.setF hfF
                    have hI11 := H10.out.2.1.field (c := ⟨3, c_a, c_b, c_f, c_s⟩) HI.out.2.2.1 rfl hvcb hfF
                    have hfob : (Value.slice fa S.fields fc).ownBlock = some (blk fa) := own_block H10.out.1.of (x := c_f) (by rw [H10.out.1.lf]; exact hfF)
                    have hR11 : RDI S bs br (.slice ca s.cons.length cc) ia ic ja jc us ws ll ss W (W10.setCell ⟨blk fa, ofs fa + c_f, none⟩ (.bool true)) := H10.out.2.2.1.kd (KD.grown (grownBy_setCell _ _ _) (fun k e => by simp at e; subst e; exact .inl (.inr (.inr (.inr hfob))))) HFR.out
                    have hbne : some bc ≠ some (blk fa) := fun e => by have h1 := (H10.out.1.hf _ hfob).1; have h2 := H10.out.2.2.2.2.2.2.2.1; simp at e; omega
                    have q4' : (W10.setCell ⟨blk fa, ofs fa + c_f, none⟩ (.bool true)).cell? ⟨bc, 3, none⟩ = some (.int .i64 (c_f : Int)) := (grownBy_setCell _ _ _).cell q4 hbne
                    obtain ⟨ra2, rc2, -, ii3, ii4, hmm2, hcs2⟩ := grid_rd hR11.g2 HP.out.l2 hfF
                    have hrow2 := (hcs2 _ hR11.g2).1
                    obtain ⟨m2, hm2⟩ : ∃ m, m = (nth ss c_f).length := ⟨_, rfl⟩
                    have hml2 : nth ss c_f = (storL S c_f s.cons.length).map fun x : Nat => (x : Int) := HP.out.m2 c_f hfF
                    rw [← hm2] at hrow2 hmm2 ii4 hcs2
                    obtain ⟨L2, hL2⟩ : ∃ L, L = storL S c_f s.cons.length := ⟨_, rfl⟩
                    have hmL2 : m2 = L2.length := by rw [hm2, hml2, hL2, List.length_map]
                    rw [← hL2] at hml2
                    have H11 := Lib.hid (And.intro hD11 (And.intro hI11 (And.intro hR11 (And.intro hcs2 (And.intro hml2 (And.intro hL2 (And.intro hmL2 (And.intro hcb hvcb))))))))
                    clear hD11 hI11 hR11 hcs2 hml2 hL2 hmL2 hm2 hfl hfl' hfob hbne hcb hvcb
                    go_wp2_with fail
                    refine wp_gen (fun Z => DM S W.heap.size bq bt Bt va vc fa fc ta4 tc4 vl3 (fl2.set c_f true) todo3 (vl3.count true) Z ∧ DInv S v vl3 (fl2.set c_f true) todo3 (fun y => y = b) (fun g => g = c_f) ∧ RDI S bs br (.slice ca s.cons.length cc) ia ic ja jc us ws ll ss W Z ∧ Bt ≤ Z.heap.size) ⟨H11.out.1, H11.out.2.1, H11.out.2.2.1, by simpa using H10.out.2.2.2.1⟩ ?_
                    rintro Z11 h11
                    obtain ⟨fl3, hfl3⟩ : ∃ f, f = fl2.set c_f true := ⟨_, rfl⟩
                    rw [← hfl3] at h11
                    have hup3 : (∀ f, nth fl2 f = true → nth fl3 f = true) ∧ nth fl3 c_f = true := by
                      have hs := set_true (vl := fl2) (x := c_f) (by rw [hh.out.1.lf]; exact hfF)
                      rw [hfl3]
                      exact ⟨fun f hf => (hs f).2 (.inr hf), (hs _).2 (.inl rfl)⟩
                    have H12 := Lib.hid (And.intro h11 hup3)
                    clear h11 hup3 hfl3 hrow2 q4' fd1 ff1 qf q1 q2 q3 q4 q5 fi
                    go_loopw [17, 130] (fun _ x wr => ∃ (q : Nat) (ta : Option Addr) (tc : Nat) (vl4 : List Bool) (todo4 : List Nat), q ≤ m2 ∧ x = .int .i64 q ∧ gasD vl4 todo4 ≤ gasD vl3 todo3 ∧ Hid (DM S W.heap.size bq bt Bt va vc fa fc ta tc vl4 fl3 todo4 (vl4.count true) wr ∧ DInv S v vl4 fl3 todo4 (fun y => y = b) (fun g => g = c_f) ∧ RDI S bs br (.slice ca s.cons.length cc) ia ic ja jc us ws ll ss W wr ∧ Bt ≤ wr.heap.size ∧ (∀ x, nth vl3 x = true → nth vl4 x = true) ∧ ∀ i, i < q → nth vl4 (nth S.cons (nth L2 i)).a = true ∧ nth vl4 (nth S.cons (nth L2 i)).b = true)) (fun _ x _ => m2 - (intOf x).toNat)
                    case atStart => exact ⟨0, ta4, tc4, vl3, todo3, by omega, rfl, Nat.le_refl _, H12.out.1.1, H12.out.1.2.1, H12.out.1.2.2.1, H12.out.1.2.2.2, fun _ h => h, fun i hi => by omega⟩
                    case round =>
                      have HO := Lib.hid hh.out
                      clear hh
                      obtain ⟨q, ta5, tc5, vl4, todo4, hq, rfl, hg4, hh⟩ := hrel
                      by_cases hlq : q < m2
                      · have hmem := nth_mem L2 q (by rw [← H11.out.2.2.2.2.2.2.1]; exact hlq)
                        rw [H11.out.2.2.2.2.2.1] at hmem
                        obtain ⟨hi1', hi2', hi3'⟩ := mem_storL.1 hmem
                        rw [← H11.out.2.2.2.2.2.1] at hi1' hi2' hi3'
                        have hc0 : wr.cell? ⟨blk ra2, ofs ra2 + q, none⟩ = some (.int .i64 ((nth L2 q : Nat) : Int)) := by
                          rw [(H11.out.2.2.2.1 _ hh.out.2.2.1.g2).2 q hlq, H11.out.2.2.2.2.1, nth_map' _ _ _ (by rw [← H11.out.2.2.2.2.2.2.1]; exact hlq)]
                        obtain ⟨i2, hi2⟩ : ∃ i, i = nth L2 q := ⟨_, rfl⟩
                        rw [← hi2] at hc0 hi1' hi2' hi3'
                        obtain ⟨sa2, sc2, hcell⟩ := cons_cells HC.out.1 HC.out.2.2.1 hi1'
                        rw [← HS.out.1] at hcell
                        obtain ⟨-, p1, -, -, -, -⟩ := hcell wr hh.out.2.2.1.bel
                        have b3 := hh.out.2.2.1.b3
                        have hcm : nth S.cons i2 ∈ S.cons := nth_mem _ _ (by rw [HS.out.2.2, List.length_map]; exact hi1')
                        have hOkd := HS.out.2.1 _ hcm
                        have hvc := H10.out.2.1.sv c_b H11.out.2.2.2.2.2.2.2.2
                        have hdav : (nth S.cons i2).a < S.vars := by have h := hOkd.a; rw [if_neg (by omega)] at h; exact h
                        have hdbv : (nth S.cons i2).b < S.vars := hOkd.b
                        have hvisa : Vis S v (nth S.cons i2).a := .sa HI.out.2.2.1 rfl hvc hcm hi2' hi3'
                        have hvisb : Vis S v (nth S.cons i2).b := .sb HI.out.2.2.1 rfl hvc hcm hi2' hi3'
                        obtain ⟨d_a, hda⟩ : ∃ x, x = (nth S.cons i2).a := ⟨_, rfl⟩
                        obtain ⟨d_b, hdb⟩ : ∃ x, x = (nth S.cons i2).b := ⟨_, rfl⟩
                        rw [← hda] at p1 hdav hvisa
                        rw [← hdb] at hdbv hvisb
                        have HD := Lib.hid (And.intro hcell (And.intro hda (And.intro hdb (And.intro hvisa (And.intro hvisb hi2)))))
                        clear hcell hda hdb hvisa hvisb hcm hOkd hvc hi2 hi2' hi3' hmem
                        have htl4 : todo4.length ≤ 1000000 := by have h1 : gasD vl4 todo4 = 2 * (vl4.length - vl4.count true) + todo4.length := rfl
                                                                 omega
                        go_wp2_with fail
                        refine (add_any hh.out.1 d_a hdav (by omega) htl4 hh.out.2.2.2.1).mono ?_
                        rintro e W13 ⟨⟨v13, rfl⟩, ta6, tc6, hD13, hK13, -⟩
                        have hI13 := hh.out.2.1.add hdav HD.out.2.2.2.1
                        have hR13 := hh.out.2.2.1.kd hK13 HFR.out
                        have hxl : d_a < vl4.length := by rw [hh.out.1.lv]; exact hdav
                        have hgA := gas_add (vl := vl4) (todo := todo4) hxl
                        have hup : ∀ y, nth vl4 y = true → nth (addV vl4 d_a) y = true := fun y hy => (addV_iff hxl y).2 (.inr hy)
                        have hda1 : nth (addV vl4 d_a) d_a = true := (addV_iff hxl _).2 (.inl rfl)
                        generalize addV vl4 d_a = vl5 at *
                        generalize addT vl4 todo4 d_a = todo5 at *
                        have htl5 : todo5.length ≤ 1000000 := by have h1 : gasD vl5 todo5 = 2 * (vl5.length - vl5.count true) + todo5.length := rfl
                                                                 omega
                        obtain ⟨-, -, p2, -, -, -⟩ := HD.out.1 W13 hR13.bel
                        rw [← HD.out.2.2.1] at p2
                        have hc1 : W13.cell? ⟨blk ra2, ofs ra2 + q, none⟩ = some (.int .i64 (i2 : Int)) := by
                          rw [(H11.out.2.2.2.1 _ hR13.g2).2 q hlq, H11.out.2.2.2.2.1, nth_map' _ _ _ (by rw [← H11.out.2.2.2.2.2.2.1]; exact hlq), HD.out.2.2.2.2.2]
                        have b3' := hR13.b3
                        have H13 := Lib.hid (And.intro hD13 (And.intro hI13 (And.intro hR13 (And.intro (Nat.le_trans hh.out.2.2.2.1 hK13.size) (And.intro hup hda1)))))
                        clear hD13 hI13 hR13 hK13 hup hda1 hxl p1 b3 hc0
                        go_wp2_with fail
                        refine (add_any H13.out.1 d_b hdbv (by omega) htl5 H13.out.2.2.2.1).mono ?_
                        rintro e W14 ⟨⟨v14, rfl⟩, ta7, tc7, hD14, hK14, -⟩
                        have hI14 := H13.out.2.1.add hdbv HD.out.2.2.2.2.1
                        have hR14 := H13.out.2.2.1.kd hK14 HFR.out
                        have hxl : d_b < vl5.length := by rw [H13.out.1.lv]; exact hdbv
                        have hgB := gas_add (vl := vl5) (todo := todo5) hxl
                        have hup : ∀ y, nth vl5 y = true → nth (addV vl5 d_b) y = true := fun y hy => (addV_iff hxl y).2 (.inr hy)
                        have hdb1 : nth (addV vl5 d_b) d_b = true := (addV_iff hxl _).2 (.inl rfl)
                        generalize addV vl5 d_b = vl6 at *
                        generalize addT vl5 todo5 d_b = todo6 at *
                        have H14 := Lib.hid (And.intro hD14 (And.intro hI14 (And.intro hR14 (And.intro (Nat.le_trans H13.out.2.2.2.1 hK14.size) (And.intro hup hdb1)))))
                        clear hD14 hI14 hR14 hK14 hup hdb1 hxl p2 b3' hc1
                        go_wp2_with fail
                        go_roundw
                        case rel => exact ⟨q + 1, ta7, tc7, vl6, todo6, by omega, by go_num, by omega, H14.out.1, H14.out.2.1, H14.out.2.2.1, H14.out.2.2.2.1, fun x hx => H14.out.2.2.2.2.1 _ (H13.out.2.2.2.2.1 _ (hh.out.2.2.2.2.1 x hx)), fun i hi => by
                          by_cases e : i = q
                          · subst e
                            rw [← HD.out.2.2.2.2.2, ← HD.out.2.1, ← HD.out.2.2.1]
                            exact ⟨H14.out.2.2.2.2.1 _ H13.out.2.2.2.2.2, H14.out.2.2.2.2.2⟩
                          · have := hh.out.2.2.2.2.2 i (by omega)
                            exact ⟨H14.out.2.2.2.2.1 _ (H13.out.2.2.2.2.1 _ this.1), H14.out.2.2.2.2.1 _ (H13.out.2.2.2.2.1 _ this.2)⟩⟩
                        case measure => simp [intOf]; omega
                      · obtain rfl : q = m2 := by omega
                        have hI15 := hh.out.2.1.shutR (fun d hd h4 hdf => by
                          obtain ⟨i, hi, rfl⟩ := mem_nth hd
                          have hm : i ∈ L2 := by rw [H11.out.2.2.2.2.2.1]; exact mem_storL.2 ⟨by rw [HS.out.2.2, List.length_map] at hi; exact hi, h4, hdf⟩
                          obtain ⟨q, hq, e⟩ := mem_nth hm
                          rw [← e]
                          exact hh.out.2.2.2.2.2 q (by rw [H11.out.2.2.2.2.2.2.1]; exact hq))
                        have H15 := Lib.hid (And.intro hh.out hI15)
                        clear hh hI15
                        go_wp2_with fail
                        go_roundw
                        case rel => exact ⟨j + 1, ta5, tc5, vl4, fl3, todo4, by omega, by go_num, by omega, H15.out.1.1, H15.out.2, H15.out.1.2.2.1, H15.out.1.2.2.2.1, H15.out.1.2.2.2.2.1 _ (H10.out.2.2.2.2.1 _ HO.out.2.2.2.2.1), (by have := HO.out.2.2.2.2.2.1; omega), fun i2 hi2 => by
                          by_cases e : i2 = j
                          · subst e
                            rw [← HI.out.1, ← HI.out.2.1]
                            exact ⟨H15.out.1.2.2.2.2.1 _ H10.out.2.2.2.2.2.1, fun _ => H12.out.2.2⟩
                          · have := HO.out.2.2.2.2.2.2 i2 (by omega)
                            exact ⟨H15.out.1.2.2.2.2.1 _ (H10.out.2.2.2.2.1 _ this.1), fun h => H12.out.2.1 _ (this.2 h)⟩⟩
                        case measure => simp [intOf]; omega
                · have hne : ((ck : Int) != 3) = true := by simp; omega
                  go_wp2_with fail
                  refine calls_genD (fun Z => DM S W.heap.size bq bt Bt va vc fa fc ta3 tc3 vl2 fl2 todo2 (vl2.count true) Z ∧ RDI S bs br (.slice ca s.cons.length cc) ia ic ja jc us ws ll ss W Z ∧ BoxC Z wr.heap.size ck c_a c_b c_f (.slice sa c_s.length sc) ∧ Bt ≤ Z.heap.size ∧ wr.heap.size < Z.heap.size) ⟨hh.out.1.keep (grownBy_alloc _ _), hh.out.2.2.1.keep (grownBy_alloc _ _), BoxC.new wr ck c_a c_b c_f _ _, (by have := hh.out.2.2.2.1; simp; omega), by simp⟩ ?_
                  rintro Z9 h9
                  have hbc0 : Bt ≤ wr.heap.size ∧ (Value.slice ta3 todo2.length tc3).ownBlock ≠ some wr.heap.size := ⟨hh.out.2.2.2.1, fun e => by have := (hh.out.1.ot.lt _ e).2; omega⟩
                  obtain ⟨bc, hbc⟩ : ∃ bc, bc = wr.heap.size := ⟨_, rfl⟩
                  rw [← hbc] at h9 hbc0 ⊢
                  clear hbc p0 p1 p2 p3 p4 b3 hc0
                  refine (add_any h9.1 c_a hav (by omega) htl h9.2.2.2.1).mono ?_
                  rintro e W10 ⟨⟨v10, rfl⟩, ta4, tc4, hD, hK, hF⟩
                  have hbx : BoxC W10 bc ck c_a c_b c_f (.slice sa c_s.length sc) := h9.2.2.1.same (hF bc h9.2.2.2.2 (fun hw => by have := (h9.1.wr bc hw).2; omega) hbc0.2)
                  have hR := h9.2.1.kd hK HFR.out
                  have hI := hh.out.2.1.add hav HI.out.2.2.2.2.1
                  have hxl : c_a < vl2.length := by rw [hh.out.1.lv]; exact hav
                  have hgA := gas_add (vl := vl2) (todo := todo2) hxl
                  have hup : ∀ y, nth vl2 y = true → nth (addV vl2 c_a) y = true := fun y hy => (addV_iff hxl y).2 (.inr hy)
                  have hca : nth (addV vl2 c_a) c_a = true := (addV_iff hxl _).2 (.inl rfl)
                  have hz10 : Bt ≤ W10.heap.size := Nat.le_trans h9.2.2.2.1 hK.size
                  have e10 : bc < W10.heap.size := Nat.lt_of_lt_of_le h9.2.2.2.2 hK.size
                  generalize addV vl2 c_a = vl3 at *
                  generalize addT vl2 todo2 c_a = todo3 at *
                  obtain ⟨q1, q2, q3, q4, q5⟩ := id hbx
                  have H10 := Lib.hid (And.intro hD (And.intro hI (And.intro hR (And.intro hz10 (And.intro hup (And.intro hca (And.intro hbx (And.intro hbc0.1 e10))))))))
                  clear hD hI hR hup hca hK hF h9 hbx hxl e10 hz10 hbc0
                  go_wp2_with fail
                  go_roundw
                  case rel => exact ⟨j + 1, ta4, tc4, vl3, fl2, todo3, by omega, by go_num, by omega, H10.out.1, H10.out.2.1, H10.out.2.2.1, H10.out.2.2.2.1, H10.out.2.2.2.2.1 _ hh.out.2.2.2.2.1, (by have := hh.out.2.2.2.2.2.1; omega), fun i2 hi2 => by
                    by_cases e : i2 = j
                    · subst e
                      rw [← HI.out.1, ← HI.out.2.1]
                      exact ⟨H10.out.2.2.2.2.2.1, fun h => absurd h h3⟩
                    · have := hh.out.2.2.2.2.2.2 i2 (by omega)
                      exact ⟨H10.out.2.2.2.2.1 _ this.1, this.2⟩⟩
                  case measure => simp [intOf]; omega
              · obtain rfl : j = m := by omega
                have hI16 := hh.out.2.1.shutQ (fun c hc hF hcb => by
                  obtain ⟨i, hi, rfl⟩ := mem_nth hc
                  have hm : i ∈ L := by rw [HL.out.1]; exact mem_intoL.2 ⟨by rw [HS.out.2.2, List.length_map] at hi; exact hi, hF, hcb⟩
                  obtain ⟨q, hq, e⟩ := mem_nth hm
                  rw [← e]
                  exact hh.out.2.2.2.2.2.2 q (by rw [HL.out.2]; exact hq))
                have H16 := Lib.hid (And.intro hh.out hI16)
                clear hh hI16
                go_wp2_with fail
                go_roundg (gasD vl2 todo2)
                case measure => have h1 := H8.out.2.2.2.2.2.2.2.2; have h2 := H16.out.1.2.2.2.2.2.1; omega
                case rel => exact ⟨ta3, tc3, vl2, fl2, todo2, rfl, hg2, H16.out.1.1, H16.out.2, H16.out.1.2.2.1, H16.out.1.2.2.2.1⟩
end Go.Proofs.Ytkfhopnolflchaa
