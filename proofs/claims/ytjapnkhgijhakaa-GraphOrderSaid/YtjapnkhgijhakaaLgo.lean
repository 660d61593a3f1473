/- GraphOrder: for any graph and root, Postorder has each node of Reach once and ends with the root; if all edges lead to lower numbers, each leads to an earlier node. -/
import Derived.Test.YtjapnkhgijhakaaGic
namespace Go.Proofs.Ytjapnkhgijhakaa
open Go.ChangeShapes Go.WideShapes Go.ChangeAt Go.RowKit Go.Dfl Go.Gra

/-- The graph and both lists. -/
structure OH (bs : Nat) (g : G) (r : Int) (cv lv av : Value) (A : List Int) (W0 Z : World) : Prop where
  gb : GB bs g cv Z
  l : Ints Z lv ((postZ g r).map fun x : Nat => (x : Int))
  a : Ints Z av A
  bel : Below W0.heap.size W0 Z
theorem OH.below {bs : Nat} {g : G} {r : Int} {cv lv av : Value} {A : List Int} {W0 Z Z' : World} (h : OH bs g r cv lv av A W0 Z) (hb : Below Z.heap.size Z Z') : OH bs g r cv lv av A W0 Z' := ⟨h.gb.below hb, h.l.below hb, h.a.below hb, bel_trans h.bel hb⟩
theorem map_cast_nth {l : List Nat} {k : Nat} (h : k < l.length) : nth (l.map fun x : Nat => (x : Int)) k = ((nth l k : Nat) : Int) := by
  rw [nth_eq _ _ (by rw [List.length_map]; exact h), List.getElem_map, nth_eq _ _ h]
theorem map_cast_mem {l : List Nat} {x : Nat} : (x : Int) ∈ (l.map fun x : Nat => (x : Int)) ↔ x ∈ l := by
  rw [List.mem_map]
  exact ⟨fun ⟨y, hy, e⟩ => by rw [show x = y by omega]; exact hy, fun h => ⟨x, h, rfl⟩⟩
set_option maxHeartbeats 12800000 in
set_option maxRecDepth 100000 in
theorem GraphOrder_walk (g : G) (cv : Value) (r : Int) (W : World) (h : Pairs W cv g.es) (_hr : -9223372036854775808 ≤ r ∧ r ≤ 9223372036854775807) : Calls Try.prog 7 #[GV g cv, .int .i64 r] W (TruePost W) := by
  obtain ⟨ca, cc, rfl, -, -, -⟩ := pairs_rd h
  have hal := (Below.refl W.heap.size W).alloc (Nat.le_refl _) (.cells #[.int .i64 g.n, .slice ca g.es.length cc] 25)
  have H0 := Lib.hid (And.intro (GB.new h 25) hal)
  clear h hal _hr
  obtain ⟨c0, c1⟩ := H0.out.1.box
  unfold GV
  go_enter Try.func7, Try.ntmps7
  by_cases hq1 : 300 < g.es.length
  · have hq' : (300 : Int) < (g.es.length : Int) := by omega
    go_wp2_with fail
    refine (awake_any _).mono ?_
    rintro e Z ⟨rfl, b⟩
    have HB := Lib.hid (bel_trans H0.out.2 b)
    go_wp2_with fail
    go_ret
    exact ⟨rfl, HB.out⟩
  have hq1' : ¬ (300 : Int) < (g.es.length : Int) := by omega
  by_cases hq2 : 300 < g.n
  · go_wp2_with fail
    refine (awake_any _).mono ?_
    rintro e Z ⟨rfl, b⟩
    have HB := Lib.hid (bel_trans H0.out.2 b)
    go_wp2_with fail
    go_ret
    exact ⟨rfl, HB.out⟩
  go_wp2_with fail
  have hc := gPostorder_any g (.slice ca g.es.length cc) r _ H0.out.1.es
  unfold GV at hc
  refine hc.mono ?_
  rintro e W1 ⟨la, lc, rfl, il, b1⟩
  have H1 := Lib.hid (And.intro (H0.out.1.below b1) (And.intro (bel_trans H0.out.2 b1) il))
  clear hc b1 c0 c1 H0 il
  obtain ⟨c0, c1⟩ := H1.out.1.box
  have hbn : W.heap.size ≠ W1.heap.size := by have := World.block_lt_of_cell? W1 ⟨W.heap.size, 0, none⟩ c0; dsimp only at this; omega
  have hb := (Below.refl W1.heap.size W1).alloc (Nat.le_refl _) (.cells #[.int .i64 r] 3)
  have HG := Lib.hid (And.intro (H1.out.1.below hb) (And.intro (bel_trans H1.out.2.1 hb) (And.intro (H1.out.2.2.below hb) (own_one' (Value.int .i64) (w := W1) (base := W1.heap.size) (e := 3) (B := W1.heap.size) r rfl (Nat.le_refl _)).lst)))
  clear hb
  go_wp2_with fail
  have hc := gReach_any g (.slice ca g.es.length cc) (.slice (some ⟨W1.heap.size, 0, none⟩) 1 1) [r] _ HG.out.1.es HG.out.2.2.2
  unfold GV at hc
  refine hc.mono ?_
  rintro e W2 ⟨aa, ac, A, rfl, iA, hb, hcase⟩
  have hA : ReachIs g [r] A := hcase
  have hlen := postZ_len hA
  rw [← hlen] at iA ⊢
  have H2 := Lib.hid (show OH W.heap.size g r (.slice ca g.es.length cc) (.slice la (postZ g r).length lc) (.slice aa (postZ g r).length ac) A W W2 from ⟨HG.out.1.below hb, HG.out.2.2.1.below hb, iA, bel_trans HG.out.2.1 hb⟩)
  have HA := Lib.hid hA
  clear hc hb iA hA hlen hcase HG H1 c0 c1 hbn hq1 hq2 hq1'
  generalize W.heap.size = bs at *
  obtain ⟨l, hl⟩ : ∃ l, l = postZ g r := ⟨_, rfl⟩
  rw [← hl] at H2 ⊢
  have HL := Lib.hid hl
  clear hl
  have hll : ((l.length : Int) != (l.length : Int)) = false := by simp
  go_upto_region 5 with fail
  go_cut [49] (fun q wx => q = .bool false ∧ wx = W2)
  case first =>
    by_cases hl0 : l.length = 0
    · have q1 : ¬ (0 : Int) < (l.length : Int) := by omega
      have q2 : decide ((0 : Int) < (l.length : Int)) = false := decide_eq_false q1
      clear hl0
      go_wp2_with fail
      go_meet
      case rel => exact ⟨rfl, rfl⟩
    · obtain ⟨m, hm⟩ : ∃ m, l.length = m + 1 := ⟨l.length - 1, by omega⟩
      have hlc := H2.out.l
      rw [← HL.out] at hlc
      obtain ⟨la', lc', he, hpm, hpi, hpc, hpb⟩ := hlc.out1 sIntG
      rw [List.length_map] at he hpm hpi hpc hpb
      simp only [Value.slice.injEq] at he
      obtain ⟨rfl, -, rfl⟩ := he
      have q1 : (0 : Int) < (l.length : Int) := by omega
      have hpq := hpi .i64 (m : Int) (by omega) (by omega)
      rw [Int.toNat_natCast] at hpq
      have cpq : W2.cell? ⟨blk la, ofs la + m, none⟩ = some (.int .i64 r) := by
        have h1 := hpc m (by omega)
        rw [map_cast_nth (by omega)] at h1
        have h2 := postZ_last (g := g) (r := r) (by rw [← HL.out]; omega)
        rw [← HL.out, show l.length - 1 = m by omega] at h2
        rw [h2] at h1; exact h1
      have hwq : IntKind.i64.wrap ((l.length : Int) - 1) = (m : Int) := by rw [show (l.length : Int) - 1 = (m : Int) by omega]; exact IntWalk.i64_in _ (by omega)
      have hrr : (r != r) = false := by simp
      clear hlc hpm hpi hpc hpb hm hl0
      go_wp2_with fail
      go_meet
      case rel => exact ⟨rfl, rfl⟩
  case rest =>
  obtain ⟨rfl, rfl⟩ := hcut
  clear hll
  have hlm : l.length ≤ 9223372036854775807 := by
    have h1 := H2.out.l
    rw [← HL.out] at h1
    obtain ⟨-, -, -, h2, -⟩ := h1.out1 sIntG
    rw [List.length_map] at h2; exact h2
  go_wp2_with fail
  go_loopw [7] (fun x wr => ∃ k : Nat, k ≤ l.length ∧ x = .int .i64 k ∧ Hid (OH bs g r (.slice ca g.es.length cc) (.slice la l.length lc) (.slice aa l.length ac) A W wr)) (fun x _ => l.length - (intOf x).toNat)
  case atStart => exact ⟨0, by omega, rfl, H2.out⟩
  case round =>
    obtain ⟨k, hk, rfl, hh⟩ := hrel
    have HW := Lib.hid hh.out
    clear hh
    by_cases hlt : k < l.length
    · have hkl : (k : Int) < (l.length : Int) := by omega
      have hz := HW.out.below ((Below.refl _ _).drew)
      have HD := Lib.hid hz
      have hlc := hz.l
      rw [← HL.out] at hlc
      obtain ⟨ua, uc, hsl, hsi⟩ := ints_cut sIntG hlc (k := k) (by rw [List.length_map]; exact hlt)
      have HSI := Lib.hid (hsi _ hlc)
      obtain ⟨la', lc', he, hpm, hpi, hpc, hpb⟩ := hlc.out1 sIntG
      rw [List.length_map] at he hpm hpi hpc hpb
      simp only [Value.slice.injEq] at he
      obtain ⟨rfl, -, rfl⟩ := he
      have hpk := hpi .i64 (k : Int) (by omega) (by omega)
      rw [Int.toNat_natCast] at hpk
      obtain ⟨x, hx⟩ : ∃ x, x = nth l k := ⟨_, rfl⟩
      have cpk : wr.drew.cell? ⟨blk la, ofs la + k, none⟩ = some (.int .i64 (x : Int)) := by
        have h1 := hpc k (by omega)
        rw [map_cast_nth (by omega), ← hx] at h1; exact h1
      have hm1 : decide ((x : Int) ∈ A) = true := by
        rw [decide_eq_true_eq, ← postZ_mem HA.out, ← HL.out, hx]
        exact nth_mem _ _ hlt
      have hm2 : decide ((x : Int) ∈ (l.map fun x : Nat => (x : Int)).take k) = false := by
        rw [decide_eq_false_iff_not, ← List.map_take, map_cast_mem, hx, HL.out]
        rw [HL.out] at hlt
        exact postZ_once hlt
      have HM := Lib.hid (And.intro hm1 (And.intro hm2 hlt))
      clear hlc hsi hpm hpi hpc hpb hx hm1 hm2 hz
      go_upto_region 10 with fail
      refine wp_region_plan (.take 0 (.take 1 (.take 2 (.take 3 (.take 4 (.alt 5 (.take 6 (.take 7 (.take 8 (.take 9 (.take 10 (.take 11 (.take 12 (.take 13 (.take 14 (.alt 15 (.take 16 .done) .stop)))))))))) .stop))))))
        (fun w' => w' = wr.drew) (by kernel_rfl) (by kernel_rfl) (by kernel_rfl) (by kernel_rfl) rfl ?_
      generalize wr.drew = V at *
      refine plan_take (v := ?_) rfl (Or.inl ⟨by rfl, ?_⟩) ?_
      rotate_left
      · (rintro W rfl; go_simp; try with_reducible rfl)
      simp only [Act.put, List.setIfInBounds_toArray, List.getElem_toArray, List.getElem_cons_zero, List.set_cons_succ, List.set_cons_zero]
      refine plan_take (v := ?_) rfl (Or.inl ⟨by rfl, ?_⟩) ?_
      rotate_left
      · (rintro W rfl; go_simp; try with_reducible rfl)
      simp only [Act.put, List.setIfInBounds_toArray, List.getElem_toArray, List.getElem_cons_zero, List.getElem_cons_succ, List.set_cons_succ, List.set_cons_zero]
      refine plan_take (v := ?_) rfl (Or.inl ⟨by rfl, ?_⟩) ?_
      rotate_left
      · (rintro W rfl; go_simp; try with_reducible rfl)
      simp only [Act.put, List.setIfInBounds_toArray, List.getElem_toArray, List.getElem_cons_zero, List.getElem_cons_succ, List.set_cons_succ, List.set_cons_zero]
      refine plan_take (v := ?_) rfl (Or.inl ⟨by rfl, ?_⟩) ?_
      rotate_left
      · (rintro W rfl; go_simp; try with_reducible rfl)
      simp only [Act.put, List.setIfInBounds_toArray, List.getElem_toArray, List.getElem_cons_zero, List.getElem_cons_succ, List.set_cons_succ, List.set_cons_zero]
      refine plan_take (v := ?_) rfl (Or.inl ⟨by rfl, ?_⟩) ?_
      rotate_left
      · (rintro W rfl; go_simp; try with_reducible rfl)
      simp only [Act.put, List.setIfInBounds_toArray, List.getElem_toArray, List.getElem_cons_zero, List.getElem_cons_succ, List.set_cons_succ, List.set_cons_zero]
      refine plan_alt rfl ?_ plan_stop
      go_wp2_with fail
      refine (in_any _ A (x : Int) V HD.out.a).mono ?_
      rintro e w' ⟨rfl, rfl⟩
      rw [HM.out.1]
      go_wp2_with fail
      refine tail_mk rfl ?_
      refine plan_take (v := ?_) rfl (Or.inl ⟨by rfl, ?_⟩) ?_
      rotate_left
      · (rintro W rfl; go_simp; try with_reducible rfl)
      simp only [Act.put, List.setIfInBounds_toArray, List.getElem_toArray, List.getElem_cons_zero, List.getElem_cons_succ, List.set_cons_succ, List.set_cons_zero]
      refine plan_take (v := ?_) rfl (Or.inl ⟨by rfl, ?_⟩) ?_
      rotate_left
      · (rintro W rfl; go_simp; try with_reducible rfl)
      simp only [Act.put, List.setIfInBounds_toArray, List.getElem_toArray, List.getElem_cons_zero, List.getElem_cons_succ, List.set_cons_succ, List.set_cons_zero]
      refine plan_take (v := ?_) rfl (Or.inl ⟨by rfl, ?_⟩) ?_
      rotate_left
      · (rintro W rfl; go_simp; try with_reducible rfl)
      simp only [Act.put, List.setIfInBounds_toArray, List.getElem_toArray, List.getElem_cons_zero, List.getElem_cons_succ, List.set_cons_succ, List.set_cons_zero]
      refine plan_take (v := ?_) rfl (Or.inl ⟨by rfl, ?_⟩) ?_
      rotate_left
      · (rintro W rfl; go_simp; try with_reducible rfl)
      simp only [Act.put, List.setIfInBounds_toArray, List.getElem_toArray, List.getElem_cons_zero, List.getElem_cons_succ, List.set_cons_succ, List.set_cons_zero]
      refine plan_take (v := ?_) rfl (Or.inl ⟨by rfl, ?_⟩) ?_
      rotate_left
      · (rintro W rfl; go_simp; try with_reducible rfl)
      simp only [Act.put, List.setIfInBounds_toArray, List.getElem_toArray, List.getElem_cons_zero, List.getElem_cons_succ, List.set_cons_succ, List.set_cons_zero]
      refine plan_take (v := ?_) rfl (Or.inl ⟨by rfl, ?_⟩) ?_
      rotate_left
      · (rintro W rfl; go_simp; try with_reducible rfl)
      simp only [Act.put, List.setIfInBounds_toArray, List.getElem_toArray, List.getElem_cons_zero, List.getElem_cons_succ, List.set_cons_succ, List.set_cons_zero]
      refine plan_take (v := ?_) rfl (Or.inl ⟨by rfl, ?_⟩) ?_
      rotate_left
      · (rintro W rfl; go_simp; try with_reducible rfl)
      simp only [Act.put, List.setIfInBounds_toArray, List.getElem_toArray, List.getElem_cons_zero, List.getElem_cons_succ, List.set_cons_succ, List.set_cons_zero]
      refine plan_take (v := ?_) rfl (Or.inl ⟨by rfl, ?_⟩) ?_
      rotate_left
      · (rintro W rfl; go_simp; try with_reducible rfl)
      simp only [Act.put, List.setIfInBounds_toArray, List.getElem_toArray, List.getElem_cons_zero, List.getElem_cons_succ, List.set_cons_succ, List.set_cons_zero]
      refine plan_take (v := ?_) rfl (Or.inl ⟨by rfl, ?_⟩) ?_
      rotate_left
      · (rintro W rfl; go_simp; try with_reducible rfl)
      simp only [Act.put, List.setIfInBounds_toArray, List.getElem_toArray, List.getElem_cons_zero, List.getElem_cons_succ, List.set_cons_succ, List.set_cons_zero]
      refine plan_alt rfl ?_ plan_stop
      go_wp2_with fail
      refine (in_any _ _ (x : Int) _ HSI.out).mono ?_
      rintro e w' ⟨rfl, rfl⟩
      rw [HM.out.2.1]
      go_wp2_with fail
      refine tail_mk rfl ?_
      refine plan_take (v := ?_) rfl (Or.inl ⟨by rfl, ?_⟩) ?_
      rotate_left
      · (rintro W rfl; go_simp; try with_reducible rfl)
      simp only [Act.put, List.setIfInBounds_toArray, List.getElem_toArray, List.getElem_cons_zero, List.getElem_cons_succ, List.set_cons_succ, List.set_cons_zero]
      refine plan_done ?_
      go_wp2_with fail
      go_roundw
      case rel => exact ⟨k + 1, by have := HM.out.2.2; omega, by go_num, HD.out⟩
      case measure => have := HM.out.2.2; simp [intOf]; omega
    · obtain rfl : k = l.length := by omega
      clear hlt hk
      obtain ⟨c0, c1⟩ := HW.out.gb.box
      go_wp2_with fail
      have hc := rCheck_any g (.slice ca g.es.length cc) _ HW.out.gb.es
      unfold GV at hc
      refine hc.mono ?_
      rintro e W3 ⟨rfl, b1⟩
      have H3 := Lib.hid (HW.out.below b1)
      clear hc b1 c0 c1
      obtain ⟨bd, hbd⟩ : ∃ b, b = (gCode g == 0) := ⟨_, rfl⟩
      have HBD := Lib.hid hbd
      go_wp2_with fail
      rw [← hbd]
      clear hbd
      go_loopw [8, 9] (fun y x wr => ∃ (k : Nat) (b : Bool), k ≤ g.es.length ∧ x = .int .i64 k ∧ y = .bool b ∧ Hid (OH bs g r (.slice ca g.es.length cc) (.slice la l.length lc) (.slice aa l.length ac) A W wr ∧ (b = true → ∀ j, j < k → (nth g.es j).2 < (nth g.es j).1))) (fun _ x _ => g.es.length - (intOf x).toNat)
      case atStart => exact ⟨0, bd, by omega, rfl, rfl, H3.out, fun _ j hj => by omega⟩
      case round =>
        obtain ⟨k, b, hk, rfl, rfl, hh⟩ := hrel
        have HX := Lib.hid hh.out
        clear hh
        by_cases hlt : k < g.es.length
        · have hkl : (k : Int) < (g.es.length : Int) := by omega
          have hz := HX.out.1.below ((Below.refl _ _).drew)
          obtain ⟨ca', cc', he, hem, hei, hec⟩ := pairs_rd hz.gb.es
          simp only [Value.slice.injEq] at he
          obtain ⟨rfl, -, rfl⟩ := he
          have hek := hei (k : Int) (by omega) (by omega)
          rw [Int.toNat_natCast] at hek
          obtain ⟨⟨e1, e2⟩, hee⟩ : ∃ e, e = nth g.es k := ⟨_, rfl⟩
          have hcc := (hec k hlt).2 _ (Below.refl _ _)
          rw [← hee] at hcc
          obtain ⟨d0, d1⟩ := hcc
          dsimp only at d0 d1
          obtain ⟨c0, c1⟩ := hz.gb.box
          obtain ⟨b0, b1⟩ := HX.out.1.gb.box
          have HD := Lib.hid (And.intro hz (And.intro HX.out.2 (And.intro hee hlt)))
          clear hei hec hee hlt
          go_upto_region 16 with fail
          cases b
          · refine wp_region_plan (.take 0 (.take 1 (.take 2 (.take 3 (.take 4 (.take 5 (.take 6 (.take 7 (.take 8 (.take 9 (.take 10 (.take 11 (.take 12 (.take 13 (.take 14 (.take 15 (.take 16 .done)))))))))))))))))
              (fun w' => w' = wr.drew) (by kernel_rfl) (by kernel_rfl) (by kernel_rfl) (by kernel_rfl) rfl ?_
            generalize wr.drew = V at *
            refine plan_take (v := ?_) rfl (Or.inl ⟨by rfl, ?_⟩) ?_
            rotate_left
            · (rintro W rfl; go_simp; try with_reducible rfl)
            simp only [Act.put, List.setIfInBounds_toArray, List.getElem_toArray, List.getElem_cons_zero, List.set_cons_succ, List.set_cons_zero]
            refine plan_take (v := ?_) rfl (Or.inl ⟨by rfl, ?_⟩) ?_
            rotate_left
            · (rintro W rfl; go_simp; try with_reducible rfl)
            simp only [Act.put, List.setIfInBounds_toArray, List.getElem_toArray, List.getElem_cons_zero, List.getElem_cons_succ, List.set_cons_succ, List.set_cons_zero]
            repeat (refine plan_take (v := undef) rfl (Or.inr ⟨by rfl, rfl⟩) ?_; simp only [Act.put, List.setIfInBounds_toArray, List.getElem_toArray, List.getElem_cons_zero, List.getElem_cons_succ, List.set_cons_succ, List.set_cons_zero])
            refine plan_take (v := ?_) rfl (Or.inl ⟨by rfl, ?_⟩) ?_
            rotate_left
            · (rintro W rfl; go_simp; try with_reducible rfl)
            simp only [Act.put, List.setIfInBounds_toArray, List.getElem_toArray, List.getElem_cons_zero, List.getElem_cons_succ, List.set_cons_succ, List.set_cons_zero]
            refine plan_take (v := ?_) rfl (Or.inl ⟨by rfl, ?_⟩) ?_
            rotate_left
            · (rintro W rfl; go_simp; try with_reducible rfl)
            simp only [Act.put, List.setIfInBounds_toArray, List.getElem_toArray, List.getElem_cons_zero, List.getElem_cons_succ, List.set_cons_succ, List.set_cons_zero]
            refine plan_done ?_
            go_wp2_with fail
            go_roundw
            case rel => exact ⟨k + 1, false, by have := HD.out.2.2.2; omega, by go_num, rfl, HD.out.1, fun h => by cases h⟩
            case measure => have := HD.out.2.2.2; simp [intOf]; omega
          · obtain ⟨b2, hb2⟩ : ∃ b, b = decide (e2 < e1) := ⟨_, rfl⟩
            refine wp_region_plan (.take 0 (.take 1 (.take 2 (.take 3 (.take 4 (.take 5 (.take 6 (.take 7 (.take 8 (.take 9 (.take 10 (.take 11 (.take 12 (.take 13 (.take 14 (.take 15 (.take 16 .done)))))))))))))))))
              (fun w' => w' = wr.drew) (by kernel_rfl) (by kernel_rfl) (by kernel_rfl) (by kernel_rfl) rfl ?_
            generalize wr.drew = V at *
            repeat (
              refine plan_take (v := ?_) rfl (Or.inl ⟨by rfl, ?_⟩) ?_
              rotate_left
              · (rintro W rfl; go_simp; try with_reducible rfl)
              simp only [Act.put, List.setIfInBounds_toArray, List.getElem_toArray, List.getElem_cons_zero, List.getElem_cons_succ, List.set_cons_succ, List.set_cons_zero])
            refine plan_done ?_
            rw [← hb2]
            have HB2 := Lib.hid hb2
            clear hb2
            go_wp2_with fail
            go_roundw
            case rel => exact ⟨k + 1, b2, by have := HD.out.2.2.2; omega, by go_num, rfl, HD.out.1, fun h j hj => by
              have h2 := HB2.out
              rw [h, eq_comm, decide_eq_true_eq] at h2
              by_cases e : j = k
              · rw [e, ← HD.out.2.2.1]; exact h2
              · exact HD.out.2.1 rfl j (by omega)⟩
            case measure => have := HD.out.2.2.2; simp [intOf]; omega
        · obtain rfl : k = g.es.length := by omega
          clear hlt hk
          obtain ⟨c0, c1⟩ := HX.out.1.gb.box
          go_wp2_with fail
          go_loopw [10] (fun x wr => ∃ k : Nat, k ≤ l.length ∧ x = .int .i64 k ∧ Hid (OH bs g r (.slice ca g.es.length cc) (.slice la l.length lc) (.slice aa l.length ac) A W wr)) (fun x _ => l.length - (intOf x).toNat)
          case atStart => exact ⟨0, by omega, rfl, HX.out.1⟩
          case round =>
            obtain ⟨k, hk, rfl, hh⟩ := hrel
            have HY := Lib.hid hh.out
            clear hh c0 c1
            by_cases hlt : k < l.length
            · have hkl : (k : Int) < (l.length : Int) := by omega
              cases b
              · go_wp2_with fail
                refine (awake_any _).mono ?_
                rintro e Z ⟨rfl, b⟩
                have HB := Lib.hid (bel_trans HY.out.bel b)
                go_wp2_with fail
                go_ret
                exact ⟨rfl, HB.out⟩
              · have hz := HY.out.below ((Below.refl _ _).drew)
                have HD := Lib.hid hz
                have hlc := hz.l
                rw [← HL.out] at hlc
                obtain ⟨ua, uc, hsl, hsi⟩ := ints_cut sIntG hlc (k := k) (by rw [List.length_map]; exact hlt)
                obtain ⟨la', lc', he, hpm, hpi, hpc, hpb⟩ := hlc.out1 sIntG
                rw [List.length_map] at he hpm hpi hpc hpb
                simp only [Value.slice.injEq] at he
                obtain ⟨rfl, -, rfl⟩ := he
                have hpk := hpi .i64 (k : Int) (by omega) (by omega)
                rw [Int.toNat_natCast] at hpk
                obtain ⟨x, hx⟩ : ∃ x, x = nth l k := ⟨_, rfl⟩
                have cpk : wr.drew.cell? ⟨blk la, ofs la + k, none⟩ = some (.int .i64 (x : Int)) := by
                  have h1 := hpc k (by omega)
                  rw [map_cast_nth (by omega), ← hx] at h1; exact h1
                obtain ⟨c0, c1⟩ := hz.gb.box
                have hdn : ∀ e ∈ g.es, e.2 < e.1 := fun e he => by
                  obtain ⟨j, hj, e2⟩ := mem_nth he
                  rw [← e2]; exact HX.out.2 rfl j hj
                have hy : ∀ y ∈ sucZ g (x : Int), (y : Int) ∈ (l.map fun x : Nat => (x : Int)).take k := fun y hy => by
                  have h2 : y ∈ suc g.es x := by
                    unfold sucZ at hy
                    split at hy
                    · rw [Int.toNat_natCast] at hy; exact hy
                    · simp at hy
                  rw [← List.map_take, map_cast_mem]
                  rw [HL.out] at hlt hx ⊢
                  rw [hx] at h2
                  exact postZ_down hdn hlt h2
                have HM := Lib.hid (And.intro hy (And.intro hsi hlt))
                have hpbk := hpb k hlt
                have HPB := Lib.hid hpbk
                clear hlc hsi hpm hpi hpc hpb hpbk hx hdn hy hz
                go_upto_region 20 with fail
                refine wp_region_plan (.take 0 (.take 1 (.take 2 (.take 3 (.take 4 (.alt 5 (.take 6 .done) .stop))))))
                  (fun w' => w'.cell? ⟨bs, 0, none⟩ = some (.int .i64 g.n) ∧ w'.cell? ⟨bs, 1, none⟩ = some (.slice ca g.es.length cc) ∧ w'.cell? ⟨blk la, ofs la + k, none⟩ = some (.int .i64 (x : Int))) (by kernel_rfl) (by kernel_rfl) (by kernel_rfl) (by kernel_rfl) ⟨c0, c1, cpk⟩ ?_
                have HC := Lib.hid cpk
                generalize wr.drew = V at *
                clear c0 c1 cpk
                refine plan_take (v := ?_) rfl (Or.inl ⟨by rfl, ?_⟩) ?_
                rotate_left
                · (intro W hW; obtain ⟨p1, p2, p3⟩ := hW; go_simp; try with_reducible rfl)
                simp only [Act.put, List.setIfInBounds_toArray, List.getElem_toArray, List.getElem_cons_zero, List.set_cons_succ, List.set_cons_zero]
                refine plan_take (v := ?_) rfl (Or.inl ⟨by rfl, ?_⟩) ?_
                rotate_left
                · (intro W hW; obtain ⟨p1, p2, p3⟩ := hW; go_simp; try with_reducible rfl)
                simp only [Act.put, List.setIfInBounds_toArray, List.getElem_toArray, List.getElem_cons_zero, List.getElem_cons_succ, List.set_cons_succ, List.set_cons_zero]
                refine plan_take (v := ?_) rfl (Or.inl ⟨by rfl, ?_⟩) ?_
                rotate_left
                · (intro W hW; obtain ⟨p1, p2, p3⟩ := hW; go_simp; try with_reducible rfl)
                simp only [Act.put, List.setIfInBounds_toArray, List.getElem_toArray, List.getElem_cons_zero, List.getElem_cons_succ, List.set_cons_succ, List.set_cons_zero]
                refine plan_take (v := ?_) rfl (Or.inl ⟨by rfl, ?_⟩) ?_
                rotate_left
                · (intro W hW; obtain ⟨p1, p2, p3⟩ := hW; go_simp; try with_reducible rfl)
                simp only [Act.put, List.setIfInBounds_toArray, List.getElem_toArray, List.getElem_cons_zero, List.getElem_cons_succ, List.set_cons_succ, List.set_cons_zero]
                refine plan_take (v := ?_) rfl (Or.inl ⟨by rfl, ?_⟩) ?_
                rotate_left
                · (intro W hW; obtain ⟨p1, p2, p3⟩ := hW; go_simp; try with_reducible rfl)
                simp only [Act.put, List.setIfInBounds_toArray, List.getElem_toArray, List.getElem_cons_zero, List.getElem_cons_succ, List.set_cons_succ, List.set_cons_zero]
                refine plan_alt rfl ?_ plan_stop
                go_wp2_with fail
                have hc := rSucc_any g (.slice ca g.es.length cc) (x : Int) V HD.out.gb.es
                unfold GV at hc
                refine hc.mono ?_
                rintro e V2 ⟨sa, sc, rfl, si, b2⟩
                have h4 := HD.out.below b2
                have cpk := (b2.cell (p := ⟨blk la, ofs la + k, none⟩) HPB.out).trans HC.out
                obtain ⟨c0, c1⟩ := h4.gb.box
                obtain ⟨m, hm⟩ : ∃ m, m = sucZ g (x : Int) := ⟨_, rfl⟩
                rw [← hm] at si ⊢
                have HMM := Lib.hid hm
                have H4 := Lib.hid (And.intro h4 si)
                have hml : m.length ≤ 9223372036854775807 := by
                  obtain ⟨-, -, -, h2, -⟩ := si.out1 sIntG
                  rw [List.length_map] at h2; exact h2
                clear hc b2 h4 si hm
                go_wp2_with fail
                refine tail_mk ⟨c0, c1, cpk⟩ ?_
                clear c0 c1 cpk
                refine plan_take (v := ?_) rfl (Or.inl ⟨by rfl, ?_⟩) ?_
                rotate_left
                · (intro W hW; go_simp; try with_reducible rfl)
                simp only [Act.put, List.setIfInBounds_toArray, List.getElem_toArray, List.getElem_cons_zero, List.getElem_cons_succ, List.set_cons_succ, List.set_cons_zero]
                refine plan_done ?_
                go_wp2_with fail
                go_loopw [12] (fun x wr => ∃ i : Nat, i ≤ m.length ∧ x = .int .i64 i ∧ Hid (OH bs g r (.slice ca g.es.length cc) (.slice la l.length lc) (.slice aa l.length ac) A W wr ∧ Ints wr (.slice sa m.length sc) (m.map fun x : Nat => (x : Int)))) (fun x _ => m.length - (intOf x).toNat)
                case atStart => exact ⟨0, by omega, rfl, H4.out⟩
                case round =>
                  obtain ⟨i, hi, rfl, hh⟩ := hrel
                  have HI := Lib.hid hh.out
                  clear hh
                  by_cases hil : i < m.length
                  · have hil' : (i : Int) < (m.length : Int) := by omega
                    have hz := HI.out.1.below ((Below.refl _ _).drew)
                    have hsz := HI.out.2.below ((Below.refl _ _).drew)
                    have hlc := hz.l
                    rw [← HL.out] at hlc
                    have HSI := Lib.hid (HM.out.2.1 _ hlc)
                    obtain ⟨sa', sc', he, hpm, hpi, hpc, hpb⟩ := hsz.out1 sIntG
                    rw [List.length_map] at he hpm hpi hpc hpb
                    simp only [Value.slice.injEq] at he
                    obtain ⟨rfl, -, rfl⟩ := he
                    have hpk2 := hpi .i64 (i : Int) (by omega) (by omega)
                    rw [Int.toNat_natCast] at hpk2
                    obtain ⟨y, hy⟩ : ∃ y, y = nth m i := ⟨_, rfl⟩
                    have cpk : wr.drew.cell? ⟨blk sa, ofs sa + i, none⟩ = some (.int .i64 (y : Int)) := by
                      have h1 := hpc i (by omega)
                      rw [map_cast_nth (by omega), ← hy] at h1; exact h1
                    have hmy : decide ((y : Int) ∈ (l.map fun x : Nat => (x : Int)).take k) = true := by
                      rw [decide_eq_true_eq]
                      refine HM.out.1 y ?_
                      rw [hy, ← HMM.out]
                      exact nth_mem _ _ hil
                    have HE := Lib.hid (And.intro hmy (And.intro hil (And.intro hz hsz)))
                    clear hz hsz hlc hpm hpi hpc hpb hy hmy
                    go_upto_region 24 with fail
                    refine wp_region_plan (.take 0 (.take 1 (.take 2 (.take 3 (.take 4 (.take 5 (.take 6 (.alt 7 (.take 8 .done) .stop))))))))
                      (fun w' => w' = wr.drew) (by kernel_rfl) (by kernel_rfl) (by kernel_rfl) (by kernel_rfl) rfl ?_
                    generalize wr.drew = V9 at *
                    refine plan_take (v := ?_) rfl (Or.inl ⟨by rfl, ?_⟩) ?_
                    rotate_left
                    · (rintro W rfl; go_simp; try with_reducible rfl)
                    simp only [Act.put, List.setIfInBounds_toArray, List.getElem_toArray, List.getElem_cons_zero, List.set_cons_succ, List.set_cons_zero]
                    refine plan_take (v := ?_) rfl (Or.inl ⟨by rfl, ?_⟩) ?_
                    rotate_left
                    · (rintro W rfl; go_simp; try with_reducible rfl)
                    simp only [Act.put, List.setIfInBounds_toArray, List.getElem_toArray, List.getElem_cons_zero, List.getElem_cons_succ, List.set_cons_succ, List.set_cons_zero]
                    refine plan_take (v := ?_) rfl (Or.inl ⟨by rfl, ?_⟩) ?_
                    rotate_left
                    · (rintro W rfl; go_simp; try with_reducible rfl)
                    simp only [Act.put, List.setIfInBounds_toArray, List.getElem_toArray, List.getElem_cons_zero, List.getElem_cons_succ, List.set_cons_succ, List.set_cons_zero]
                    refine plan_take (v := ?_) rfl (Or.inl ⟨by rfl, ?_⟩) ?_
                    rotate_left
                    · (rintro W rfl; go_simp; try with_reducible rfl)
                    simp only [Act.put, List.setIfInBounds_toArray, List.getElem_toArray, List.getElem_cons_zero, List.getElem_cons_succ, List.set_cons_succ, List.set_cons_zero]
                    refine plan_take (v := ?_) rfl (Or.inl ⟨by rfl, ?_⟩) ?_
                    rotate_left
                    · (rintro W rfl; go_simp; try with_reducible rfl)
                    simp only [Act.put, List.setIfInBounds_toArray, List.getElem_toArray, List.getElem_cons_zero, List.getElem_cons_succ, List.set_cons_succ, List.set_cons_zero]
                    refine plan_take (v := ?_) rfl (Or.inl ⟨by rfl, ?_⟩) ?_
                    rotate_left
                    · (rintro W rfl; go_simp; try with_reducible rfl)
                    simp only [Act.put, List.setIfInBounds_toArray, List.getElem_toArray, List.getElem_cons_zero, List.getElem_cons_succ, List.set_cons_succ, List.set_cons_zero]
                    refine plan_take (v := ?_) rfl (Or.inl ⟨by rfl, ?_⟩) ?_
                    rotate_left
                    · (rintro W rfl; go_simp; try with_reducible rfl)
                    simp only [Act.put, List.setIfInBounds_toArray, List.getElem_toArray, List.getElem_cons_zero, List.getElem_cons_succ, List.set_cons_succ, List.set_cons_zero]
                    refine plan_alt rfl ?_ plan_stop
                    go_wp2_with fail
                    refine (in_any _ _ (y : Int) V9 HSI.out).mono ?_
                    rintro e w' ⟨rfl, rfl⟩
                    rw [HE.out.1]
                    go_wp2_with fail
                    refine tail_mk rfl ?_
                    refine plan_take (v := ?_) rfl (Or.inl ⟨by rfl, ?_⟩) ?_
                    rotate_left
                    · (rintro W rfl; go_simp; try with_reducible rfl)
                    simp only [Act.put, List.setIfInBounds_toArray, List.getElem_toArray, List.getElem_cons_zero, List.getElem_cons_succ, List.set_cons_succ, List.set_cons_zero]
                    refine plan_done ?_
                    go_wp2_with fail
                    go_roundw
                    case rel => exact ⟨i + 1, by have := HE.out.2.1; omega, by go_num, HE.out.2.2⟩
                    case measure => have := HE.out.2.1; simp [intOf]; omega
                  · obtain rfl : i = m.length := by omega
                    go_wp2_with fail
                    go_roundw
                    case rel => exact ⟨k + 1, by have := HM.out.2.2; omega, by go_num, HI.out.1⟩
                    case measure => have := HM.out.2.2; simp [intOf]; omega
            · obtain rfl : k = l.length := by omega
              cases b
              · go_wp2_with fail
                refine (awake_any _).mono ?_
                rintro e Z ⟨rfl, b⟩
                have HB := Lib.hid (bel_trans HY.out.bel b)
                go_wp2_with fail
                go_ret
                exact ⟨rfl, HB.out⟩
              · go_wp2_with fail
                refine (awake_any _).mono ?_
                rintro e Z ⟨rfl, b⟩
                have HB := Lib.hid (bel_trans HY.out.bel b)
                go_wp2_with fail
                go_ret
                exact ⟨rfl, HB.out⟩
set_option maxRecDepth 100000 in
theorem GraphOrder_lifted (os : Os) (started : os.Started) (H : Type) (enc : TypeId × Value → H) :
    ReturnsInHanded {} Try.checked os 7 .any (Rows.graphOrderSpec.pre6 enc Try.prog Try.f7 Rows.graphOrderRow.domain false) (Rows.graphOrderSpec.post enc Try.prog Try.f7 false true false false) := by
  refine returnsInHanded_of_change (C := Try.checked) own started (by kernel_rfl) Try.func7
    (ChangeSpec.witness6 (enc := enc) (C := Try.checked) false ⟨#[], #[.agg #[.int .i64 0, .slice none 0 0], .int .i64 0], []⟩ 8 (by kernel_rfl) (by kernel_rfl) (by kernel_rfl) (by kernel_rfl)) ?_
  intro W base args ds gs before hval0 hW hcnd _
  have hval : ∀ (j : Nat) t v, Try.f7.params[j]? = some t → args[j]? = some v → Value.okWide Try.prog W .any base t v := hval0
  have hW' := hW
  obtain ⟨p, q, hA0, hV, rfl, hfz, hnd⟩ := hW
  have hA : DataW.TrodAll enc Try.prog W 0 (fun _ => true) true Try.f7.params.toList args.toList ds p := hA0
  rw [Try.params7] at hA hval
  obtain ⟨v0, vs0, d0, ds0, p0, q0, hargs, rfl, rfl, h0, r0⟩ := trodAll_cons hA
  obtain ⟨v1, vs1, d1, ds1, p1, q1, rfl, rfl, rfl, h1, r1⟩ := trodAll_cons r0
  obtain ⟨rfl, rfl, rfl⟩ := trodAll_nil r1
  obtain rfl : args = #[v0, v1] := by cases args; simp_all
  obtain ⟨rfl, rfl⟩ := trodVars_none hV
  obtain ⟨c0, rfl, sz0⟩ := okWide_struct Try.underlying25 (hval 0 25 v0 rfl rfl)
  have k0 := h0
  obtain ⟨g0, cv0, eq0, hC0⟩ := graph_of_trod sz0 h0
  obtain rfl : c0 = #[.int .i64 g0.n, cv0] := by simpa [GV] using eq0
  have lt0 : ∀ x ∈ p0, x.block < W.heap.size := by obtain ⟨m, hm⟩ := k0; exact DataW.trod_lt m _ _ _ hm
  obtain ⟨a1, rfl, rfl, rfl, w1⟩ := open_int Try.underlying3 (hval 1 3 v1 rfl rfl) h1
  have b1 := bounds_i64 w1
  clear hA0 hval0
  refine (GraphOrder_walk g0 cv0 a1 W hC0 b1).mono fun e W' ⟨he, bel⟩ => ?_
  subst he
  exact ⟨_, rfl, _, _, _, [], _, [], hW', trodAll_mk1 (shut_bool Try.underlying4 _), (trodAll_cons_mk (Below.trod laidOut (by kernel_rfl) (of_decide_eq_true (by kernel_rfl)) k0 bel lt0) (trodAll_cons_mk (shut_int Try.underlying3 w1) trodAll_mk0)), rfl, bel.frame _, fun h => by cases h⟩

/-- The given statement. -/
theorem GraphOrder_holds : Rows.GraphOrderSaid :=
  OpenClaim.holds_of_wide 7 Try.f7 rfl rfl rfl rfl rfl rfl rfl ⟨rfl, rfl, rfl, rfl, rfl⟩ rfl rfl rfl rfl rfl (by kernel_rfl) Try.func7 (by kernel_rfl)
    (of_decide_eq_true (by kernel_rfl)) (by unfold Func.isWrapper; first | (rw [if_pos (by decide +kernel)]; kernel_rfl) | (rw [if_neg (by decide +kernel)]; exact ⟨rfl, rfl⟩))
    (fun os started H enc _ => GraphOrder_lifted os started H enc)

end Go.Proofs.Ytjapnkhgijhakaa
