/- GraphShortest: for any graph, nodes and any path between them, the path that is returned consists of edges and is not longer. -/
import Derived.Test.YtjapnkhgijhakaaGsh
namespace Go.Proofs.Ytjapnkhgijhakaa
open Go.ChangeShapes Go.WideShapes Go.ChangeAt Go.RowKit Go.Dfl Go.Gra

/-- The graph and the list. -/
structure SH (bs : Nat) (g : G) (cv fv : Value) (f : List Int) (W0 Z : World) : Prop where
  g : GB bs g cv Z
  f : Ints Z fv f
  bel : Below W0.heap.size W0 Z
theorem SH.below {bs : Nat} {g : G} {cv fv : Value} {f : List Int} {W0 Z Z' : World} (h : SH bs g cv fv f W0 Z) (hb : Below Z.heap.size Z Z') : SH bs g cv fv f W0 Z' := ⟨h.g.below hb, h.f.below hb, bel_trans h.bel hb⟩
set_option maxHeartbeats 12800000 in
set_option maxRecDepth 100000 in
theorem GraphShortest_walk (g : G) (cv : Value) (fv : Value) (f : List Int) (W : World) (h : Pairs W cv g.es) (hf : Ints W fv f) (_hb : ∀ x ∈ f, -9223372036854775808 ≤ x ∧ x ≤ 9223372036854775807) : Calls Try.prog 5 #[GV g cv, fv] W (TruePost W) := by
  obtain ⟨ca, cc, rfl, -, -, -⟩ := pairs_rd h
  obtain ⟨fa, fc, rfl, -, -, -, -⟩ := hf.out1 sIntG
  have hal := (Below.refl W.heap.size W).alloc (Nat.le_refl _) (.cells #[.int .i64 g.n, .slice ca g.es.length cc] 25)
  have H0 := Lib.hid (show SH W.heap.size g (.slice ca g.es.length cc) (.slice fa f.length fc) f W _ from ⟨GB.new h 25, hf.below hal, hal⟩)
  clear h hal hf _hb
  obtain ⟨c0, c1⟩ := H0.out.g.box
  unfold GV
  go_enter Try.func5, Try.ntmps5
  by_cases hq1 : 200 < g.es.length
  · have hq' : (200 : Int) < (g.es.length : Int) := by omega
    go_wp2_with fail
    refine (awake_any _).mono ?_
    rintro e Z ⟨rfl, b⟩
    have HB := Lib.hid (bel_trans H0.out.bel b)
    go_wp2_with fail
    go_ret
    exact ⟨rfl, HB.out⟩
  have hq1' : ¬ (200 : Int) < (g.es.length : Int) := by omega
  by_cases hq2 : f.length = 0
  · have hq' : ((f.length : Int) == 0) = true := by simp; exact List.length_eq_zero_iff.1 hq2
    go_wp2_with fail
    refine (awake_any _).mono ?_
    rintro e Z ⟨rfl, b⟩
    have HB := Lib.hid (bel_trans H0.out.bel b)
    go_wp2_with fail
    go_ret
    exact ⟨rfl, HB.out⟩
  have hq2' : ((f.length : Int) == 0) = false := by simp; exact fun e => hq2 (by rw [e]; rfl)
  by_cases hq3 : 100 < f.length
  · have hq' : (100 : Int) < (f.length : Int) := by omega
    go_wp2_with fail
    refine (awake_any _).mono ?_
    rintro e Z ⟨rfl, b⟩
    have HB := Lib.hid (bel_trans H0.out.bel b)
    go_wp2_with fail
    go_ret
    exact ⟨rfl, HB.out⟩
  have hq3' : ¬ (100 : Int) < (f.length : Int) := by omega
  go_wp2_with fail
  have hc := rCheck_any g (.slice ca g.es.length cc) _ H0.out.g.es
  unfold GV at hc
  refine hc.mono ?_
  rintro e W1 ⟨rfl, b1⟩
  have H1 := Lib.hid (H0.out.below b1)
  clear hc b1 c0 c1 H0
  obtain ⟨c0, c1⟩ := H1.out.g.box
  by_cases hc : gCode g = 0
  · have q0 : (gCode g != 0) = false := by simpa using hc
    obtain ⟨m, hm⟩ : ∃ m, f.length = m + 1 := ⟨f.length - 1, by omega⟩
    have HC := Lib.hid (And.intro hc (And.intro hm hq2))
    clear hc hm hq2
    go_wp2_with fail
    generalize hbs : W.heap.size = bs at *
    clear hbs
    go_loopw [5] (fun x wr => ∃ k : Nat, k ≤ f.length ∧ x = .int .i64 k ∧ Hid (SH bs g (.slice ca g.es.length cc) (.slice fa f.length fc) f W wr ∧ ∀ j, j < k → nodeB g.n (nth f j) = true ∧ (0 < j → (nth f j).toNat ∈ suc g.es (nth f (j - 1)).toNat))) (fun x _ => f.length - (intOf x).toNat)
    case atStart => exact ⟨0, by omega, rfl, H1.out, fun j hj => by omega⟩
    case round =>
      obtain ⟨k, hk, rfl, hh⟩ := hrel
      have HW := Lib.hid hh.out
      obtain ⟨fa', fc', he, hfm, hfi, hfc, hfb⟩ := hh.out.1.f.out1 sIntG
      simp only [Value.slice.injEq] at he
      obtain ⟨rfl, -, rfl⟩ := he
      clear hh c0 c1
      by_cases hlt : k < f.length
      · have hkl : (k : Int) < (f.length : Int) := by omega
        have hii := hfi .i64 (k : Int) (by omega) (by omega)
        rw [Int.toNat_natCast] at hii
        obtain ⟨y, hy⟩ : ∃ y, y = nth f k := ⟨_, rfl⟩
        have hall : ∀ Z, Below wr.heap.size wr Z → Z.cell? ⟨blk fa, ofs fa + k, none⟩ = some (.int .i64 y) ∧ Z.cell? ⟨bs, 0, none⟩ = some (.int .i64 g.n) := fun Z hZ => ⟨by rw [hZ.cell (p := ⟨blk fa, ofs fa + k, none⟩) (hfb k hlt), hfc k hlt, hy], (HW.out.1.g.box.below hZ).1⟩
        have HALL := Lib.hid hall
        have HY := Lib.hid hy
        clear hall hy
        by_cases hy0 : y < 0
        · have q1 : decide (y < 0) = true := by simpa using hy0
          go_upto_region 6 with fail
          obtain ⟨Cls, hCls⟩ : ∃ Cls : World → Prop, ∀ Z', Cls Z' ↔ Below wr.heap.size wr Z' := ⟨_, fun _ => Iff.rfl⟩
          have hC : Cls wr.drew := (hCls _).2 ((Below.refl _ _).drew)
          have k0 : ∀ q : Wd Cls, Below wr.heap.size wr q.val := fun q => (hCls _).1 q.ok
          have HK := Lib.hid k0
          have HCC := Lib.hid hC
          haveI hne : Nonempty (Wd Cls) := ⟨⟨_, hC⟩⟩
          have e0 : ∀ q : Wd Cls, q.val.cell? ⟨blk fa, ofs fa + k, none⟩ = some (.int .i64 y) := fun q => (HALL.out _ (k0 q)).1
          have e1 : ∀ q : Wd Cls, q.val.cell? ⟨bs, 0, none⟩ = some (.int .i64 g.n) := fun q => (HALL.out _ (k0 q)).2
          clear k0 hCls hC
          refine wp_region_class Cls (by kernel_rfl) (by kernel_rfl) HCC.out ?_
          repeat (go_big_quiet_step (fail))
          refine wpQuiet_nil ?_
          rintro _ ⟨q9, rfl⟩
          have HZ := Lib.hid (HW.out.1.below (HK.out q9))
          clear e0 e1 HCC hne
          generalize q9.val = Z at *
          clear q9 HK Cls
          go_wp2_with fail
          refine (awake_any _).mono ?_
          rintro e Z ⟨rfl, b⟩
          have HB := Lib.hid (bel_trans HZ.out.bel b)
          go_wp2_with fail
          go_ret
          exact ⟨rfl, HB.out⟩
        have q1 : decide (y < 0) = false := by simpa using hy0
        by_cases hyn : g.n ≤ y
        · have q2 : decide (g.n ≤ y) = true := by simpa using hyn
          go_upto_region 6 with fail
          obtain ⟨Cls, hCls⟩ : ∃ Cls : World → Prop, ∀ Z', Cls Z' ↔ Below wr.heap.size wr Z' := ⟨_, fun _ => Iff.rfl⟩
          have hC : Cls wr.drew := (hCls _).2 ((Below.refl _ _).drew)
          have k0 : ∀ q : Wd Cls, Below wr.heap.size wr q.val := fun q => (hCls _).1 q.ok
          have HK := Lib.hid k0
          have HCC := Lib.hid hC
          haveI hne : Nonempty (Wd Cls) := ⟨⟨_, hC⟩⟩
          have e0 : ∀ q : Wd Cls, q.val.cell? ⟨blk fa, ofs fa + k, none⟩ = some (.int .i64 y) := fun q => (HALL.out _ (k0 q)).1
          have e1 : ∀ q : Wd Cls, q.val.cell? ⟨bs, 0, none⟩ = some (.int .i64 g.n) := fun q => (HALL.out _ (k0 q)).2
          clear k0 hCls hC
          refine wp_region_class Cls (by kernel_rfl) (by kernel_rfl) HCC.out ?_
          repeat (go_big_quiet_step (fail))
          refine wpQuiet_nil ?_
          rintro _ ⟨q9, rfl⟩
          have HZ := Lib.hid (HW.out.1.below (HK.out q9))
          clear e0 e1 HCC hne
          generalize q9.val = Z at *
          clear q9 HK Cls
          go_wp2_with fail
          refine (awake_any _).mono ?_
          rintro e Z ⟨rfl, b⟩
          have HB := Lib.hid (bel_trans HZ.out.bel b)
          go_wp2_with fail
          go_ret
          exact ⟨rfl, HB.out⟩
        have q2 : decide (g.n ≤ y) = false := by simpa using hyn
        have HN : Hid (nodeB g.n y = true) := Lib.hid (nodeB_iff.2 ⟨by omega, by omega⟩)
        clear hy0 hyn
        by_cases hk0 : k = 0
        · have q3 : decide ((0 : Int) < (k : Int)) = false := by simp; omega
          have q3' : decide (0 < k) = false := by simp; omega
          have HK0 := Lib.hid hk0
          clear hk0
          go_upto_region 6 with fail
          obtain ⟨Cls, hCls⟩ : ∃ Cls : World → Prop, ∀ Z', Cls Z' ↔ Below wr.heap.size wr Z' := ⟨_, fun _ => Iff.rfl⟩
          have hC : Cls wr.drew := (hCls _).2 ((Below.refl _ _).drew)
          have k0 : ∀ q : Wd Cls, Below wr.heap.size wr q.val := fun q => (hCls _).1 q.ok
          have HK := Lib.hid k0
          have HCC := Lib.hid hC
          haveI hne : Nonempty (Wd Cls) := ⟨⟨_, hC⟩⟩
          have e0 : ∀ q : Wd Cls, q.val.cell? ⟨blk fa, ofs fa + k, none⟩ = some (.int .i64 y) := fun q => (HALL.out _ (k0 q)).1
          have e1 : ∀ q : Wd Cls, q.val.cell? ⟨bs, 0, none⟩ = some (.int .i64 g.n) := fun q => (HALL.out _ (k0 q)).2
          clear k0 hCls hC
          refine wp_region_class Cls (by kernel_rfl) (by kernel_rfl) HCC.out ?_
          repeat (go_big_quiet_step (fail))
          refine wpQuiet_nil ?_
          rintro _ ⟨q9, rfl⟩
          have HZ := Lib.hid (HW.out.1.below (HK.out q9))
          clear e0 e1 HCC hne
          generalize q9.val = Z at *
          clear q9 HK Cls
          go_wp2_with fail
          go_roundw
          case rel => exact ⟨k + 1, by omega, by go_num, HZ.out, fun j hj => by
            obtain rfl : j = k := by have := HK0.out; omega
            exact ⟨by rw [← HY.out]; exact HN.out, fun h => by have := HK0.out; omega⟩⟩
          case measure => simp [intOf]; omega
        · have q3 : decide ((0 : Int) < (k : Int)) = true := by simp; omega
          have q3' : decide (0 < k) = true := by simp; omega
          obtain ⟨kk, hkk⟩ : ∃ kk, k = kk + 1 := ⟨k - 1, by omega⟩
          have hwr : IntKind.i64.wrap ((k : Int) - 1) = (kk : Int) := by rw [show (k : Int) - 1 = (kk : Int) by omega]; exact IntWalk.i64_in _ (by omega)
          have hij := hfi .i64 (kk : Int) (by omega) (by omega)
          rw [Int.toNat_natCast] at hij
          obtain ⟨z, hz⟩ : ∃ z, z = nth f kk := ⟨_, rfl⟩
          have hgd := HW.out.1.below ((Below.refl _ _).drew)
          have hcy := (HALL.out wr.drew ((Below.refl _ _).drew)).1
          have hcz : wr.drew.cell? ⟨blk fa, ofs fa + kk, none⟩ = some (.int .i64 z) := by
            rw [((Below.refl wr.heap.size wr).drew).cell (p := ⟨blk fa, ofs fa + kk, none⟩) (hfb kk (by omega)), hfc kk (by omega), hz]
          have HKK := Lib.hid (And.intro hkk hz)
          clear hkk hz hfc hk0
          go_upto_region 6 with fail
          refine wp_region_plan (.take 0 (.take 1 (.take 2 (.take 3 (.take 4 (.take 5 (.take 6 (.take 7 (.take 8 (.take 9 (.take 10 (.take 11 (.take 12 (.take 13 (.take 14 (.take 15 (.take 16 (.take 17 (.take 18 (.take 19 (.take 20 (.take 21 (.take 22 (.take 23 (.take 25 (.take 26 (.take 27 (.take 28 (.alt 24 (.alt 29 (.take 30 (.take 31 (.take 32 .done))) .stop) .stop)))))))))))))))))))))))))))))
            (fun w' => w'.cell? ⟨bs, 0, none⟩ = some (.int .i64 g.n) ∧ w'.cell? ⟨bs, 1, none⟩ = some (.slice ca g.es.length cc) ∧ w'.cell? ⟨blk fa, ofs fa + k, none⟩ = some (.int .i64 y) ∧ w'.cell? ⟨blk fa, ofs fa + kk, none⟩ = some (.int .i64 z)) (by kernel_rfl) (by kernel_rfl) (by kernel_rfl) (by kernel_rfl) ⟨hgd.g.box.1, hgd.g.box.2, hcy, hcz⟩ ?_
          repeat (
            refine plan_take (v := ?_) rfl (Or.inl ⟨by rfl, ?_⟩) ?_
            rotate_left
            · (intro W hW; obtain ⟨p1, p2, p3, p4⟩ := hW; go_simp; try with_reducible rfl)
            simp only [Act.put, List.setIfInBounds_toArray, List.getElem_toArray, List.getElem_cons_zero, List.getElem_cons_succ, List.set_cons_succ, List.set_cons_zero])
          have HD := Lib.hid (And.intro hgd (And.intro hcy hcz))
          have hblk : blk fa < wr.drew.heap.size := hfb k hlt
          clear hgd hcy hcz hfb
          generalize wr.drew = V at *
          refine plan_alt rfl ?_ plan_stop
          go_wp2_with fail
          have hc := rSucc_any g (.slice ca g.es.length cc) z V HD.out.1.g.es
          unfold GV at hc
          refine hc.mono ?_
          rintro e V2 ⟨a5, k5, rfl, s5, b⟩
          have HS := Lib.hid (And.intro (HD.out.1.below b) (And.intro s5 (And.intro ((b.cell (p := ⟨blk fa, ofs fa + k, none⟩) hblk).trans HD.out.2.1) ((b.cell (p := ⟨blk fa, ofs fa + kk, none⟩) hblk).trans HD.out.2.2))))
          clear hc b s5 hblk
          go_wp2_with fail
          refine tail_mk ⟨HS.out.1.g.box.1, HS.out.1.g.box.2, HS.out.2.2.1, HS.out.2.2.2⟩ ?_
          refine plan_alt rfl ?_ plan_stop
          go_wp2_with fail
          refine (in_any _ _ y V2 HS.out.2.1).mono ?_
          rintro e w' ⟨rfl, hw⟩
          rw [hw]
          clear hw w'
          have hiff : y ∈ (sucZ g z).map (fun x : Nat => (x : Int)) ↔ y.toNat ∈ suc g.es (nth f (k - 1)).toNat := by
            have h1 : nodeG g z = true := nodeG_iff.2 ⟨gCode_ok.1 HC.out.1, by
              have h2 := (HW.out.2 kk (by have := HKK.out.1; omega)).1
              rw [← HKK.out.2] at h2
              exact nodeB_iff.1 h2⟩
            have h3 : sucZ g z = suc g.es z.toNat := by unfold sucZ; rw [if_pos h1]
            rw [h3, show k - 1 = kk by have := HKK.out.1; omega, ← HKK.out.2, List.mem_map]
            have hy0 := (nodeB_iff.1 HN.out).1
            constructor
            · rintro ⟨x, hx, rfl⟩; rw [Int.toNat_natCast]; exact hx
            · intro hx; exact ⟨_, hx, by omega⟩
          by_cases hmem : y ∈ (sucZ g z).map (fun x : Nat => (x : Int))
          · have HM := Lib.hid (hiff.1 hmem)
            rw [decide_eq_true hmem]
            clear hmem hiff
            go_wp2_with fail
            refine tail_mk ⟨HS.out.1.g.box.1, HS.out.1.g.box.2, HS.out.2.2.1, HS.out.2.2.2⟩ ?_
            refine plan_take (v := ?_) rfl (Or.inl ⟨by rfl, ?_⟩) ?_
            rotate_left
            · (intro W hW; go_simp; try with_reducible rfl)
            simp only [Act.put, List.getElem_toArray]
            refine plan_take (v := ?_) rfl (Or.inl ⟨by rfl, ?_⟩) ?_
            rotate_left
            · (intro W hW; go_simp; try with_reducible rfl)
            simp only [Act.put, List.getElem_toArray]
            refine plan_take (v := ?_) rfl (Or.inl ⟨by rfl, ?_⟩) ?_
            rotate_left
            · (intro W hW; go_simp; try with_reducible rfl)
            simp only [Act.put, List.getElem_toArray]
            refine plan_done ?_
            go_wp2_with fail
            go_roundw
            case rel => exact ⟨k + 1, by omega, by go_num, HS.out.1, fun j hj => by
              by_cases e : j = k
              · subst e
                rw [← HY.out]
                exact ⟨HN.out, fun _ => HM.out⟩
              · exact HW.out.2 j (by omega)⟩
            case measure => simp [intOf]; omega
          · rw [decide_eq_false hmem]
            clear hmem hiff
            go_wp2_with fail
            refine tail_mk ⟨HS.out.1.g.box.1, HS.out.1.g.box.2, HS.out.2.2.1, HS.out.2.2.2⟩ ?_
            refine plan_take (v := ?_) rfl (Or.inl ⟨by rfl, ?_⟩) ?_
            rotate_left
            · (intro W hW; go_simp; try with_reducible rfl)
            simp only [Act.put, List.getElem_toArray]
            refine plan_take (v := ?_) rfl (Or.inl ⟨by rfl, ?_⟩) ?_
            rotate_left
            · (intro W hW; go_simp; try with_reducible rfl)
            simp only [Act.put, List.getElem_toArray]
            refine plan_take (v := ?_) rfl (Or.inl ⟨by rfl, ?_⟩) ?_
            rotate_left
            · (intro W hW; go_simp; try with_reducible rfl)
            simp only [Act.put, List.getElem_toArray]
            refine plan_done ?_
            go_wp2_with fail
            refine (awake_any _).mono ?_
            rintro e Z ⟨rfl, b⟩
            have HB := Lib.hid (bel_trans HS.out.1.bel b)
            go_wp2_with fail
            go_ret
            exact ⟨rfl, HB.out⟩
      · obtain rfl : k = f.length := by omega
        have hwk : Walk g f := fun j hj => HW.out.2 j hj
        obtain ⟨a, ha⟩ : ∃ a, a = nth f 0 := ⟨_, rfl⟩
        obtain ⟨b, hb⟩ : ∃ b, b = nth f m := ⟨_, rfl⟩
        have hi0 := hfi .i64 0 (by omega) (by have := HC.out.2.2; omega)
        rw [Int.toNat_zero, Nat.add_zero] at hi0
        have him := hfi .i64 (m : Int) (by omega) (by have := HC.out.2.1; omega)
        rw [Int.toNat_natCast] at him
        have hwr : IntKind.i64.wrap ((f.length : Int) - 1) = (m : Int) := by rw [show (f.length : Int) - 1 = (m : Int) by have := HC.out.2.1; omega]; exact IntWalk.i64_in _ (by have := HC.out.2.1; omega)
        have hall : ∀ Z, Below wr.heap.size wr Z → Z.cell? ⟨blk fa, ofs fa, none⟩ = some (.int .i64 a) ∧ Z.cell? ⟨blk fa, ofs fa + m, none⟩ = some (.int .i64 b) := fun Z hZ => by
          have h0 := hfb 0 (by have := HC.out.2.2; omega)
          refine ⟨?_, ?_⟩
          · rw [hZ.cell (p := ⟨blk fa, ofs fa, none⟩) h0, ha]; exact hfc 0 (by have := HC.out.2.2; omega)
          · rw [hZ.cell (p := ⟨blk fa, ofs fa + m, none⟩) h0, hb]; exact hfc m (by have := HC.out.2.1; omega)
        have HALL := Lib.hid hall
        have HWK := Lib.hid (And.intro hwk (And.intro ha hb))
        clear hall hwk ha hb hfb hfc hlt hk
        go_upto_region 8 with fail
        obtain ⟨Cls, hCls⟩ : ∃ Cls : World → Prop, ∀ Z', Cls Z' ↔ Below wr.heap.size wr Z' := ⟨_, fun _ => Iff.rfl⟩
        have hC : Cls wr.drew := (hCls _).2 ((Below.refl _ _).drew)
        have k0 : ∀ q : Wd Cls, Below wr.heap.size wr q.val := fun q => (hCls _).1 q.ok
        have HK := Lib.hid k0
        have HCC := Lib.hid hC
        haveI hne : Nonempty (Wd Cls) := ⟨⟨_, hC⟩⟩
        have e0 : ∀ q : Wd Cls, q.val.cell? ⟨blk fa, ofs fa, none⟩ = some (.int .i64 a) := fun q => (HALL.out _ (k0 q)).1
        have e1 : ∀ q : Wd Cls, q.val.cell? ⟨blk fa, ofs fa + m, none⟩ = some (.int .i64 b) := fun q => (HALL.out _ (k0 q)).2
        clear k0 hCls hC
        refine wp_region_class Cls (by kernel_rfl) (by kernel_rfl) HCC.out ?_
        repeat (go_big_quiet_step (fail))
        refine wpQuiet_nil ?_
        rintro _ ⟨q9, rfl⟩
        have HZ := Lib.hid (HW.out.1.below (HK.out q9))
        clear e0 e1 HCC hne
        generalize q9.val = Z at *
        clear q9 HK Cls
        obtain ⟨c0, c1⟩ := HZ.out.g.box
        go_wp2_with fail
        have hc := gPath_any g (.slice ca g.es.length cc) a b Z HZ.out.g.es
        unfold GV at hc
        refine hc.mono ?_
        rintro e Z1 ⟨o, ps, pc, l, rfl, ip, b1, pis⟩
        rw [HWK.out.2.1, HWK.out.2.2] at pis
        obtain ⟨rfl, w1, w2, w3, w4, w5, w6⟩ := walk_path HC.out.1 HWK.out.1 HC.out.2.1 pis
        rw [← HWK.out.2.1] at w3 w6
        rw [← HWK.out.2.2] at w4 w6
        have HP := Lib.hid (And.intro (HZ.out.below b1) (And.intro ip (And.intro w5 w6)))
        obtain ⟨pa', pc', he, hpm, hpi, hpc, hpb⟩ := ip.out1 sIntG
        rw [List.length_map] at he hpm hpi hpc hpb
        simp only [Value.slice.injEq] at he
        obtain ⟨rfl, -, rfl⟩ := he
        obtain ⟨q, hq⟩ : ∃ q, l.length = q + 1 := ⟨l.length - 1, by omega⟩
        have hpv : ∀ j, j < l.length → nth (l.map fun x : Nat => (x : Int)) j = ((nth l j : Nat) : Int) := fun j hj => by rw [nth_eq _ _ (by rw [List.length_map]; exact hj), List.getElem_map, nth_eq _ _ hj]
        have cp0 : Z1.cell? ⟨blk ps, ofs ps, none⟩ = some (.int .i64 a) := by
          have h1 := hpc 0 (by omega)
          rw [hpv 0 (by omega), w3] at h1; exact h1
        have cpq : Z1.cell? ⟨blk ps, ofs ps + q, none⟩ = some (.int .i64 b) := by
          have h1 := hpc q (by omega)
          rw [hpv q (by omega), show q = l.length - 1 by omega, w4] at h1
          rw [show q = l.length - 1 by omega]; exact h1
        have hp0 := hpi .i64 0 (by omega) (by omega)
        rw [Int.toNat_zero, Nat.add_zero] at hp0
        have hpq := hpi .i64 (q : Int) (by omega) (by omega)
        rw [Int.toNat_natCast] at hpq
        have hwq : IntKind.i64.wrap ((l.length : Int) - 1) = (q : Int) := by rw [show (l.length : Int) - 1 = (q : Int) by omega]; exact IntWalk.i64_in _ (by omega)
        have hl0 : ((l.length : Int) == 0) = false := by simp; intro e; rw [e] at w1; simp at w1
        have hlf : decide ((f.length : Int) < (l.length : Int)) = false := by simp; omega
        have hlf' : decide (f.length < l.length) = false := by simp; omega
        have HPC := Lib.hid (And.intro hpc (And.intro hpb (And.intro hpi hpv)))
        have HQ := Lib.hid (And.intro hq w1)
        clear hc b1 ip pis w3 w4 w5 w6 hpc hpb hpi hpv hq w1 c0 c1
        go_wp2_with fail
        go_loopw [10] (fun x wr => ∃ i : Nat, 1 ≤ i ∧ i ≤ l.length ∧ x = .int .i64 i ∧ Hid (SH bs g (.slice ca g.es.length cc) (.slice fa f.length fc) f W wr ∧ Below Z1.heap.size Z1 wr)) (fun x _ => l.length - (intOf x).toNat)
        case atStart => exact ⟨1, by omega, by have := HQ.out.2; omega, rfl, HP.out.1, Below.refl _ _⟩
        case round =>
          obtain ⟨i, hi1, hi, rfl, hh⟩ := hrel
          have HR := Lib.hid hh.out
          clear hh cp0 cpq
          by_cases hlt : i < l.length
          · have hil : (i : Int) < (l.length : Int) := by omega
            obtain ⟨ii, hii⟩ : ∃ ii, i = ii + 1 := ⟨i - 1, by omega⟩
            have hwi : IntKind.i64.wrap ((i : Int) - 1) = (ii : Int) := by rw [show (i : Int) - 1 = (ii : Int) by omega]; exact IntWalk.i64_in _ (by omega)
            have hxi := HPC.out.2.2.1 .i64 (i : Int) (by omega) (by omega)
            rw [Int.toNat_natCast] at hxi
            have hxj := HPC.out.2.2.1 .i64 (ii : Int) (by omega) (by omega)
            rw [Int.toNat_natCast] at hxj
            obtain ⟨x, hx⟩ : ∃ x, x = nth l i := ⟨_, rfl⟩
            obtain ⟨y, hy⟩ : ∃ y, y = nth l ii := ⟨_, rfl⟩
            have hed : x ∈ suc g.es y := by
              rw [hx, hy, hii]; exact HP.out.2.2.1 ii (by omega)
            have hb9 : Below Z1.heap.size Z1 wr.drew := HR.out.2.drew
            have hcx : wr.drew.cell? ⟨blk ps, ofs ps + i, none⟩ = some (.int .i64 (x : Int)) := by
              rw [hb9.cell (p := ⟨blk ps, ofs ps + i, none⟩) (HPC.out.2.1 i hlt), HPC.out.1 i hlt, HPC.out.2.2.2 i hlt, hx]
            have hcy : wr.drew.cell? ⟨blk ps, ofs ps + ii, none⟩ = some (.int .i64 (y : Int)) := by
              rw [hb9.cell (p := ⟨blk ps, ofs ps + ii, none⟩) (HPC.out.2.1 ii (by omega)), HPC.out.1 ii (by omega), HPC.out.2.2.2 ii (by omega), hy]
            have hgd := HR.out.1.below ((Below.refl _ _).drew)
            have hblk : blk ps < Z1.heap.size := HPC.out.2.1 i hlt
            have HE := Lib.hid (And.intro hed (And.intro hii hblk))
            clear hx hy hed hii hblk
            go_upto_region 15 with fail
            refine wp_region_plan (.take 0 (.take 1 (.take 2 (.take 3 (.take 4 (.take 5 (.take 7 (.take 8 (.take 9 (.take 10 (.alt 6 (.alt 11 (.take 12 .done) .stop) .stop)))))))))))
              (fun w' => w'.cell? ⟨bs, 0, none⟩ = some (.int .i64 g.n) ∧ w'.cell? ⟨bs, 1, none⟩ = some (.slice ca g.es.length cc) ∧ w'.cell? ⟨blk ps, ofs ps + i, none⟩ = some (.int .i64 (x : Int)) ∧ w'.cell? ⟨blk ps, ofs ps + ii, none⟩ = some (.int .i64 (y : Int))) (by kernel_rfl) (by kernel_rfl) (by kernel_rfl) (by kernel_rfl) ⟨hgd.g.box.1, hgd.g.box.2, hcx, hcy⟩ ?_
            repeat (
              refine plan_take (v := ?_) rfl (Or.inl ⟨by rfl, ?_⟩) ?_
              rotate_left
              · (intro W hW; obtain ⟨p1, p2, p3, p4⟩ := hW; go_simp; try with_reducible rfl)
              simp only [Act.put, List.setIfInBounds_toArray, List.getElem_toArray, List.getElem_cons_zero, List.getElem_cons_succ, List.set_cons_succ, List.set_cons_zero])
            have HD := Lib.hid (And.intro hgd (And.intro hb9 (And.intro hcx hcy)))
            clear hgd hcx hcy hb9
            generalize wr.drew = V at *
            refine plan_alt rfl ?_ plan_stop
            go_wp2_with fail
            have hc := gSucc_any g (.slice ca g.es.length cc) (y : Int) V HD.out.1.g.es
            unfold GV at hc
            refine hc.mono ?_
            rintro e V2 ⟨a5, k5, rfl, s5, b2⟩
            have hb10 := HD.out.2.1.trans (b2.mono HD.out.2.1.size)
            have hbv : blk ps < V.heap.size := Nat.lt_of_lt_of_le HE.out.2.2 HD.out.2.1.size
            have HS := Lib.hid (And.intro (HD.out.1.below b2) (And.intro s5 (And.intro ((b2.cell (p := ⟨blk ps, ofs ps + i, none⟩) hbv).trans HD.out.2.2.1) (And.intro ((b2.cell (p := ⟨blk ps, ofs ps + ii, none⟩) hbv).trans HD.out.2.2.2) hb10))))
            clear hc b2 s5 hb10 hbv
            go_wp2_with fail
            refine tail_mk ⟨HS.out.1.g.box.1, HS.out.1.g.box.2, HS.out.2.2.1, HS.out.2.2.2.1⟩ ?_
            refine plan_alt rfl ?_ plan_stop
            go_wp2_with fail
            refine (in_any _ _ (x : Int) V2 HS.out.2.1).mono ?_
            rintro e w' ⟨rfl, hw⟩
            have hmem : (x : Int) ∈ (sucZ g (y : Int)).map (fun x : Nat => (x : Int)) := by
              have hvg := gCode_ok.1 HC.out.1
              obtain ⟨ed, hed, h1, h2⟩ := mem_suc.1 HE.out.1
              have hin := hvg.inn ed hed
              have h3 : sucZ g (y : Int) = suc g.es y := by unfold sucZ; rw [if_pos (nodeG_iff.2 ⟨hvg, by omega, by omega⟩)]; rfl
              rw [h3]
              exact List.mem_map.2 ⟨x, HE.out.1, rfl⟩
            rw [hw, decide_eq_true hmem]
            clear hw w' hmem
            go_wp2_with fail
            refine tail_mk ⟨HS.out.1.g.box.1, HS.out.1.g.box.2, HS.out.2.2.1, HS.out.2.2.2.1⟩ ?_
            refine plan_take (v := ?_) rfl (Or.inl ⟨by rfl, ?_⟩) ?_
            rotate_left
            · (intro W hW; go_simp; try with_reducible rfl)
            simp only [Act.put, List.getElem_toArray]
            refine plan_done ?_
            go_wp2_with fail
            go_roundw
            case rel => exact ⟨i + 1, by omega, by omega, by go_num, HS.out.1, HS.out.2.2.2.2⟩
            case measure => simp [intOf]; omega
          · obtain rfl : i = l.length := by omega
            obtain ⟨c0, c1⟩ := HR.out.1.g.box
            have hbn : bs ≠ wr.heap.size := by have := World.block_lt_of_cell? wr ⟨bs, 0, none⟩ c0; dsimp only at this; omega
            have hb := (Below.refl wr.heap.size wr).alloc (Nat.le_refl _) (.cells #[.int .i64 a] 3)
            have HG := Lib.hid (And.intro (HR.out.1.below hb) (own_one' (Value.int .i64) (w := wr) (base := wr.heap.size) (e := 3) (B := wr.heap.size) a rfl (Nat.le_refl _)).lst)
            clear hb hlt hi
            go_wp2_with fail
            have hc := gReach_any g (.slice ca g.es.length cc) (.slice (some ⟨wr.heap.size, 0, none⟩) 1 1) [a] _ HG.out.1.g.es HG.out.2
            unfold GV at hc
            refine hc.mono ?_
            rintro e V ⟨ra, rc, L, rfl, iL, hb, hcase⟩
            rcases hcase with ⟨h1, -⟩ | ⟨-, -, h3⟩
            · exact absurd HC.out.1 h1
            have hbL : b ∈ L := (h3 b).2 ⟨by
              have h5 := (HWK.out.1 m (by have := HC.out.2.1; omega)).1
              rw [← HWK.out.2.2] at h5
              exact (nodeB_iff.1 h5).1, HP.out.2.2.2⟩
            have HB := Lib.hid (And.intro (bel_trans HG.out.1.bel hb) (And.intro iL (decide_eq_true hbL)))
            clear hc hb iL h3 hbL c0 c1
            go_wp2_with fail
            refine (in_any _ L b V HB.out.2.1).mono ?_
            rintro e w' ⟨rfl, hw⟩
            rw [hw, HB.out.2.2]
            clear hw w'
            go_wp2_with fail
            refine (awake_any _).mono ?_
            rintro e Z ⟨rfl, b⟩
            have HB := Lib.hid (bel_trans HB.out.1 b)
            go_wp2_with fail
            go_ret
            exact ⟨rfl, HB.out⟩
  · have q0 : (gCode g != 0) = true := by simpa using hc
    go_wp2_with fail
    refine (awake_any _).mono ?_
    rintro e Z ⟨rfl, b⟩
    have HB := Lib.hid (bel_trans H1.out.bel b)
    go_wp2_with fail
    go_ret
    exact ⟨rfl, HB.out⟩
set_option maxRecDepth 100000 in
theorem GraphShortest_lifted (os : Os) (started : os.Started) (H : Type) (enc : TypeId × Value → H) :
    ReturnsInHanded {} Try.checked os 5 .any (Rows.graphShortestSpec.pre6 enc Try.prog Try.f5 Rows.graphShortestRow.domain false) (Rows.graphShortestSpec.post enc Try.prog Try.f5 false true false false) := by
  refine returnsInHanded_of_change (C := Try.checked) own started (by kernel_rfl) Try.func5
    (ChangeSpec.witness6 (enc := enc) (C := Try.checked) false ⟨#[], #[.agg #[.int .i64 0, .slice none 0 0], .slice none 0 0], []⟩ 8 (by kernel_rfl) (by kernel_rfl) (by kernel_rfl) (by kernel_rfl)) ?_
  intro W base args ds gs before hval0 hW hcnd _
  have hval : ∀ (j : Nat) t v, Try.f5.params[j]? = some t → args[j]? = some v → Value.okWide Try.prog W .any base t v := hval0
  have hW' := hW
  obtain ⟨p, q, hA0, hV, rfl, hfz, hnd⟩ := hW
  have hA : DataW.TrodAll enc Try.prog W 0 (fun _ => true) true Try.f5.params.toList args.toList ds p := hA0
  rw [Try.params5] at hA hval
  obtain ⟨v0, vs0, d0, ds0, p0, q0, hargs, rfl, rfl, h0, r0⟩ := trodAll_cons hA
  obtain ⟨v1, vs1, d1, ds1, p1, q1, rfl, rfl, rfl, h1, r1⟩ := trodAll_cons r0
  obtain ⟨rfl, rfl, rfl⟩ := trodAll_nil r1
  obtain rfl : args = #[v0, v1] := by cases args; simp_all
  obtain ⟨rfl, rfl⟩ := trodVars_none hV
  obtain ⟨c0, rfl, sz0⟩ := okWide_struct Try.underlying25 (hval 0 25 v0 rfl rfl)
  have k0 := h0
  obtain ⟨g0, cv0, eq0, hC0⟩ := graph_of_trod sz0 h0
  obtain rfl : c0 = #[.int .i64 g0.n, cv0] := by simpa [GV] using eq0
  have lt0 : ∀ x ∈ p0, x.block < W.heap.size := by obtain ⟨m, hm⟩ := k0; exact DataW.trod_lt m _ _ _ hm
  obtain ⟨a1, len1, cap1, rfl⟩ := okWide_slice Try.underlying33 (hval 1 33 v1 rfl rfl)
  have k1 := h1
  have lt1 : ∀ x ∈ p1, x.block < W.heap.size := by obtain ⟨m, hm⟩ := k1; exact DataW.trod_lt m _ _ _ hm
  obtain ⟨l1, hl1, hI1, b1⟩ := ints_of_trod Try.underlying33 Try.underlying3 (by kernel_rfl) h1
  clear hA0 hval0
  refine (GraphShortest_walk g0 cv0 _ l1 W hC0 hI1 b1).mono fun e W' ⟨he, bel⟩ => ?_
  subst he
  exact ⟨_, rfl, _, _, _, [], _, [], hW', trodAll_mk1 (shut_bool Try.underlying4 _), (trodAll_cons_mk (Below.trod laidOut (by kernel_rfl) (of_decide_eq_true (by kernel_rfl)) k0 bel lt0) (trodAll_cons_mk (Below.trod laidOut (by kernel_rfl) (of_decide_eq_true (by kernel_rfl)) k1 bel lt1) trodAll_mk0)), rfl, bel.frame _, fun h => by cases h⟩

/-- The given statement. -/
theorem GraphShortest_holds : Rows.GraphShortestSaid :=
  OpenClaim.holds_of_wide 5 Try.f5 rfl rfl rfl rfl rfl rfl rfl ⟨rfl, rfl, rfl, rfl, rfl⟩ rfl rfl rfl rfl rfl (by kernel_rfl) Try.func5 (by kernel_rfl)
    (of_decide_eq_true (by kernel_rfl)) (by unfold Func.isWrapper; first | (rw [if_pos (by decide +kernel)]; kernel_rfl) | (rw [if_neg (by decide +kernel)]; exact ⟨rfl, rfl⟩))
    (fun os started H enc _ => GraphShortest_lifted os started H enc)

end Go.Proofs.Ytjapnkhgijhakaa
