/- Contract of the reference's Loops. -/
import Derived.Test.YtlijimdkadobmaaDpl
import Derived.Test.YtlijimdkadobmaaDtb
import Derived.Test.YtlijimdkadobmaaGw
namespace Go.Proofs.Ytlijimdkadobmaa
open Go.RowKit Go.Dfl Go.Gra
set_option maxHeartbeats 6400000 in
set_option maxRecDepth 100000 in
theorem rLoops_any (g : G) (cv : Value) (r : Int) (W : World) (h : Pairs W cv g.es) : Calls Try.prog 19 #[GV g cv, .int .i64 r] W (LoopsR g r W) := by
  obtain ⟨ca, cc, rfl, -, -, -⟩ := pairs_rd h
  have hal := (Below.refl W.heap.size W).alloc (Nat.le_refl _) (.cells #[.int .i64 g.n, .slice ca g.es.length cc] 24)
  have H0 := Lib.hid (And.intro (h.below hal) (And.intro hal (BoxG.new W g.n (.slice ca g.es.length cc) 24)))
  have HPW := Lib.hid h
  clear h hal
  unfold GV
  go_enter Try.func19, Try.ntmps19
  go_wp2_with fail
  have hck := rcheck_any g (.slice ca g.es.length cc) r _ H0.out.1
  unfold GV at hck
  refine hck.mono ?_
  rintro e W1 ⟨rfl, r1⟩
  have H1 := Lib.hid (And.intro (H0.out.1.below r1) (And.intro (H0.out.2.1.trans (r1.mono H0.out.2.1.size)) (H0.out.2.2.below r1)))
  clear r1 hck
  obtain ⟨c0, c1⟩ := H1.out.2.2
  by_cases hc : dcode g r = 0
  · have HZ : Hid (loopsZ g r = headsTo g r.toNat g.n.toNat) := Lib.hid (by unfold loopsZ; rw [if_pos hc])
    obtain ⟨v1, v2, v3⟩ := dcode_ok hc
    obtain ⟨k, rfl⟩ : ∃ k : Nat, r = (k : Int) := ⟨r.toNat, by omega⟩
    rw [Int.toNat_natCast] at v3
    have HV := Lib.hid (And.intro v1 (And.intro v3 hc))
    clear v1 v2 v3
    have hq : (dcode g (k : Int) != 0) = false := by simpa using hc
    clear hc
    rw [Int.toNat_natCast] at HZ
    have hb := rTable_any g (.slice ca g.es.length cc) k W1 H1.out.1 HV.out.1
    unfold GV at hb
    have HB := Lib.hid hb
    clear hb
    go_wp2_with fail
    refine HB.out.mono ?_
    rintro e W2 ⟨ta, tc, vs, rfl, hT, b2⟩
    obtain ⟨n, hn⟩ : ∃ n, n = g.n.toNat := ⟨_, rfl⟩
    have hgn : g.n = (n : Int) := by have := HV.out.1.n0; omega
    have hn8 : n ≤ 8192 := by have := HV.out.1.n1; omega
    rw [← hn] at hT ⊢
    have H2 := Lib.hid (And.intro hT (And.intro (H1.out.2.1.trans (b2.mono H1.out.2.1.size)) (And.intro (H1.out.2.2.below b2) (And.intro hn hgn))))
    clear hT b2 hn hgn HB c0 c1
    obtain ⟨c0, c1⟩ := H2.out.2.2.1
    rw [H2.out.2.2.2.2] at c0
    have hbW : W.heap.size < W2.heap.size := World.block_lt_of_cell? W2 ⟨W.heap.size, 0, none⟩ c0
    go_wp2_with fail
    clear c0 c1
    obtain ⟨W2', hW2⟩ : ∃ Z, Z = W2 := ⟨_, rfl⟩
    rw [← hW2] at H2 hbW
    have HB2 := Lib.hid (show Below W2'.heap.size W2' W2 by rw [hW2]; exact Below.refl _ _)
    clear hW2
    obtain ⟨ca', cc', he, -, hci, hcc⟩ := pairs_rd HPW.out
    simp only [Value.slice.injEq] at he
    obtain ⟨rfl, -, rfl⟩ := he
    have HCC := Lib.hid hcc
    clear hcc
    go_loopw [8, 9] (fun lv x wr => ∃ (m : Nat) (la : Option Addr) (lc : Nat) (es : List LpE) (ls : List (Int × List Int)), m ≤ n ∧ x = .int .i64 (m : Int) ∧ lv = .slice la ls.length lc ∧ Hid (LoW W2'.heap.size (.slice la ls.length lc) es ls wr ∧ Below W2'.heap.size W2' wr ∧ LpsAre g k (headsTo g k m) ls)) (fun _ x _ => n - (intOf x).toNat)
    case atStart => exact ⟨0, none, 0, [], [], by omega, rfl, rfl, LoW.nil, HB2.out, rfl, fun i hi => by simp [headsTo] at hi⟩
    case round =>
      obtain ⟨m, la, lc, es, ls, hm, rfl, rfl, hh⟩ := hrel
      have HL := Lib.hid hh.out
      clear hh
      obtain ⟨c0, c1⟩ := H2.out.2.2.1.below HL.out.2.1
      rw [H2.out.2.2.2.2] at c0
      by_cases hlt : m < n
      · have hkl : (m : Int) < (n : Int) := by omega
        go_wp2_with fail
        clear c0 c1
        obtain ⟨WH, hWH⟩ : ∃ WH, WH = wr := ⟨_, rfl⟩
        rw [← hWH] at HL
        have H0w := Lib.hid (show Below WH.heap.size WH wr by rw [hWH]; exact Below.refl _ _)
        clear hWH
        have hel := HV.out.1.len
        go_loopw [10, 11] (fun sv x wr => ∃ (i : Nat) (sa : Option Addr) (sc : Nat), i ≤ g.es.length ∧ x = .int .i64 (i : Int) ∧ sv = .slice sa (startsE g k m i).length sc ∧ Hid (OwnI wr WH.heap.size 3 (.slice sa (startsE g k m i).length sc) (startsE g k m i) ∧ Below WH.heap.size WH wr)) (fun _ x _ => g.es.length - (intOf x).toNat)
        case atStart => exact ⟨0, none, 0, by omega, rfl, rfl, Go.Dfl.Own.nil _ _ _ _, H0w.out⟩
        case round =>
          obtain ⟨i, sa, sc, hi, rfl, rfl, hh⟩ := hrel
          have HS := Lib.hid hh.out
          clear hh
          have hb1 := HL.out.2.1.trans (HS.out.2.mono HL.out.2.1.size)
          obtain ⟨c0, c1⟩ := H2.out.2.2.1.below hb1
          rw [H2.out.2.2.2.2] at c0
          have HB1 := Lib.hid hb1
          have hsl := startsE_len g k m i
          by_cases hit : i < g.es.length
          · have hil : (i : Int) < (g.es.length : Int) := by omega
            have hb0 := H2.out.2.1.trans (hb1.mono H2.out.2.1.size)
            obtain ⟨p0, p1⟩ := (HCC.out i hit).2 wr hb0
            have HT := Lib.hid (Grid.bel H2.out.1 hb1)
            have j1 := hci (i : Int) (by omega) (by omega)
            rw [Int.toNat_natCast] at j1
            have hin := HV.out.1.nth hit
            have hyes := startsE_yes (g := g) (r := k) (h := m) hit
            have hno := startsE_no (g := g) (r := k) (h := m) hit
            obtain ⟨e, he⟩ : ∃ e, e = nth g.es i := ⟨_, rfl⟩
            have hpc := (HCC.out i hit).2
            rw [← he] at p0 p1 hin hyes hno hpc
            obtain ⟨e1, e2⟩ := e
            dsimp only at p0 p1 hin hyes hno hpc
            obtain ⟨a, rfl⟩ : ∃ a : Nat, e1 = (a : Int) := ⟨e1.toNat, by omega⟩
            rw [Int.toNat_natCast] at hyes hno
            have han : a < n := by have := H2.out.2.2.2.2; omega
            have HYN := Lib.hid (And.intro hyes hno)
            have HPC := Lib.hid hpc
            clear he hin hb0 hb1 hyes hno hpc
            by_cases hem : e2 = (m : Int)
            · have w1 : (e2 == (m : Int)) = true := by simpa using hem
              obtain ⟨ra, rc, t1, t2, t3, t4⟩ := tab_rd HT.out H2.out.2.2.2.1 hlt han
              cases hdb : domB g k m a
              · rw [hdb] at t3
                have HX := Lib.hid (HYN.out.2 (.inr hdb))
                clear hdb hem
                go_upto_region 13 with fail
                go_quiet (fail)
                have HQ9 := Lib.hid (fun q : Nat => And.intro (HS.out.1.below (below_drewN (Below.refl _ _) q)) (HS.out.2.trans ((below_drewN (Below.refl _ _) q).mono HS.out.2.size)))
                go_wp2_with fail
                go_roundw
                case rel => exact ⟨i + 1, sa, sc, by omega, by go_num, by rw [HX.out], by rw [HX.out]; exact HQ9.out _⟩
                case measure => simp [intOf]; omega
              · rw [hdb] at t3
                have HX := Lib.hid (HYN.out.1 hem hdb)
                clear hdb hem
                go_upto_region 13 with fail
                go_quiet (fail)
                go_upto_region 14 with fail
                refine gen_wp ?_
                intro Z hZ
                have hz : Below wr.heap.size wr Z := hZ.below _
                have HQ9 := Lib.hid (And.intro (HS.out.1.below hz) (HS.out.2.trans (hz.mono HS.out.2.size)))
                have hsz := HQ9.out.2.size
                have hll : (startsE g k m i).length < 17592186044416 := by omega
                have hbz := H2.out.2.1.trans ((HB1.out.trans (hz.mono HB1.out.size)).mono H2.out.2.1.size)
                obtain ⟨p0, p1⟩ := HPC.out Z hbz
                obtain ⟨c0, c1⟩ := H2.out.2.2.1.below (HB1.out.trans (hz.mono HB1.out.size))
                clear hZ hz hbz t1 t2 t3 t4
                go_wp2_with (at_builtin; refine wp_append1at (f := Value.int .i64) sIntG rfl _ rfl _ _ rfl WH.heap.size _ (startsE g k m i) rfl (HQ9.out.1.alloc _) (a : Int) ⟨Z.heap.size, 0, none⟩ rfl (cell_alloc1 _ _ _) rfl hll (by omega) (le_alloc _ hsz) ?_; intro v' w3 hown hgr hat; obtain ⟨s9, c9, rfl⟩ := hown.shape (n := (startsE g k m i).length + 1) (by rw [List.length_append]; rfl); have HO := Lib.hid (And.intro hown ((HQ9.out.2.alloc hsz _).grown hgr (by rw [World.size_alloc]; omega) (fun q e => (HQ9.out.1.lt q e).1))); clear hown hgr hat)
                go_roundw
                case rel => exact ⟨i + 1, s9, c9, by omega, by go_num, by rw [HX.out, List.length_append]; rfl, by rw [HX.out, List.length_append]; exact HO.out⟩
                case measure => simp [intOf]; omega
            · have w1 : (e2 == (m : Int)) = false := by simpa using hem
              have HX := Lib.hid (HYN.out.2 (.inl hem))
              clear hem
              go_upto_region 13 with fail
              go_quiet (fail)
              have HQ9 := Lib.hid (fun q : Nat => And.intro (HS.out.1.below (below_drewN (Below.refl _ _) q)) (HS.out.2.trans ((below_drewN (Below.refl _ _) q).mono HS.out.2.size)))
              go_wp2_with fail
              go_roundw
              case rel => exact ⟨i + 1, sa, sc, by omega, by go_num, by rw [HX.out], by rw [HX.out]; exact HQ9.out _⟩
              case measure => simp [intOf]; omega
          · obtain rfl : i = g.es.length := by omega
            clear hb1
            obtain ⟨st, hst⟩ : ∃ st, st = startsE g k m g.es.length := ⟨_, rfl⟩
            rw [← hst] at HS hsl ⊢
            have hall := startsE_all HV.out.1 k m
            rw [← hst] at hall
            have hhl := headsTo_len g k m
            by_cases hemp : startsN g k m = []
            · have hl0 : st.length = 0 := by rw [hall, hemp]; rfl
              have HY := Lib.hid (headsTo_no hemp)
              clear hst hall hemp
              rw [hl0]
              go_wp2_with fail
              go_roundw
              case rel => exact ⟨m + 1, la, lc, es, ls, by omega, by go_num, rfl, HL.out.1.below HS.out.2, HB1.out, by rw [HY.out]; exact HL.out.2.2⟩
              case measure => simp [intOf]; omega
            · have hln : st.length ≠ 0 := by rw [hall, List.length_map]; exact fun e => hemp (List.eq_nil_of_length_eq_zero e)
              have hl0 : ((st.length : Int) == 0) = false := by simp; exact fun e => hln (by rw [e]; rfl)
              have HY := Lib.hid (And.intro (headsTo_yes hemp) (And.intro hall hst))
              clear hst hall hemp hln
              go_wp2_with fail
              clear c0 c1
              obtain ⟨WJ, hWJ⟩ : ∃ WJ, WJ = wr := ⟨_, rfl⟩
              rw [← hWJ] at HS HB1
              have H0j := Lib.hid (show Below WJ.heap.size WJ wr by rw [hWJ]; exact Below.refl _ _)
              clear hWJ
              go_loopw [12, 13] (fun sv x wr => ∃ (i : Nat) (ea : Option Addr) (ec : Nat), i ≤ g.es.length ∧ x = .int .i64 (i : Int) ∧ sv = .slice ea (flipK g.es (m : Int) i).length ec ∧ Hid (OwnE elE wr WJ.heap.size 53 (.slice ea (flipK g.es (m : Int) i).length ec) (flipK g.es (m : Int) i) ∧ Below WJ.heap.size WJ wr)) (fun _ x _ => g.es.length - (intOf x).toNat)
              case atStart => exact ⟨0, none, 0, by omega, rfl, rfl, OwnE.nil _ _ _ _, H0j.out⟩
              case round =>
                obtain ⟨i, ea, ec, hi, rfl, rfl, hh⟩ := hrel
                have HE := Lib.hid hh.out
                clear hh
                have hb1 := HB1.out.trans (HE.out.2.mono HB1.out.size)
                obtain ⟨c0, c1⟩ := H2.out.2.2.1.below hb1
                rw [H2.out.2.2.2.2] at c0
                have HB3 := Lib.hid hb1
                have hfl := flipK_len g.es (m : Int) i
                by_cases hit : i < g.es.length
                · have hil : (i : Int) < (g.es.length : Int) := by omega
                  have hb0 := H2.out.2.1.trans (hb1.mono H2.out.2.1.size)
                  obtain ⟨p0, p1⟩ := (HCC.out i hit).2 wr hb0
                  have j1 := hci (i : Int) (by omega) (by omega)
                  rw [Int.toNat_natCast] at j1
                  have hyes := flipK_yes (o := (m : Int)) hit
                  have hno := flipK_no (o := (m : Int)) hit
                  obtain ⟨e, he⟩ : ∃ e, e = nth g.es i := ⟨_, rfl⟩
                  have hpc := (HCC.out i hit).2
                  rw [← he] at p0 p1 hyes hno hpc
                  obtain ⟨e1, e2⟩ := e
                  dsimp only at p0 p1 hyes hno hpc
                  have HYN := Lib.hid (And.intro hyes hno)
                  have HPC := Lib.hid hpc
                  clear he hb0 hb1 hyes hno hpc
                  by_cases h1 : e1 = (m : Int)
                  · have w1 : (e1 != (m : Int)) = false := by simpa using h1
                    have HX := Lib.hid (HYN.out.2 (.inl h1))
                    clear h1
                    go_wp2_with fail
                    go_roundw
                    case rel => exact ⟨i + 1, ea, ec, by omega, by go_num, by rw [HX.out], by rw [HX.out]; exact HE.out⟩
                    case measure => simp [intOf]; omega
                  · have w1 : (e1 != (m : Int)) = true := by simpa using h1
                    by_cases h2 : e2 = (m : Int)
                    · have w2 : (e2 != (m : Int)) = false := by simpa using h2
                      have HX := Lib.hid (HYN.out.2 (.inr h2))
                      clear h1 h2
                      go_wp2_with fail
                      go_roundw
                      case rel => exact ⟨i + 1, ea, ec, by omega, by go_num, by rw [HX.out], by rw [HX.out]; exact HE.out⟩
                      case measure => simp [intOf]; omega
                    · have w2 : (e2 != (m : Int)) = true := by simpa using h2
                      have HX := Lib.hid (HYN.out.1 h1 h2)
                      clear h1 h2
                      go_upto_region 21 with fail
                      have hbd : Below wr.heap.size wr wr.drew := (Below.refl _ _).drew
                      have hb9 := H2.out.2.1.trans ((HB3.out.trans (hbd.mono HB3.out.size)).mono H2.out.2.1.size)
                      obtain ⟨p0, p1⟩ := HPC.out wr.drew hb9
                      obtain ⟨-, c1'⟩ := H2.out.2.2.1.below (HB3.out.trans (hbd.mono HB3.out.size))
                      have HD := Lib.hid (And.intro (show OwnE elE wr.drew WJ.heap.size 53 (.slice ea (flipK g.es (m : Int) i).length ec) (flipK g.es (m : Int) i) from OwnE.grown HE.out.1 (grownBy_below hbd) (by cases (Value.slice ea (flipK g.es (m : Int) i).length ec).ownBlock <;> simp)) (HE.out.2.trans (hbd.mono HE.out.2.size)))
                      have hle8 : ((flipK g.es (m : Int) i).length + 1) * 16 ≤ 140737488355328 := by omega
                      have hle9 : (flipK g.es (m : Int) i).length + 1 ≤ 1000000000000 := by omega
                      have HH := Lib.hid (And.intro hle8 hle9)
                      have hbs1 : W.heap.size < WJ.heap.size := by have := HB1.out.size; omega
                      clear hbd hb9 hle8 hle9 c0 c1
                      refine wp_region_plan (.take 0 (.take 1 (.take 2 (.take 3 (.take 4 (.take 5 (.take 6 (.take 7 (.take 8 (.take 9 (.take 10 (.take 11 (.take 12 (.take 13 (.alt 14 (.alt 15 (.alt 16 .done .stop) .stop) .stop)))))))))))))))
                        (fun w' => w'.cell? ⟨W.heap.size, 1, none⟩ = some (.slice ca g.es.length cc) ∧ w'.cell? ⟨blk ca, ofs ca + i * 2, none⟩ = some (.int .i64 e1) ∧ w'.cell? ⟨blk ca, ofs ca + i * 2 + 1, none⟩ = some (.int .i64 e2)) (by kernel_rfl) (by kernel_rfl) (by kernel_rfl) (by kernel_rfl) ⟨c1', p0, p1⟩ ?_
                      repeat (
                        refine plan_take (v := ?_) rfl (Or.inl ⟨by rfl, ?_⟩) ?_
                        rotate_left
                        · (intro W hW; obtain ⟨q1, q2, q3⟩ := hW; go_simp; try with_reducible rfl)
                        simp only [Act.put, List.setIfInBounds_toArray, List.getElem_toArray, List.getElem_cons_zero, List.getElem_cons_succ, List.set_cons_succ, List.set_cons_zero])
                      have HS9 := Lib.hid (And.intro c1' (And.intro p0 p1))
                      clear c1' p0 p1
                      generalize wr.drew = V at *
                      refine plan_alt rfl ?_ plan_stop
                      go_wp2_with fail
                      have gA := grownBy_alloc V (.cells #[.int .i64 e2, .int .i64 e1] 53)
                      have HS2 := Lib.hid (HS9.out.imp (fun h => gA.cell h (by simp)) fun h => h.imp (fun h => gA.cell h (by simp)) fun h => gA.cell h (by simp))
                      refine tail_mk HS2.out ?_
                      clear gA
                      refine plan_alt rfl ?_ plan_stop
                      (refine wp_appendE (E := elE) sEdge rfl rfl _ _ rfl rfl V.heap.size rfl (ownE_alloc HD.out.1 (.cells #[.int .i64 e2, .int .i64 e1] 53)) (e2, e1) (cells_new (cs := [.int .i64 e2, .int .i64 e1]) rfl) HH.out.1 HH.out.2 (by rw [World.size_alloc]; exact Nat.le_succ_of_le HD.out.2.size) ?_; intro v' w3 hown hgr hat; obtain ⟨s9, c9, rfl⟩ := hown.shape (n := (flipK g.es (m : Int) i).length + 1) (by rw [List.length_append]; rfl); have HO := Lib.hid (And.intro hown hgr); clear hown hgr hat)
                      have hnb := OwnE.lt HD.out.1
                      have hca : blk ca < W.heap.size := (HCC.out i hit).1
                      have hS3 := HS2.out.imp (fun h => HO.out.2.cell h (fun e => by have := hnb _ e.symm; dsimp only at this; omega)) fun h => h.imp (fun h => HO.out.2.cell h (fun e => by have := hnb _ e.symm; have := HB1.out.size; dsimp only at *; omega)) fun h => HO.out.2.cell h (fun e => by have := hnb _ e.symm; have := HB1.out.size; dsimp only at *; omega)
                      have HS3 := Lib.hid hS3
                      clear hnb hbs1 hca hS3
                      refine tail_mk HS3.out ?_
                      refine plan_alt rfl ?_ plan_stop
                      go_wp2_with fail
                      refine tail_mk HS3.out ?_
                      refine plan_done ?_
                      go_wp2_with fail
                      go_roundw
                      case rel => exact ⟨i + 1, s9, c9, by omega, by go_num, by rw [HX.out, List.length_append]; rfl, by rw [HX.out, List.length_append]; exact ⟨HO.out.1, (HD.out.2.alloc HD.out.2.size _).grown HO.out.2 (by rw [World.size_alloc]; have := HD.out.2.size; omega) (fun q e => (OwnE.lt HD.out.1 q e).1)⟩⟩
                      case measure => simp [intOf]; omega
                · obtain rfl : i = g.es.length := by omega
                  clear hb1
                  obtain ⟨F, hF⟩ : ∃ F, F = flipK g.es (m : Int) g.es.length := ⟨_, rfl⟩
                  rw [← hF] at HE hfl ⊢
                  have hmk := rMake_any (n : Int) (.slice ea F.length ec) F wr (own_pairs HE.out.1) (by omega)
                  have HMK := Lib.hid hmk
                  have HFF := Lib.hid hF
                  clear hmk hF
                  go_wp2_with fail
                  refine HMK.out.mono ?_
                  rintro e W5 ⟨ba, bc, bg, code, rfl, bp, bm, b5⟩
                  unfold GV
                  rw [HFF.out] at bm
                  obtain ⟨g1, g2, g3⟩ := mk_flip HV.out.1 H2.out.2.2.2.2.symm bm
                  have hln := node_lpn (r := k) (h := m) HV.out.1 HV.out.2.1 H2.out.2.2.2.2.symm bm
                  rw [← HY.out.2.2] at hln
                  have hbn : bg.n.toNat = n := by rw [g2, H2.out.2.2.2.2, Int.toNat_natCast]
                  have hal := (Below.refl W5.heap.size W5).alloc (Nat.le_refl _) (.cells #[.int .i64 bg.n, .slice ba bg.es.length bc] 24)
                  have hb5 := HE.out.2.trans (b5.mono HE.out.2.size)
                  have hb6 := hb5.trans (hal.mono hb5.size)
                  have hbx := BoxG.new W5 bg.n (.slice ba bg.es.length bc) 24
                  have H6 := Lib.hid (And.intro (bp.below hal) (And.intro hbx (And.intro hb6 (And.intro (HS.out.1.below hb6) (And.intro g1 (And.intro hbn hln))))))
                  clear bp bm b5 g1 g2 g3 hal hb5 hb6 hbx hbn hln HMK c0 c1
                  obtain ⟨x0, x1⟩ := H6.out.2.1
                  go_upto_region 23 with fail
                  generalize W5.alloc (.cells #[.int .i64 bg.n, .slice ba bg.es.length bc] 24) = W6 at *
                  have hdi := rDistances_any bg (.slice ba bg.es.length bc) (.slice sa st.length sc) st W6 H6.out.1 H6.out.2.2.2.1.lst H6.out.2.2.2.2.1
                  unfold GV at hdi
                  have HDI := Lib.hid hdi
                  clear hdi
                  go_wp2_with fail
                  refine HDI.out.mono ?_
                  rintro e W7 ⟨da, dc, rfl, q1, b7⟩
                  rw [H6.out.2.2.2.2.2.1] at q1 ⊢
                  obtain ⟨d, hd⟩ : ∃ d, d = distL bg st := ⟨_, rfl⟩
                  have hdl : d.length = n := by rw [hd, distL_len H6.out.2.2.2.2.1]; exact H6.out.2.2.2.2.2.1
                  have hln := H6.out.2.2.2.2.2.2
                  rw [← hd] at q1 hln
                  obtain ⟨da', dc', he, dm, di, dcl, dbl⟩ := q1.lst.out1 sIntG
                  rw [hdl] at he dm di dcl dbl
                  simp only [Value.slice.injEq] at he
                  obtain ⟨rfl, -, rfl⟩ := he
                  have hb7 := H6.out.2.2.1.trans (b7.mono H6.out.2.2.1.size)
                  have hb17 := HB1.out.trans (hb7.mono HB1.out.size)
                  have H7 := Lib.hid (And.intro hb17 (And.intro (HS.out.2.trans (hb7.mono HS.out.2.size)) (And.intro dcl (And.intro dbl hln))))
                  have hbx := cells_new (W := W7) (cs := [.int .i64 (m : Int), .slice none 0 0]) (t := 33) rfl
                  have hfl0 : Fld (Value.int .i64) 3 W7.heap.size 1 (W7.heap.size + 1) ((nodeK g k m d 0).map fun x : Nat => (x : Int)) (W7.alloc (.cells #[.int .i64 (m : Int), .slice none 0 0] 33)) := ⟨⟨_, hbx 1 _ rfl, Go.Dfl.Own.nil _ _ _ _⟩, World.frozen?_alloc_new _ _ _ _, Nat.lt_succ_self _⟩
                  have H8 := Lib.hid (And.intro hfl0 (And.intro (hbx 0 _ rfl) ((Below.refl W7.heap.size W7).alloc (Nat.le_refl _) (.cells #[.int .i64 (m : Int), .slice none 0 0] 33))))
                  obtain ⟨c0, c1⟩ := H2.out.2.2.1.below hb17
                  rw [H2.out.2.2.2.2] at c0
                  clear q1 b7 hd hln hdl dcl dbl hb7 hb17 hbx hfl0 HDI
                  go_upto_region 26 with fail
                  clear c0 c1
                  refine gen_code (fun Z => Fld (Value.int .i64) 3 W7.heap.size 1 (W7.heap.size + 1) ((nodeK g k m d 0).map fun x : Nat => (x : Int)) Z ∧ Z.cell? ⟨W7.heap.size, 0, none⟩ = some (.int .i64 (m : Int)) ∧ Below W7.heap.size W7 Z) H8.out ?_
                  clear H8
                  intro W8 h8
                  obtain ⟨bl, hbl⟩ : ∃ bl, bl = W7.heap.size := ⟨_, rfl⟩
                  rw [← hbl] at h8 ⊢
                  have H8 := Lib.hid h8
                  have HBL := Lib.hid hbl
                  clear h8 hbl
                  go_loopw [18] (fun x wr => ∃ v : Nat, v ≤ n ∧ x = .int .i64 (v : Int) ∧ Hid (Fld (Value.int .i64) 3 bl 1 (bl + 1) ((nodeK g k m d v).map fun x : Nat => (x : Int)) wr ∧ wr.cell? ⟨bl, 0, none⟩ = some (.int .i64 (m : Int)) ∧ Below W7.heap.size W7 wr)) (fun x _ => n - (intOf x).toNat)
                  case atStart => exact ⟨0, by omega, rfl, H8.out.1, H8.out.2.1, by have h := H8.out.2.2; rw [HBL.out] at h; exact h⟩
                  case round =>
                    obtain ⟨v, hv, rfl, hh⟩ := hrel
                    have HN := Lib.hid hh.out
                    clear hh
                    have hbn := H7.out.1.trans (HN.out.2.2.mono H7.out.1.size)
                    obtain ⟨c0, c1⟩ := H2.out.2.2.1.below hbn
                    rw [H2.out.2.2.2.2] at c0
                    have HT := Lib.hid (Grid.bel H2.out.1 hbn)
                    have HBN := Lib.hid hbn
                    have hnl := nodeK_len g k m d v
                    clear hbn
                    by_cases hvt : v < n
                    · have hvl : (v : Int) < (n : Int) := by omega
                      by_cases hvm : v = m
                      · have w1 : ((v : Int) == (m : Int)) = true := by simp; omega
                        have HX := Lib.hid (nodeK_yes (g := g) (r := k) (h := m) (d := d) (k := v) (by rw [decide_eq_true hvm]; rfl))
                        clear hvm
                        obtain ⟨nv, n1, n2⟩ := HN.out.1.ex
                        obtain ⟨na, nc, rfl⟩ := n2.shape (n := (nodeK g k m d v).length) (by rw [List.length_map])
                        have HNO := Lib.hid n2
                        have hsz := HN.out.2.2.size
                        have hsB : bl + 1 ≤ wr.heap.size := HN.out.1.in
                        have hll : ((nodeK g k m d v).map fun x : Nat => (x : Int)).length < 17592186044416 := by rw [List.length_map]; omega
                        clear n2
                        go_wp2_with (at_builtin; refine wp_append1at (f := Value.int .i64) sIntG rfl _ rfl _ _ rfl (bl + 1) _ ((nodeK g k m d v).map fun x : Nat => (x : Int)) rfl (HNO.out.alloc _) (v : Int) ⟨wr.heap.size, 0, none⟩ rfl (cell_alloc1 _ _ _) rfl hll (by omega) (le_alloc _ hsB) ?_; intro v' w3 hown hgr hat; obtain ⟨s9, c9, rfl⟩ := hown.shape (n := (nodeK g k m d v).length + 1) (by rw [List.length_append, List.length_map]; rfl); have HO := Lib.hid (HN.out.1.app n1 hown hgr); obtain ⟨o1, o2, -, -, -⟩ := HO.out; clear hown hgr hat n1)
                        have hbz := HO.out.2.2.2.2 _ _ HN.out.2.2 (by rw [HBL.out]; exact Nat.le_refl _)
                        obtain ⟨c0, c1⟩ := H2.out.2.2.1.below (H7.out.1.trans (hbz.mono H7.out.1.size))
                        have HBZ := Lib.hid hbz
                        clear hbz o1 o2
                        go_roundw
                        case rel => exact ⟨v + 1, by omega, by go_num, by rw [HX.out, List.map_append]; exact ⟨HO.out.2.2.1, HO.out.2.2.2.1 0 _ (by omega) HN.out.2.1, HBZ.out⟩⟩
                        case measure => simp [intOf]; omega
                      · have w1 : ((v : Int) == (m : Int)) = false := by simp; omega
                        obtain ⟨z, hz⟩ : ∃ z, z = nth d v := ⟨_, rfl⟩
                        have r5 : wr.cell? ⟨blk da, ofs da + v, none⟩ = some (.int .i64 z) := by
                          rw [HN.out.2.2.cell (p := ⟨blk da, ofs da + v, none⟩) (H7.out.2.2.2.1 v hvt), H7.out.2.2.1 v hvt, hz]
                        have i5 := di .i64 (v : Int) (by omega) (by omega)
                        rw [Int.toNat_natCast] at i5
                        by_cases hz0 : 0 ≤ z
                        · have w2 : decide (z ≥ 0) = true := decide_eq_true hz0
                          have w2' : decide (0 ≤ z) = true := decide_eq_true hz0
                          have hkn : k < n := by have := HV.out.2.1; rw [H2.out.2.2.2.1]; exact this
                          obtain ⟨ra, rc, t1, t2, t3, t4⟩ := tab_rd HT.out H2.out.2.2.2.1 hkn hvt
                          cases hdb : domB g k k v
                          · rw [hdb] at t3
                            have HX := Lib.hid (nodeK_no (g := g) (r := k) (h := m) (d := d) (k := v) (by rw [decide_eq_false hvm, hdb, Bool.and_false]; rfl))
                            clear hvm hz hz0 hdb
                            go_wp2_with fail
                            go_roundw
                            case rel => exact ⟨v + 1, by omega, by go_num, by rw [HX.out]; exact HN.out⟩
                            case measure => simp [intOf]; omega
                          · rw [hdb] at t3
                            have HX := Lib.hid (nodeK_yes (g := g) (r := k) (h := m) (d := d) (k := v) (by rw [hdb, ← hz, decide_eq_true hz0, Bool.or_eq_true]; exact .inr rfl))
                            clear hvm hz hz0 hdb
                            obtain ⟨nv, n1, n2⟩ := HN.out.1.ex
                            obtain ⟨na, nc, rfl⟩ := n2.shape (n := (nodeK g k m d v).length) (by rw [List.length_map])
                            have HNO := Lib.hid n2
                            have hsz := HN.out.2.2.size
                            have hsB : bl + 1 ≤ wr.heap.size := HN.out.1.in
                            have hll : ((nodeK g k m d v).map fun x : Nat => (x : Int)).length < 17592186044416 := by rw [List.length_map]; omega
                            clear n2
                            go_wp2_with (at_builtin; refine wp_append1at (f := Value.int .i64) sIntG rfl _ rfl _ _ rfl (bl + 1) _ ((nodeK g k m d v).map fun x : Nat => (x : Int)) rfl (HNO.out.alloc _) (v : Int) ⟨wr.heap.size, 0, none⟩ rfl (cell_alloc1 _ _ _) rfl hll (by omega) (le_alloc _ hsB) ?_; intro v' w3 hown hgr hat; obtain ⟨s9, c9, rfl⟩ := hown.shape (n := (nodeK g k m d v).length + 1) (by rw [List.length_append, List.length_map]; rfl); have HO := Lib.hid (HN.out.1.app n1 hown hgr); obtain ⟨o1, o2, -, -, -⟩ := HO.out; clear hown hgr hat n1)
                            have hbz := HO.out.2.2.2.2 _ _ HN.out.2.2 (by rw [HBL.out]; exact Nat.le_refl _)
                            obtain ⟨c0, c1⟩ := H2.out.2.2.1.below (H7.out.1.trans (hbz.mono H7.out.1.size))
                            have HBZ := Lib.hid hbz
                            clear hbz o1 o2
                            go_roundw
                            case rel => exact ⟨v + 1, by omega, by go_num, by rw [HX.out, List.map_append]; exact ⟨HO.out.2.2.1, HO.out.2.2.2.1 0 _ (by omega) HN.out.2.1, HBZ.out⟩⟩
                            case measure => simp [intOf]; omega
                        · have w2 : decide (z ≥ 0) = false := decide_eq_false hz0
                          have w2' : decide (0 ≤ z) = false := decide_eq_false hz0
                          have HX := Lib.hid (nodeK_no (g := g) (r := k) (h := m) (d := d) (k := v) (by rw [decide_eq_false hvm, ← hz, decide_eq_false hz0]; rfl))
                          clear hvm hz hz0
                          go_wp2_with fail
                          go_roundw
                          case rel => exact ⟨v + 1, by omega, by go_num, by rw [HX.out]; exact HN.out⟩
                          case measure => simp [intOf]; omega
                    · obtain rfl : n = v := by omega
                      obtain ⟨nv, n1, n2⟩ := HN.out.1.ex
                      obtain ⟨na, nc, rfl⟩ := n2.shape (n := (nodeK g k m d n).length) (by rw [List.length_map])
                      have hlpn := H7.out.2.2.2.2
                      rw [← H2.out.2.2.2.1] at hlpn
                      obtain ⟨M, hM⟩ : ∃ M, M = nodeK g k m d n := ⟨_, rfl⟩
                      rw [← hM] at n1 n2 hlpn hnl
                      have n0 := HN.out.2.1
                      have hbw := H7.out.2.1.trans (HN.out.2.2.mono H7.out.2.1.size)
                      have hlo := HL.out.1.below hbw
                      have hb35 := HBN.out
                      have hsz := hb35.size
                      have hel9 := hlo.len
                      have hlsl : ls.length ≤ m := by rw [HL.out.2.2.1]; exact hhl
                      have hlb : ∀ q, (Value.slice na M.length nc).ownBlock = some q → (Value.slice la ls.length lc).ownBlock ≠ some q := fun q e e2 => by
                        have h9 := (n2.lt q e).1
                        have h10 := (HL.out.1.out.lt q e2).2
                        have h11 := H7.out.2.1.size
                        have h12 := HBL.out
                        omega
                      have hr5 := n2.mono (show W2'.heap.size ≤ bl + 1 by have := H7.out.1.size; have := HBL.out; omega)
                      have HQ := Lib.hid (And.intro hlo (And.intro hb35 (And.intro hlpn (And.intro hlb (And.intro hr5 hel9)))))
                      have hgr5 := grownBy_alloc wr (.cells #[.int .i64 (m : Int), .slice na M.length nc] 33)
                      have hlo2 := hlo.out.grown hgr5 (by cases (Value.slice la ls.length lc).ownBlock <;> simp)
                      have HLO := Lib.hid hlo2
                      have hlen1 : (es.length + 1) * 32 ≤ 140737488355328 := by omega
                      have hlen2 : es.length + 1 ≤ 1000000000000 := by omega
                      clear n2 hM hlpn hlo hb35 hel9 hlb hr5 hgr5 hlo2 hhl hbw
                      go_wp2_with (at_builtin; refine wp_appendE (E := ELp) sLoopG rfl rfl _ _ rfl (v := .slice la ls.length lc) (l := es) (base := W2'.heap.size) rfl wr.heap.size rfl HLO.out (⟨(m : Int), na, M.length, nc⟩ : LpE) (cells_new (W := wr) (cs := [.int .i64 (m : Int), .slice na M.length nc]) (t := 33) rfl) hlen1 hlen2 (le_alloc _ hsz) ?_; intro v' w3 hown hgr hat; obtain ⟨s9, c9, rfl⟩ := hown.shape (n := ls.length + 1) (by rw [List.length_append, List.length_singleton, HQ.out.2.2.2.2.2]); have HO := Lib.hid (And.intro hown (And.intro hgr hat)); clear hown hgr hat)
                      have hbA := (Below.refl wr.heap.size wr).alloc (Nat.le_refl _) (.cells #[.int .i64 (m : Int), .slice na M.length nc] 33)
                      have hpush := (HQ.out.1.below hbA).push HO.out.1 HO.out.2.1 HO.out.2.2 (HQ.out.2.2.2.2.1.below hbA) HQ.out.2.2.2.1
                      have hbl := (HQ.out.2.1.alloc hsz (.cells #[.int .i64 (m : Int), .slice na M.length nc] 33)).grown HO.out.2.1 (by rw [World.size_alloc]; omega) (fun q e => (HQ.out.1.out.lt q e).1)
                      have HP2 := Lib.hid (And.intro hpush hbl)
                      clear hbA hpush hbl
                      obtain ⟨c0, c1⟩ := H2.out.2.2.1.below HP2.out.2
                      go_roundw
                      case rel => exact ⟨m + 1, s9, c9, es ++ [(⟨(m : Int), na, M.length, nc⟩ : LpE)], ls ++ [((m : Int), M.map fun x : Nat => (x : Int))], by omega, by go_num, by rw [List.length_append]; rfl, by rw [List.length_append]; exact HP2.out.1, HP2.out.2, by rw [HY.out.1]; exact HL.out.2.2.snoc HQ.out.2.2.1⟩
                      case measure => simp [intOf]; omega
      · obtain rfl : n = m := by omega
        go_wp2_with fail
        go_ret2
        exact ⟨la, lc, ls, by rw [HV.out.2.2]; rfl, HL.out.1.view, by rw [HZ.out, Int.toNat_natCast, ← H2.out.2.2.2.1]; exact HL.out.2.2, H2.out.2.1.trans (HL.out.2.1.mono (Nat.le_of_lt hbW))⟩
  · have hq : (dcode g r != 0) = true := by simpa using hc
    have HZ : Hid (loopsZ g r = []) := Lib.hid (by unfold loopsZ; rw [if_neg hc])
    clear hc
    go_wp2_with fail
    go_ret2
    exact ⟨none, 0, [], rfl, LoW.nil.view (B := W1.heap.size), by rw [HZ.out]; exact ⟨rfl, fun i hi => by simp at hi⟩, H1.out.2.1⟩
end Go.Proofs.Ytlijimdkadobmaa
