/- Contract of the reference's Reducible. -/
import Derived.Test.YtlijimdkadobmaaDrp
import Derived.Test.YtlijimdkadobmaaDtb
namespace Go.Proofs.Ytlijimdkadobmaa
open Go.RowKit Go.Dfl Go.Gra
set_option maxHeartbeats 6400000 in
set_option maxRecDepth 100000 in
theorem rReducible_any (g : G) (cv : Value) (r : Int) (W : World) (h : Pairs W cv g.es) : Calls Try.prog 22 #[GV g cv, .int .i64 r] W (BoolR (decide (dcode g r = 0) && redB g r.toNat) W) := by
  obtain ⟨ca, cc, rfl, -, -, -⟩ := pairs_rd h
  have hal := (Below.refl W.heap.size W).alloc (Nat.le_refl _) (.cells #[.int .i64 g.n, .slice ca g.es.length cc] 24)
  have H0 := Lib.hid (And.intro (h.below hal) (And.intro hal (BoxG.new W g.n (.slice ca g.es.length cc) 24)))
  have HPW := Lib.hid h
  clear h hal
  unfold GV
  go_enter Try.func22, Try.ntmps22
  go_wp2_with fail
  have hck := rcheck_any g (.slice ca g.es.length cc) r _ H0.out.1
  unfold GV at hck
  refine hck.mono ?_
  rintro e W1 ⟨rfl, r1⟩
  have H1 := Lib.hid (And.intro (H0.out.1.below r1) (And.intro (H0.out.2.1.trans (r1.mono H0.out.2.1.size)) (H0.out.2.2.below r1)))
  clear r1 hck
  obtain ⟨c0, c1⟩ := H1.out.2.2
  by_cases hc : dcode g r = 0
  · have HZ : Hid ((decide (dcode g r = 0) && redB g r.toNat) = redB g r.toNat) := Lib.hid (by rw [decide_eq_true hc]; rfl)
    obtain ⟨v1, v2, v3⟩ := dcode_ok hc
    obtain ⟨k, rfl⟩ : ∃ k : Nat, r = (k : Int) := ⟨r.toNat, by omega⟩
    rw [Int.toNat_natCast] at v3
    have HV := Lib.hid (And.intro v1 (And.intro v3 hc))
    clear v1 v2 v3
    have hq : (dcode g (k : Int) != 0) = false := by simpa using hc
    clear hc
    rw [Int.toNat_natCast] at HZ
    have hb := rTable_any g (.slice ca g.es.length cc) k W1 H1.out.1 HV.out.1
    unfold GV at hb
    have HB := Lib.hid hb
    clear hb
    go_wp2_with fail
    refine HB.out.mono ?_
    rintro e W2 ⟨ta, tc, vs, rfl, hT, b2⟩
    obtain ⟨n, hn⟩ : ∃ n, n = g.n.toNat := ⟨_, rfl⟩
    have hgn : g.n = (n : Int) := by have := HV.out.1.n0; omega
    have hn8 : n ≤ 8192 := by have := HV.out.1.n1; omega
    rw [← hn] at hT ⊢
    have H2 := Lib.hid (And.intro hT (And.intro (H1.out.2.1.trans (b2.mono H1.out.2.1.size)) (And.intro (H1.out.2.2.below b2) (And.intro hn hgn))))
    clear hT b2 hn hgn HB c0 c1
    obtain ⟨c0, c1⟩ := H2.out.2.2.1
    rw [H2.out.2.2.2.2] at c0
    have hbW : W.heap.size < W2.heap.size := World.block_lt_of_cell? W2 ⟨W.heap.size, 0, none⟩ c0
    go_wp2_with fail
    clear c0 c1
    obtain ⟨W2', hW2⟩ : ∃ Z, Z = W2 := ⟨_, rfl⟩
    rw [← hW2] at H2 hbW
    have HB2 := Lib.hid (show Below W2'.heap.size W2' W2 by rw [hW2]; exact Below.refl _ _)
    clear hW2
    obtain ⟨ca', cc', he, -, hci, hcc⟩ := pairs_rd HPW.out
    simp only [Value.slice.injEq] at he
    obtain ⟨rfl, -, rfl⟩ := he
    have HCC := Lib.hid hcc
    clear hcc
    have hel := HV.out.1.len
    have hkn : k < n := by have := HV.out.2.1; rw [H2.out.2.2.2.1]; exact this
    go_loopw [6, 7] (fun sv x wr => ∃ (i : Nat) (ea : Option Addr) (ec : Nat), i ≤ g.es.length ∧ x = .int .i64 (i : Int) ∧ sv = .slice ea (leftE g k i).length ec ∧ Hid (OwnE elE wr W2'.heap.size 53 (.slice ea (leftE g k i).length ec) (leftE g k i) ∧ Below W2'.heap.size W2' wr)) (fun _ x _ => g.es.length - (intOf x).toNat)
    case atStart => exact ⟨0, none, 0, by omega, rfl, rfl, OwnE.nil _ _ _ _, HB2.out⟩
    case round =>
      obtain ⟨i, ea, ec, hi, rfl, rfl, hh⟩ := hrel
      have HL := Lib.hid hh.out
      clear hh
      obtain ⟨c0, c1⟩ := H2.out.2.2.1.below HL.out.2
      rw [H2.out.2.2.2.2] at c0
      have hll := leftE_len g k i
      by_cases hit : i < g.es.length
      · have hil : (i : Int) < (g.es.length : Int) := by omega
        have hb0 := H2.out.2.1.trans (HL.out.2.mono H2.out.2.1.size)
        have hpc := (HCC.out i hit).2
        obtain ⟨p0, p1⟩ := hpc wr hb0
        have j1 := hci (i : Int) (by omega) (by omega)
        rw [Int.toNat_natCast] at j1
        have hin := HV.out.1.nth hit
        have hyes := leftE_yes (g := g) (r := k) hit
        have hno := leftE_no (g := g) (r := k) hit
        obtain ⟨e, he⟩ : ∃ e, e = nth g.es i := ⟨_, rfl⟩
        rw [← he] at p0 p1 hin hyes hno
        obtain ⟨e1, e2⟩ := e
        dsimp only at p0 p1 hin
        obtain ⟨a, rfl⟩ : ∃ a : Nat, e1 = (a : Int) := ⟨e1.toNat, by omega⟩
        obtain ⟨b, rfl⟩ : ∃ b : Nat, e2 = (b : Int) := ⟨e2.toNat, by omega⟩
        have han : a < n := by have := H2.out.2.2.2.2; omega
        have hbn : b < n := by have := H2.out.2.2.2.2; omega
        have hbx := cells_new (W := wr) (cs := [.int .i64 (a : Int), .int .i64 (b : Int)]) (t := 53) rfl
        have hbA := (Below.refl wr.heap.size wr).alloc (Nat.le_refl _) (.cells #[.int .i64 (a : Int), .int .i64 (b : Int)] 53)
        have hrd : domB g k k a = decide (a ∈ postL g k) := by
          rw [Bool.eq_iff_iff, root_dom HV.out.1 HV.out.2.1 (by rw [← H2.out.2.2.2.1]; exact han), decide_eq_true_eq]
        have hkp : keepE g k ((a : Int), (b : Int)) = (domB g k k a && !domB g k b a) := by
          unfold keepE; rw [Int.toNat_natCast, Int.toNat_natCast, hrd]
        have HYN := Lib.hid (And.intro hyes (And.intro hno hkp))
        have HA := Lib.hid (And.intro (hbx 0 _ rfl) (And.intro (hbx 1 _ rfl) hbA))
        clear he hin hb0 hyes hno hpc hbx hbA hrd hkp
        go_upto_region 9 with fail
        refine gen_code (fun Z => Z.cell? ⟨wr.heap.size, 0, none⟩ = some (.int .i64 (a : Int)) ∧ Z.cell? ⟨wr.heap.size, 1, none⟩ = some (.int .i64 (b : Int)) ∧ Below wr.heap.size wr Z) HA.out ?_
        intro Z hZ
        obtain ⟨x0, x1, hbZ⟩ := hZ
        have hbz := HL.out.2.trans (hbZ.mono HL.out.2.size)
        have HT := Lib.hid (Grid.bel H2.out.1 hbz)
        have HZL := Lib.hid (And.intro (show OwnE elE Z W2'.heap.size 53 (.slice ea (leftE g k i).length ec) (leftE g k i) from OwnE.grown HL.out.1 (grownBy_below hbZ) (by cases (Value.slice ea (leftE g k i).length ec).ownBlock <;> simp)) hbz)
        obtain ⟨be, hbe⟩ : ∃ be, be = wr.heap.size := ⟨_, rfl⟩
        rw [← hbe] at x0 x1 ⊢
        have hbl : be < Z.heap.size := World.block_lt_of_cell? _ _ x0
        clear hbZ hbz HA c0 c1 p0 p1 hbe
        obtain ⟨ra, rc, t1, t2, t3, t4⟩ := tab_rd HT.out H2.out.2.2.2.1 hkn han
        obtain ⟨rb, rd, u1, u2, u3, u4⟩ := tab_rd HT.out H2.out.2.2.2.1 hbn han
        cases hA : domB g k k a
        · rw [hA] at t3
          have HX := Lib.hid (HYN.out.2.1 (by rw [HYN.out.2.2, hA]; rfl))
          clear hA u1 u2 u3 u4
          go_quiet (fail)
          have HQ9 := Lib.hid (fun q : Nat => And.intro (OwnE.grown HZL.out.1 (grownBy_below (below_drewN (Below.refl Z.heap.size Z) q)) (by cases (Value.slice ea (leftE g k i).length ec).ownBlock <;> simp)) (HZL.out.2.trans ((below_drewN (Below.refl Z.heap.size Z) q).mono HZL.out.2.size)))
          go_wp2_with fail
          go_roundw
          case rel => exact ⟨i + 1, ea, ec, by omega, by go_num, by rw [HX.out], by rw [HX.out]; exact HQ9.out _⟩
          case measure => simp [intOf]; omega
        · rw [hA] at t3
          cases hB : domB g k b a
          · rw [hB] at u3
            have HX := Lib.hid (HYN.out.1 (by rw [HYN.out.2.2, hA, hB]; rfl))
            clear hA hB
            go_quiet (fail)
            go_upto_region 10 with fail
            refine gen_wp ?_
            intro Z2 hq2
            have hq9 : Below Z.heap.size Z Z2 := hq2.below _
            have y0 := (hq9.cell (p := ⟨be, 0, none⟩) hbl).trans x0
            have y1 := (hq9.cell (p := ⟨be, 1, none⟩) hbl).trans x1
            have hown := OwnE.grown HZL.out.1 (grownBy_below hq9) (by cases (Value.slice ea (leftE g k i).length ec).ownBlock <;> simp)
            have hbz := HZL.out.2.trans (hq9.mono HZL.out.2.size)
            have hsz := hbz.size
            have HO9 := Lib.hid (And.intro (OwnE.grown hown (grownBy_alloc Z2 (.cells #[.int .i64 (a : Int), .int .i64 (b : Int)] 53)) (by cases (Value.slice ea (leftE g k i).length ec).ownBlock <;> simp)) hbz)
            have hlen1 : ((leftE g k i).length + 1) * 16 ≤ 140737488355328 := by omega
            have hlen2 : (leftE g k i).length + 1 ≤ 1000000000000 := by omega
            clear hq2 hq9 x0 x1 hown hbz t1 t2 t3 t4 u1 u2 u3 u4
            go_wp2_with (at_builtin; refine wp_appendE (E := elE) sEdge rfl rfl _ _ rfl (v := .slice ea (leftE g k i).length ec) (l := leftE g k i) (base := W2'.heap.size) rfl Z2.heap.size rfl HO9.out.1 ((a : Int), (b : Int)) (cells_new (W := Z2) (cs := [.int .i64 (a : Int), .int .i64 (b : Int)]) (t := 53) rfl) hlen1 hlen2 (le_alloc _ hsz) ?_; intro v' w3 hown hgr hat; obtain ⟨s9, c9, rfl⟩ := hown.shape (n := (leftE g k i).length + 1) (by rw [List.length_append]; rfl); have HO := Lib.hid (And.intro hown hgr); clear hown hgr hat)
            go_roundw
            case rel => exact ⟨i + 1, s9, c9, by omega, by go_num, by rw [HX.out, List.length_append]; rfl, by rw [HX.out, List.length_append]; exact ⟨HO.out.1, (HO9.out.2.alloc hsz _).grown HO.out.2 (by rw [World.size_alloc]; omega) (fun q e => (OwnE.lt HO9.out.1 q e).1)⟩⟩
            case measure => simp [intOf]; omega
          · rw [hB] at u3
            have HX := Lib.hid (HYN.out.2.1 (by rw [HYN.out.2.2, hA, hB]; rfl))
            clear hA hB
            go_quiet (fail)
            have HQ9 := Lib.hid (fun q : Nat => And.intro (OwnE.grown HZL.out.1 (grownBy_below (below_drewN (Below.refl Z.heap.size Z) q)) (by cases (Value.slice ea (leftE g k i).length ec).ownBlock <;> simp)) (HZL.out.2.trans ((below_drewN (Below.refl Z.heap.size Z) q).mono HZL.out.2.size)))
            go_wp2_with fail
            go_roundw
            case rel => exact ⟨i + 1, ea, ec, by omega, by go_num, by rw [HX.out], by rw [HX.out]; exact HQ9.out _⟩
            case measure => simp [intOf]; omega
      · obtain rfl : i = g.es.length := by omega
        have hlv := leftG_ok HV.out.1 k
        have hln : (leftG g k).n = (n : Int) := H2.out.2.2.2.2
        obtain ⟨L, hL⟩ : ∃ L, L = leftE g k g.es.length := ⟨_, rfl⟩
        have hLe : (leftG g k).es = L := hL.symm
        have hal := (Below.refl wr.heap.size wr).alloc (Nat.le_refl _) (.cells #[.int .i64 (n : Int), .slice ea L.length ec] 24)
        rw [← hL] at HL hll ⊢
        have hbx := BoxG.new wr (n : Int) (.slice ea L.length ec) 24
        have H5 := Lib.hid (And.intro ((own_pairs HL.out.1).below hal) (And.intro hbx (And.intro (HL.out.2.trans (hal.mono HL.out.2.size)) (And.intro hlv (And.intro hln hLe)))))
        clear hlv hln hL hLe hal hbx
        go_wp2_with fail
        clear c0 c1
        refine gen_code (fun Z => Pairs Z (.slice ea L.length ec) L ∧ BoxG Z wr.heap.size (n : Int) (.slice ea L.length ec) ∧ Below W2'.heap.size W2' Z) ⟨H5.out.1, H5.out.2.1, H5.out.2.2.1⟩ ?_
        intro W5 h5
        have HP5 := Lib.hid h5
        have HG5 := Lib.hid H5.out.2.2.2
        obtain ⟨bl, hbl⟩ : ∃ bl, bl = wr.heap.size := ⟨_, rfl⟩
        rw [← hbl] at HP5 ⊢
        clear h5 H5 hbl
        have HB5 := Lib.hid (Below.refl W5.heap.size W5)
        have hlt5 := HP5.out.2.1.lt
        go_loopw [10] (fun x wr => ∃ v : Nat, v ≤ n ∧ x = .int .i64 (v : Int) ∧ Hid (Below W5.heap.size W5 wr ∧ ∀ j, j < v → cycB g k j = false)) (fun x _ => n - (intOf x).toNat)
        case atStart => exact ⟨0, by omega, rfl, HB5.out, fun j hj => by omega⟩
        case round =>
          obtain ⟨v, hv, rfl, hh⟩ := hrel
          have HN := Lib.hid hh.out
          clear hh
          have hb2 := HP5.out.2.2.trans (HN.out.1.mono HP5.out.2.2.size)
          obtain ⟨c0, c1⟩ := H2.out.2.2.1.below hb2
          rw [H2.out.2.2.2.2] at c0
          obtain ⟨x0, x1⟩ := HP5.out.2.1.below HN.out.1
          by_cases hvt : v < n
          · have hvl : (v : Int) < (n : Int) := by omega
            have hsc := rSucc_any (leftG g k) (.slice ea L.length ec) (v : Int) wr (by rw [HG5.out.2.2]; exact HP5.out.1.below HN.out.1)
            unfold GV at hsc
            rw [HG5.out.2.1] at hsc
            have hsv : sucZ (leftG g k) (v : Int) = suc L v := by
              have hn9 : nodeG (leftG g k) (v : Int) = true := nodeG_iff.2 ⟨HG5.out.1, by omega, by rw [HG5.out.2.1]; exact hvl⟩
              unfold sucZ; rw [if_pos hn9, Int.toNat_natCast, HG5.out.2.2]
            have HSC := Lib.hid hsc
            have HSV := Lib.hid hsv
            clear hsc hsv hb2
            go_wp2_with fail
            refine HSC.out.mono ?_
            rintro e W6 ⟨sa, sc, rfl, si, b6⟩
            rw [HSV.out] at si ⊢
            have hb6 := HN.out.1.trans (b6.mono HN.out.1.size)
            have H6 := Lib.hid (And.intro si hb6)
            clear si b6 c0 c1 x0 x1 HSC hb6
            obtain ⟨x0, x1⟩ := HP5.out.2.1.below H6.out.2
            have hdi := rDistances_any (leftG g k) (.slice ea L.length ec) (.slice sa (suc L v).length sc) ((suc L v).map fun x : Nat => (x : Int)) W6 (by rw [HG5.out.2.2]; exact HP5.out.1.below H6.out.2) H6.out.1 HG5.out.1
            unfold GV at hdi
            rw [HG5.out.2.1] at hdi
            have HDI := Lib.hid hdi
            clear hdi
            go_wp2_with fail
            refine HDI.out.mono ?_
            rintro e W7 ⟨da, dc, rfl, q1, b7⟩
            rw [HG5.out.2.1, Int.toNat_natCast] at q1 ⊢
            have hdl : (distL (leftG g k) ((suc L v).map fun x : Nat => (x : Int))).length = n := by rw [distL_len HG5.out.1, HG5.out.2.1, Int.toNat_natCast]
            have hcy : cycB g k v = decide (0 ≤ nth (distL (leftG g k) ((suc L v).map fun x : Nat => (x : Int))) v) := by unfold cycB; rw [HG5.out.2.2]
            obtain ⟨d, hd⟩ : ∃ d, d = distL (leftG g k) ((suc L v).map fun x : Nat => (x : Int)) := ⟨_, rfl⟩
            rw [← hd] at q1 hdl hcy
            obtain ⟨da', dc', he, dm, di, dcl, dbl⟩ := q1.lst.out1 sIntG
            rw [hdl] at he dm di dcl dbl
            simp only [Value.slice.injEq] at he
            obtain ⟨rfl, -, rfl⟩ := he
            have r5 := dcl v hvt
            obtain ⟨z, hz⟩ : ∃ z, z = nth d v := ⟨_, rfl⟩
            rw [← hz] at r5 hcy
            have i5 := di .i64 (v : Int) (by omega) (by omega)
            rw [Int.toNat_natCast] at i5
            have hb7 := H6.out.2.trans (b7.mono H6.out.2.size)
            have H7 := Lib.hid (And.intro hb7 hcy)
            clear q1 b7 hd hz hdl hcy dm di dcl dbl x0 x1 HDI hb7
            obtain ⟨c0, c1⟩ := H2.out.2.2.1.below (HP5.out.2.2.trans (H7.out.1.mono HP5.out.2.2.size))
            rw [H2.out.2.2.2.2] at c0
            by_cases hz0 : 0 ≤ z
            · have w2 : decide (z ≥ 0) = true := decide_eq_true hz0
              have w2' : decide (0 ≤ z) = true := decide_eq_true hz0
              have HX : Hid (redB g k = false) := Lib.hid (by
                unfold redB
                rw [List.all_eq_false]
                exact ⟨v, List.mem_range.2 (by rw [← H2.out.2.2.2.1]; exact hvt), by rw [H7.out.2, w2']; simp⟩)
              clear hz0
              go_wp2_with fail
              go_ret
              exact ⟨by rw [Int.toNat_natCast, HZ.out, HX.out]; rfl, H2.out.2.1.trans ((HP5.out.2.2.trans (H7.out.1.mono HP5.out.2.2.size)).mono H2.out.2.1.size)⟩
            · have w2 : decide (z ≥ 0) = false := decide_eq_false hz0
              have w2' : decide (0 ≤ z) = false := decide_eq_false hz0
              have HX : Hid (∀ j, j < v + 1 → cycB g k j = false) := Lib.hid fun j hj => by
                by_cases e : j = v
                · rw [e, H7.out.2, w2']
                · exact HN.out.2 j (by omega)
              clear hz0
              go_wp2_with fail
              go_roundw
              case rel => exact ⟨v + 1, by omega, by go_num, H7.out.1, HX.out⟩
              case measure => simp [intOf]; omega
          · obtain rfl : n = v := by omega
            have HX : Hid (redB g k = true) := Lib.hid (by
              unfold redB
              rw [List.all_eq_true]
              intro j hj
              rw [HN.out.2 j (by rw [H2.out.2.2.2.1]; exact List.mem_range.1 hj)]; rfl)
            go_wp2_with fail
            go_ret
            exact ⟨by rw [Int.toNat_natCast, HZ.out, HX.out]; rfl, H2.out.2.1.trans (hb2.mono H2.out.2.1.size)⟩
  · have hq : (dcode g r != 0) = true := by simpa using hc
    have HZ : Hid ((decide (dcode g r = 0) && redB g r.toNat) = false) := Lib.hid (by rw [decide_eq_false hc]; rfl)
    clear hc
    go_wp2_with fail
    go_ret
    exact ⟨by rw [HZ.out]; rfl, H1.out.2.1⟩
end Go.Proofs.Ytlijimdkadobmaa
