/- Contract of the reference's Condense. -/
import Derived.Test.YtchmjgjagaaomaaRcd
import Derived.Test.YtchmjgjagaaomaaSce
import Derived.Test.YtchmjgjagaaomaaGw
namespace Go.Proofs.Ytchmjgjagaaomaa
open Go.RowKit Go.Dfl Go.Gra Go.Tj
set_option maxHeartbeats 3200000 in
set_option maxRecDepth 100000 in
theorem rCond_any (g : G) (cv : Value) (W : World) (h : Pairs W cv g.es) : Calls Try.prog 24 #[GV g cv] W (CondR g W) := by
  obtain ⟨ca, cc, rfl, -, hci, hcc⟩ := pairs_rd h
  have H0 := Lib.hid (CdW.new h)
  have HCC := Lib.hid hcc
  have HCI := Lib.hid hci
  clear h hcc hci
  unfold GV
  go_enter Try.func24, Try.ntmps24
  go_wp2_with fail
  have hck := rComps_any g (.slice ca g.es.length cc) _ H0.out.gb.es
  unfold GV at hck
  refine hck.mono ?_
  rintro e W1 ⟨ls, of, v, vs, rfl, hcm, hG, r1⟩
  obtain ⟨la, lc, rfl, -, -, -⟩ := rows_rd hG
  have H1 := Lib.hid (And.intro (H0.out.below r1) hcm)
  clear r1 hck hcm hG
  by_cases hc : gCode g = 0
  · obtain ⟨c0, c1⟩ := H1.out.1.gb.box
    have q0 : (gCode g != 0) = false := by simpa using hc
    have HV := Lib.hid (And.intro (gCode_ok.1 hc) hc)
    have HPA : Hid (PartsAre g ls of) := Lib.hid (by
      rcases H1.out.2 with h9 | h9
      · exact absurd hc h9.1
      · exact h9.2)
    clear hc
    go_wp2_with fail
    have ho := rOf_any g (.slice ca g.es.length cc) _ H1.out.1.gb.es
    unfold GV at ho
    refine ho.mono ?_
    rintro e W2 ⟨ls2, of2, ov, rfl, hcm2, hov, r2⟩
    rw [(hcm2.unique H1.out.2).2] at hov
    obtain ⟨oa, oc, rfl, -, -, -, -⟩ := hov.out1 sIntG
    obtain ⟨W2', hW2⟩ : ∃ Z, Z = W2 := ⟨_, rfl⟩
    have H3 := Lib.hid (show Ints W2' (.slice oa of.length oc) of ∧ CdW W g (.slice ca g.es.length cc) W2' by rw [hW2]; exact ⟨hov, H1.out.1.below r2⟩)
    have HB3 := Lib.hid (show Below W2'.heap.size W2' W2 by rw [hW2]; exact Below.refl _ _)
    clear hcm2 hov r2 ho hW2 c0 c1 q0
    have hel := HV.out.1.len
    have hol := HPA.out.len
    have hn0 := HV.out.1.n0
    obtain ⟨n, hn⟩ : ∃ n, n = g.n.toNat := ⟨_, rfl⟩
    have HN := Lib.hid (show g.n = (n : Int) ∧ of.length = n by omega)
    clear hn hn0 hol
    obtain ⟨c0, c1⟩ := (H3.out.2.below HB3.out).gb.box
    go_wp2_with fail
    go_loopw [8, 9] (fun sv x wr => ∃ (i : Nat) (ea : Option Addr) (ec : Nat), i ≤ g.es.length ∧ x = .int .i64 (i : Int) ∧ sv = .slice ea (condL of g.es i).length ec ∧ Hid (OwnE elE wr W2'.heap.size 35 (.slice ea (condL of g.es i).length ec) (condL of g.es i) ∧ Below W2'.heap.size W2' wr)) (fun _ x _ => g.es.length - (intOf x).toNat)
    case atStart => exact ⟨0, none, 0, by omega, rfl, rfl, OwnE.nil _ _ _ _, HB3.out⟩
    case round =>
      obtain ⟨i, ea, ec, hi, rfl, rfl, hh⟩ := hrel
      have HL := Lib.hid hh.out
      clear hh c0 c1
      obtain ⟨c0, c1⟩ := (H3.out.2.below HL.out.2).gb.box
      have hll := condL_le of g.es i
      by_cases hit : i < g.es.length
      · have hil : (i : Int) < (g.es.length : Int) := by omega
        obtain ⟨p0, p1⟩ := (HCC.out i hit).2 wr (bel_trans H3.out.2.bel HL.out.2)
        have j1 := HCI.out (i : Int) (by omega) (by omega)
        rw [Int.toNat_natCast] at j1
        have hin := HV.out.1.inn _ (nth_mem g.es i hit)
        have hyes := condL_yes (of := of) hit
        have hno := condL_no (of := of) hit
        obtain ⟨e, he⟩ : ∃ e, e = nth g.es i := ⟨_, rfl⟩
        rw [← he] at p0 p1 hin hyes hno
        obtain ⟨e1, e2⟩ := e
        dsimp only at p0 p1 hin
        obtain ⟨a, rfl⟩ : ∃ a : Nat, e1 = (a : Int) := ⟨e1.toNat, by omega⟩
        obtain ⟨b, rfl⟩ : ∃ b : Nat, e2 = (b : Int) := ⟨e2.toNat, by omega⟩
        have han : a < of.length := by have := HN.out; omega
        have hbn : b < of.length := by have := HN.out; omega
        rw [Int.toNat_natCast, Int.toNat_natCast] at hyes hno
        have HYN := Lib.hid (And.intro hyes hno)
        clear he hin hyes hno
        go_upto_region 9 with fail
        obtain ⟨oa', oc', he, -, hoi, hoc, -⟩ := (H3.out.1.below HL.out.2).out1 sIntG
        simp only [Value.slice.injEq] at he
        obtain ⟨rfl, -, rfl⟩ := he
        have t1 := hoi .i64 (a : Int) (by omega) (by omega)
        have t2 := hoi .i64 (b : Int) (by omega) (by omega)
        rw [Int.toNat_natCast] at t1 t2
        have t3 := hoc a han
        have t4 := hoc b hbn
        obtain ⟨x, hx⟩ : ∃ x, x = nth of a := ⟨_, rfl⟩
        obtain ⟨y, hy⟩ : ∃ y, y = nth of b := ⟨_, rfl⟩
        rw [← hx] at t3
        rw [← hy] at t4
        rw [← hx, ← hy] at HYN
        clear hoi hoc hx hy han hbn
        by_cases hne : x = y
        · have w1 : (x != y) = false := by simpa using hne
          have HX := Lib.hid (HYN.out.2 hne)
          clear hne
          go_quiet (fail)
          have HQ9 := Lib.hid (fun q : Nat => And.intro (OwnE.grown HL.out.1 (grownBy_below (below_drewN (Below.refl wr.heap.size wr) q)) (by cases (Value.slice ea (condL of g.es i).length ec).ownBlock <;> simp)) (HL.out.2.trans ((below_drewN (Below.refl wr.heap.size wr) q).mono HL.out.2.size)))
          go_wp2_with fail
          go_roundw
          case rel => exact ⟨i + 1, ea, ec, by omega, by go_num, by rw [HX.out], by rw [HX.out]; exact HQ9.out _⟩
          case measure => simp [intOf]; omega
        · have w1 : (x != y) = true := by simpa using hne
          have HX := Lib.hid (HYN.out.1 hne)
          clear hne
          go_quiet (fail)
          go_upto_region 10 with fail
          refine gen_wp ?_
          intro Z2 hq2
          have hq9 : Below wr.heap.size wr Z2 := hq2.below _
          have hown := OwnE.grown HL.out.1 (grownBy_below hq9) (by cases (Value.slice ea (condL of g.es i).length ec).ownBlock <;> simp)
          have hbz := bel_trans HL.out.2 hq9
          have hsz := hbz.size
          have HO9 := Lib.hid (And.intro (OwnE.grown hown (grownBy_alloc Z2 (.cells #[.int .i64 x, .int .i64 y] 35)) (by cases (Value.slice ea (condL of g.es i).length ec).ownBlock <;> simp)) hbz)
          have hlen1 : ((condL of g.es i).length + 1) * 16 ≤ 140737488355328 := by omega
          have hlen2 : (condL of g.es i).length + 1 ≤ 1000000000000 := by omega
          clear hq2 hq9 p0 p1 hown hbz t1 t2 t3 t4 c0 c1
          go_wp2_with (at_builtin; refine wp_appendE (E := elE) sEdge rfl rfl _ _ rfl (v := .slice ea (condL of g.es i).length ec) (l := condL of g.es i) (base := W2'.heap.size) rfl Z2.heap.size rfl HO9.out.1 (x, y) (cells_new (W := Z2) (cs := [.int .i64 x, .int .i64 y]) (t := 35) rfl) hlen1 hlen2 (le_alloc _ hsz) ?_; intro v' w3 hown hgr hat; obtain ⟨s9, c9, rfl⟩ := hown.shape (n := (condL of g.es i).length + 1) (by rw [List.length_append]; rfl); have HO := Lib.hid (And.intro hown hgr); clear hown hgr hat)
          go_roundw
          case rel => exact ⟨i + 1, s9, c9, by omega, by go_num, by rw [HX.out, List.length_append]; rfl, by rw [HX.out, List.length_append]; exact ⟨HO.out.1, (HO9.out.2.alloc hsz _).grown HO.out.2 (by rw [World.size_alloc]; omega) (fun q e => (OwnE.lt HO9.out.1 q e).1)⟩⟩
          case measure => simp [intOf]; omega
      · obtain rfl : i = g.es.length := by omega
        obtain ⟨F, hF⟩ : ∃ F, F = condL of g.es g.es.length := ⟨_, rfl⟩
        rw [← hF] at HL hll ⊢
        have hmk := rMake_any (ls.length : Int) (.slice ea F.length ec) F wr (own_pairs HL.out.1) (by omega)
        have HMK := Lib.hid hmk
        have HFF := Lib.hid hF
        clear hmk hF hit
        go_wp2_with fail
        refine HMK.out.mono ?_
        rintro e W4 ⟨ra, rc, r, code, rfl, hpr, hml, b4⟩
        unfold GV
        have H4 := Lib.hid (H3.out.2.below (HL.out.2.trans (b4.mono HL.out.2.size)))
        have HR := Lib.hid (And.intro hpr hml)
        obtain ⟨⟨z0, z1⟩, zf0, zf1⟩ := H4.out.gz.rd
        clear hpr hml b4 HMK c0 c1
        go_wp2_with fail
        refine bodyPost_ret (v := .tuple #[.agg #[.int .i64 r.n, .slice ra r.es.length rc], .int .i64 code]) (by rw [results_cell_tmp rfl]; go_simp; try rfl) rfl ?_
        exact ⟨ra, rc, r, code, rfl, pairs_set2 HR.out.1 H4.out.gz _ _, .inr ⟨HV.out.2, ls, of, HPA.out, by rw [← HFF.out]; exact HR.out.2⟩, below2s H4.out.bel (by omega) _ _⟩
  · obtain ⟨⟨z0, z1⟩, zf0, zf1⟩ := H1.out.1.gz.rd
    have q0 : (gCode g != 0) = true := by simpa using hc
    have HC := Lib.hid hc
    clear hc
    go_wp2_with fail
    refine bodyPost_ret (v := .tuple #[.agg #[.int .i64 0, .slice none 0 0], .int .i64 (gCode g)]) (by rw [results_cell_tmp rfl]; go_simp; try rfl) rfl ?_
    exact ⟨none, 0, ⟨0, []⟩, gCode g, rfl, pairs_nil _, .inl ⟨HC.out, rfl, rfl⟩, below2s H1.out.1.bel (by omega) _ _⟩
end Go.Proofs.Ytchmjgjagaaomaa
