/- Contract of Condense. -/
import Derived.Test.YtchmjgjagaaomaaScd
namespace Go.Proofs.Ytchmjgjagaaomaa
open Go.RowKit Go.Dfl Go.Gra Go.Tj
/-- The world under way: the boxed graph, the box of the result. -/
structure CdW (W : World) (g : G) (cv : Value) (Z : World) : Prop where
  gb : GB W.heap.size g cv Z
  gz : GZ Z (W.heap.size + 1)
  bel : Below W.heap.size W Z
theorem CdW.below {W : World} {g : G} {cv : Value} {Z Z' : World} (h : CdW W g cv Z) (hb : Below Z.heap.size Z Z') : CdW W g cv Z' := ⟨h.gb.below hb, h.gz.below hb, bel_trans h.bel hb⟩
theorem CdW.new {W : World} {g : G} {cv : Value} (h : Pairs W cv g.es) : CdW W g cv ((W.alloc (.cells #[.int .i64 g.n, cv] 24)).alloc (.cells #[.int .i64 0, .slice none 0 0] 24)) := by
  have h1 := GB.new h 24
  have h2 := (Below.refl W.heap.size W).alloc (Nat.le_refl _) (.cells #[.int .i64 g.n, cv] 24)
  have hz := heap_alloc_new (W.alloc (.cells #[.int .i64 g.n, cv] 24)) (.cells #[.int .i64 0, .slice none 0 0] 24)
  rw [World.size_alloc] at hz
  exact ⟨h1.below ((Below.refl _ _).alloc (Nat.le_refl _) _), hz, h2.alloc h2.size _⟩
/-- A row of edges is not touched when the result is written. -/
theorem pairs_set2 {Z : World} {v : Value} {l : List (Int × Int)} {b : Nat} (h : Pairs Z v l) (hz : GZ Z b) (x y : Value) : Pairs ((Z.setCell ⟨b, 0, none⟩ x).setCell ⟨b, 1, none⟩ y) v l := by
  obtain ⟨a, c, rfl, h1, h2, h3⟩ := h
  refine ⟨a, c, rfl, h1, h2, fun i hi => ⟨(h3 i hi).1, by rw [World.size_setCell, World.size_setCell]; exact (h3 i hi).2.1, fun j hj => ?_⟩⟩
  have hne : blk a ≠ b := fun e => by
    have k0 := (h3 i hi).2.2 0 (by omega)
    have k1 := (h3 i hi).2.2 1 (by omega)
    rw [e] at k0 k1
    have hz' : Z.heap[b]? = some (.cells #[.int .i64 0, .slice none 0 0] 24) := hz
    simp only [World.cell?, hz'] at k0 k1
    rcases (by omega : ofs a + i * 2 = 0 ∨ ofs a + i * 2 = 1 ∨ 2 ≤ ofs a + i * 2) with h9 | h9 | h9
    · rw [h9] at k1; simp at k1
    · rw [h9] at k0; simp at k0
    · rw [show ofs a + i * 2 + 0 = (ofs a + i * 2 - 2) + 2 by omega] at k0; simp at k0
  rw [World.cell?_setCell_other _ _ _ _ (fun e => hne (congrArg Addr.block e).symm), World.cell?_setCell_other _ _ _ _ (fun e => hne (congrArg Addr.block e).symm)]
  exact (h3 i hi).2.2 j hj
set_option maxHeartbeats 3200000 in
set_option maxRecDepth 100000 in
theorem gCond_any (g : G) (cv : Value) (W : World) (h : Pairs W cv g.es) : Calls Try.prog 23 #[GV g cv] W (CondR g W) := by
  obtain ⟨ca, cc, rfl, -, hci, hcc⟩ := pairs_rd h
  have H0 := Lib.hid (CdW.new h)
  have HCC := Lib.hid hcc
  clear h hcc
  unfold GV
  go_enter Try.func23, Try.ntmps23
  go_wp2_with fail
  have hck := gCheck_any g (.slice ca g.es.length cc) _ H0.out.gb.es
  unfold GV at hck
  refine hck.mono ?_
  rintro e W1 ⟨rfl, r1⟩
  have H1 := Lib.hid (H0.out.below r1)
  clear r1 hck
  by_cases hc : gCode g = 0
  · obtain ⟨c0, c1⟩ := H1.out.gb.box
    have q0 : (gCode g != 0) = false := by simpa using hc
    have HV := Lib.hid (And.intro (gCode_ok.1 hc) hc)
    clear hc
    go_wp2_with fail
    have hsp := gSplit_any g (.slice ca g.es.length cc) _ H1.out.gb.es HV.out.1
    unfold GV at hsp
    refine hsp.mono ?_
    rintro e W2 ⟨ls, of, lv, vs, ov, rfl, hpa, hl, ho, b2⟩
    obtain ⟨la, lc, rfl, -, -, -⟩ := rows_rd (OwnN.grid hl)
    obtain ⟨oa, oc, rfl, -, -, -, -⟩ := ho.lst.out1 sIntG
    have H2 := Lib.hid (And.intro hpa (And.intro ho.lst (H1.out.below b2)))
    have HCI := Lib.hid hci
    clear hpa hl ho b2 hsp c0 c1 q0 hci
    obtain ⟨c0, c1⟩ := H2.out.2.2.gb.box
    go_upto_region 5 with fail
    have hnew := cells_new (W := W2) (cs := [.slice la ls.length lc, .slice oa of.length oc]) (t := 48) rfl
    have hbn := (Below.refl W2.heap.size W2).alloc (Nat.le_refl _) (.cells #[.slice la ls.length lc, .slice oa of.length oc] 48)
    have HN := Lib.hid (And.intro (hnew 0 _ rfl) (And.intro (hnew 1 _ rfl) hbn))
    clear hnew hbn c0 c1
    refine gen_code (fun Z => Z.cell? ⟨W2.heap.size, 0, none⟩ = some (.slice la ls.length lc) ∧ Z.cell? ⟨W2.heap.size, 1, none⟩ = some (.slice oa of.length oc) ∧ Below W2.heap.size W2 Z) HN.out ?_
    intro W3 hZ
    obtain ⟨W3', hW3⟩ : ∃ Z, Z = W3 := ⟨_, rfl⟩
    obtain ⟨bp, hbp⟩ : ∃ b, b = W2.heap.size := ⟨_, rfl⟩
    rw [← hbp] at hZ ⊢
    have H3 := Lib.hid (show (W3'.cell? ⟨bp, 0, none⟩ = some (.slice la ls.length lc) ∧ W3'.cell? ⟨bp, 1, none⟩ = some (.slice oa of.length oc)) ∧ Ints W3' (.slice oa of.length oc) of ∧ CdW W g (.slice ca g.es.length cc) W3' by
      rw [hW3]; exact ⟨⟨hZ.1, hZ.2.1⟩, H2.out.2.1.below (hbp ▸ hZ.2.2), H2.out.2.2.below (hbp ▸ hZ.2.2)⟩)
    have HB3 := Lib.hid (show Below W3'.heap.size W3' W3 by rw [hW3]; exact Below.refl _ _)
    have HPA := Lib.hid H2.out.1
    clear hZ hbp HN hW3 H0 H1 H2
    have hel := HV.out.1.len
    have hol := HPA.out.len
    have hn0 := HV.out.1.n0
    obtain ⟨n, hn⟩ : ∃ n, n = g.n.toNat := ⟨_, rfl⟩
    have HN := Lib.hid (show g.n = (n : Int) ∧ of.length = n by omega)
    clear hn hn0 hol
    obtain ⟨c0, c1⟩ := (H3.out.2.2.below HB3.out).gb.box
    go_wp2_with fail
    go_loopw [6, 22] (fun sv x wr => ∃ (i : Nat) (ea : Option Addr) (ec : Nat), i ≤ g.es.length ∧ x = .int .i64 (i : Int) ∧ sv = .slice ea (condL of g.es i).length ec ∧ Hid (OwnE elE wr W3'.heap.size 35 (.slice ea (condL of g.es i).length ec) (condL of g.es i) ∧ Below W3'.heap.size W3' wr)) (fun _ x _ => g.es.length - (intOf x).toNat)
    case atStart => exact ⟨0, none, 0, by omega, rfl, rfl, OwnE.nil _ _ _ _, HB3.out⟩
    case round =>
      obtain ⟨i, ea, ec, hi, rfl, rfl, hh⟩ := hrel
      have HL := Lib.hid hh.out
      clear hh c0 c1
      have hll := condL_le of g.es i
      by_cases hit : i < g.es.length
      · have hil : (i : Int) < (g.es.length : Int) := by omega
        obtain ⟨p0, p1⟩ := (HCC.out i hit).2 wr (bel_trans H3.out.2.2.bel HL.out.2)
        have j1 := HCI.out (i : Int) (by omega) (by omega)
        rw [Int.toNat_natCast] at j1
        have hin := HV.out.1.inn _ (nth_mem g.es i hit)
        have hyes := condL_yes (of := of) hit
        have hno := condL_no (of := of) hit
        obtain ⟨e, he⟩ : ∃ e, e = nth g.es i := ⟨_, rfl⟩
        rw [← he] at p0 p1 hin hyes hno
        obtain ⟨e1, e2⟩ := e
        dsimp only at p0 p1 hin
        obtain ⟨a, rfl⟩ : ∃ a : Nat, e1 = (a : Int) := ⟨e1.toNat, by omega⟩
        obtain ⟨b, rfl⟩ : ∃ b : Nat, e2 = (b : Int) := ⟨e2.toNat, by omega⟩
        have han : a < of.length := by have := HN.out; omega
        have hbn : b < of.length := by have := HN.out; omega
        have hbx := cells_new (W := wr) (cs := [.int .i64 (a : Int), .int .i64 (b : Int)]) (t := 35) rfl
        have hbA := (Below.refl wr.heap.size wr).alloc (Nat.le_refl _) (.cells #[.int .i64 (a : Int), .int .i64 (b : Int)] 35)
        rw [Int.toNat_natCast, Int.toNat_natCast] at hyes hno
        have HYN := Lib.hid (And.intro hyes hno)
        have HA := Lib.hid (And.intro (hbx 0 _ rfl) (And.intro (hbx 1 _ rfl) hbA))
        clear he hin hyes hno hbx hbA
        go_upto_region 9 with fail
        refine gen_code (fun Z => Z.cell? ⟨wr.heap.size, 0, none⟩ = some (.int .i64 (a : Int)) ∧ Z.cell? ⟨wr.heap.size, 1, none⟩ = some (.int .i64 (b : Int)) ∧ Below wr.heap.size wr Z) HA.out ?_
        intro Z hZ
        obtain ⟨x0, x1, hbZ⟩ := hZ
        have hbz := bel_trans HL.out.2 hbZ
        obtain ⟨-, d1⟩ := H3.out.1.imp (fun h => (hbz.cell (World.block_lt_of_cell? _ _ h)).trans h) (fun h => (hbz.cell (World.block_lt_of_cell? _ _ h)).trans h)
        have HZL := Lib.hid (And.intro (show OwnE elE Z W3'.heap.size 35 (.slice ea (condL of g.es i).length ec) (condL of g.es i) from OwnE.grown HL.out.1 (grownBy_below hbZ) (by cases (Value.slice ea (condL of g.es i).length ec).ownBlock <;> simp)) hbz)
        obtain ⟨oa', oc', he, -, hoi, hoc, -⟩ := (H3.out.2.1.below hbz).out1 sIntG
        simp only [Value.slice.injEq] at he
        obtain ⟨rfl, -, rfl⟩ := he
        have t1 := hoi .i64 (a : Int) (by omega) (by omega)
        have t2 := hoi .i64 (b : Int) (by omega) (by omega)
        rw [Int.toNat_natCast] at t1 t2
        have t3 := hoc a han
        have t4 := hoc b hbn
        obtain ⟨x, hx⟩ : ∃ x, x = nth of a := ⟨_, rfl⟩
        obtain ⟨y, hy⟩ : ∃ y, y = nth of b := ⟨_, rfl⟩
        rw [← hx] at t3
        rw [← hy] at t4
        obtain ⟨be, hbe⟩ : ∃ be, be = wr.heap.size := ⟨_, rfl⟩
        rw [← hbe] at x0 x1 ⊢
        rw [← hx, ← hy] at HYN
        clear hbZ hbz HA p0 p1 hbe hoi hoc hx hy han hbn
        by_cases hne : x = y
        · have w1 : (x != y) = false := by simpa using hne
          have HX := Lib.hid (HYN.out.2 hne)
          clear hne
          go_quiet (fail)
          have HQ9 := Lib.hid (fun q : Nat => And.intro (OwnE.grown HZL.out.1 (grownBy_below (below_drewN (Below.refl Z.heap.size Z) q)) (by cases (Value.slice ea (condL of g.es i).length ec).ownBlock <;> simp)) (HZL.out.2.trans ((below_drewN (Below.refl Z.heap.size Z) q).mono HZL.out.2.size)))
          go_wp2_with fail
          go_roundw
          case rel => exact ⟨i + 1, ea, ec, by omega, by go_num, by rw [HX.out], by rw [HX.out]; exact HQ9.out _⟩
          case measure => simp [intOf]; omega
        · have w1 : (x != y) = true := by simpa using hne
          have HX := Lib.hid (HYN.out.1 hne)
          clear hne
          go_quiet (fail)
          go_upto_region 10 with fail
          refine gen_wp ?_
          intro Z2 hq2
          have hq9 : Below Z.heap.size Z Z2 := hq2.below _
          have hown := OwnE.grown HZL.out.1 (grownBy_below hq9) (by cases (Value.slice ea (condL of g.es i).length ec).ownBlock <;> simp)
          have hbz := bel_trans HZL.out.2 hq9
          have hsz := hbz.size
          have HO9 := Lib.hid (And.intro (OwnE.grown hown (grownBy_alloc Z2 (.cells #[.int .i64 x, .int .i64 y] 35)) (by cases (Value.slice ea (condL of g.es i).length ec).ownBlock <;> simp)) hbz)
          have hlen1 : ((condL of g.es i).length + 1) * 16 ≤ 140737488355328 := by omega
          have hlen2 : (condL of g.es i).length + 1 ≤ 1000000000000 := by omega
          clear hq2 hq9 x0 x1 hown hbz t1 t2 t3 t4 d1
          go_wp2_with (at_builtin; refine wp_appendE (E := elE) sEdge rfl rfl _ _ rfl (v := .slice ea (condL of g.es i).length ec) (l := condL of g.es i) (base := W3'.heap.size) rfl Z2.heap.size rfl HO9.out.1 (x, y) (cells_new (W := Z2) (cs := [.int .i64 x, .int .i64 y]) (t := 35) rfl) hlen1 hlen2 (le_alloc _ hsz) ?_; intro v' w3 hown hgr hat; obtain ⟨s9, c9, rfl⟩ := hown.shape (n := (condL of g.es i).length + 1) (by rw [List.length_append]; rfl); have HO := Lib.hid (And.intro hown hgr); clear hown hgr hat)
          go_roundw
          case rel => exact ⟨i + 1, s9, c9, by omega, by go_num, by rw [HX.out, List.length_append]; rfl, by rw [HX.out, List.length_append]; exact ⟨HO.out.1, (HO9.out.2.alloc hsz _).grown HO.out.2 (by rw [World.size_alloc]; omega) (fun q e => (OwnE.lt HO9.out.1 q e).1)⟩⟩
          case measure => simp [intOf]; omega
      · obtain rfl : i = g.es.length := by omega
        obtain ⟨F, hF⟩ : ∃ F, F = condL of g.es g.es.length := ⟨_, rfl⟩
        rw [← hF] at HL hll ⊢
        obtain ⟨d0, -⟩ := H3.out.1.imp (fun h => (HL.out.2.cell (World.block_lt_of_cell? _ _ h)).trans h) (fun h => (HL.out.2.cell (World.block_lt_of_cell? _ _ h)).trans h)
        have hmk := gMake_any (ls.length : Int) (.slice ea F.length ec) F wr (own_pairs HL.out.1) (by omega)
        have HMK := Lib.hid hmk
        have HFF := Lib.hid hF
        clear hmk hF hit
        go_wp2_with fail
        refine HMK.out.mono ?_
        rintro e W4 ⟨ra, rc, r, code, rfl, hpr, hml, b4⟩
        unfold GV
        have H4 := Lib.hid (H3.out.2.2.below (HL.out.2.trans (b4.mono HL.out.2.size)))
        have HR := Lib.hid (And.intro hpr hml)
        obtain ⟨⟨z0, z1⟩, zf0, zf1⟩ := H4.out.gz.rd
        clear hpr hml b4 d0 HMK
        go_wp2_with fail
        refine bodyPost_ret (v := .tuple #[.agg #[.int .i64 r.n, .slice ra r.es.length rc], .int .i64 code]) (by rw [results_cell_tmp rfl]; go_simp; try rfl) rfl ?_
        exact ⟨ra, rc, r, code, rfl, pairs_set2 HR.out.1 H4.out.gz _ _, .inr ⟨HV.out.2, ls, of, HPA.out, by rw [← HFF.out]; exact HR.out.2⟩, below2s H4.out.bel (by omega) _ _⟩
  · obtain ⟨⟨z0, z1⟩, zf0, zf1⟩ := H1.out.gz.rd
    have q0 : (gCode g != 0) = true := by simpa using hc
    have HC := Lib.hid hc
    clear hc
    go_wp2_with fail
    refine bodyPost_ret (v := .tuple #[.agg #[.int .i64 0, .slice none 0 0], .int .i64 (gCode g)]) (by rw [results_cell_tmp rfl]; go_simp; try rfl) rfl ?_
    exact ⟨none, 0, ⟨0, []⟩, gCode g, rfl, pairs_nil _, .inl ⟨HC.out, rfl, rfl⟩, below2s H1.out.bel (by omega) _ _⟩
end Go.Proofs.Ytchmjgjagaaomaa
