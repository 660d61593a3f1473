/- Contracts of the reference's less, Check, Node. -/
import Derived.Test.YtchmjgjagaaomaaGrb
namespace Go.Proofs.Ytchmjgjagaaomaa
open Go.RowKit Go.Dfl Go.Gra

set_option maxHeartbeats 1600000 in
theorem rLess_any (a b : Int × Int) (W : World) : Calls Try.prog 30 #[ev a, ev b] W fun e W' => e = .returned (.bool (decide (eLt a b))) ∧ Grw W W' := by
  obtain ⟨a1, a2⟩ := a
  obtain ⟨b1, b2⟩ := b
  have hg := ((Grw.refl W).alloc (.cells #[.int .i64 a1, .int .i64 a2] 35)).alloc (.cells #[.int .i64 b1, .int .i64 b2] 35)
  have HG := Lib.hid hg
  clear hg
  by_cases h1 : a1 < b1
  · have q1 : decide (a1 < b1) = true := by simpa using h1
    go_enter Try.func30, Try.ntmps30
    go_wp2_with fail
    go_ret
    exact ⟨ret_bool (by unfold eLt; dsimp only; simp [h1]), HG.out⟩
  · have q1 : decide (a1 < b1) = false := by simpa using h1
    by_cases h2 : a1 = b1
    · have q2 : (a1 == b1) = true := by simpa using h2
      by_cases h3 : a2 < b2
      · have q3 : decide (a2 < b2) = true := by simpa using h3
        have HA := Lib.hid (And.intro h2 h3)
        clear h1 h2 h3
        go_enter Try.func30, Try.ntmps30
        go_wp2_with fail
        go_ret
        exact ⟨ret_bool (by symm; rw [decide_eq_true_eq]; exact .inr HA.out), HG.out⟩
      · have q3 : decide (a2 < b2) = false := by simpa using h3
        have HA : Hid (¬ eLt (a1, a2) (b1, b2)) := Lib.hid (by unfold eLt; dsimp only; omega)
        clear h1 h2 h3
        go_enter Try.func30, Try.ntmps30
        go_wp2_with fail
        go_ret
        exact ⟨ret_bool (by symm; rw [decide_eq_false_iff_not]; exact HA.out), HG.out⟩
    · have q2 : (a1 == b1) = false := by simpa using h2
      have HA : Hid (¬ eLt (a1, a2) (b1, b2)) := Lib.hid (by unfold eLt; dsimp only; omega)
      clear h1 h2
      go_enter Try.func30, Try.ntmps30
      go_wp2_with fail
      go_ret
      exact ⟨ret_bool (by symm; rw [decide_eq_false_iff_not]; exact HA.out), HG.out⟩

set_option maxHeartbeats 3200000 in
set_option maxRecDepth 100000 in
theorem rCheck_any (g : G) (cv : Value) (W : World) (h : Pairs W cv g.es) : Calls Try.prog 9 #[GV g cv] W fun e W' => e = .returned (.int .i64 (gCode g)) ∧ Below W.heap.size W W' := by
  obtain ⟨ca, cc, rfl, hlen, hci, hcc⟩ := pairs_rd h
  have HC := Lib.hid hcc
  clear h hcc
  obtain ⟨n, es⟩ := g
  dsimp only at *
  unfold GV
  dsimp only
  by_cases h1 : n < 0
  · go_enter Try.func9, Try.ntmps9
    go_wp2_with fail
    go_ret
    exact ⟨ret_int (gCode_neg h1).symm, (Below.refl _ _).alloc (Nat.le_refl _) _⟩
  by_cases h2 : 8192 < n
  · go_enter Try.func9, Try.ntmps9
    go_wp2_with fail
    go_ret
    exact ⟨ret_int (gCode_big (by dsimp only; omega) (.inl h2)).symm, (Below.refl _ _).alloc (Nat.le_refl _) _⟩
  by_cases h3 : 32768 < es.length
  · have h3' : (32768 : Int) < (es.length : Int) := by omega
    go_enter Try.func9, Try.ntmps9
    go_wp2_with fail
    go_ret
    exact ⟨ret_int (gCode_big (by dsimp only; omega) (.inr h3)).symm, (Below.refl _ _).alloc (Nat.le_refl _) _⟩
  have hcode : gCode ⟨n, es⟩ = scanE n (prevE es 0) (es.drop 0) := gCode_scan (by dsimp only; omega) (by dsimp only; omega) (by dsimp only; omega)
  have HK := Lib.hid hcode
  have hd1 : decide (n < 0) = false := by simpa using h1
  have hd2 : decide (8192 < n) = false := by simpa using h2
  have hd3 : decide ((32768 : Int) < (es.length : Int)) = false := by simp; omega
  have hl : es.length ≤ 32768 := by omega
  clear hcode h1 h2 h3
  go_enter Try.func9, Try.ntmps9
  go_wp2_with fail
  clear hd1 hd2 hd3
  refine gen_code (fun Z => BoxG Z W.heap.size n (.slice ca es.length cc) ∧ Below W.heap.size W Z) ⟨BoxG.new _ _ _ _, (Below.refl _ _).alloc (Nat.le_refl _) _⟩ ?_
  rintro W1 h5
  obtain ⟨bw, hbw⟩ : ∃ bw, bw = W.heap.size := ⟨_, rfl⟩
  rw [← hbw] at h5 ⊢
  have H5 := Lib.hid h5
  have HBW := Lib.hid hbw
  clear h5 hbw
  go_loopw [3, 4] (fun x _ wr => ∃ k : Nat, k ≤ es.length ∧ x = .int .i64 k ∧ Hid (BoxG wr bw n (.slice ca es.length cc) ∧ Below bw W wr ∧ gCode ⟨n, es⟩ = scanE n (prevE es k) (es.drop k))) (fun x _ _ => es.length - (intOf x).toNat)
  case atStart => exact ⟨0, by omega, rfl, H5.out.1, H5.out.2, HK.out⟩
  case round =>
    clear H5
    obtain ⟨k, hk, rfl, hh⟩ := hrel
    obtain ⟨b0, b1⟩ := hh.out.1
    have hbl := hh.out.1.lt
    have hbn : bw ≠ wr.heap.size := by omega
    by_cases hlt : k < es.length
    · have hbW : Below W.heap.size W wr := by rw [← HBW.out]; exact hh.out.2.1
      obtain ⟨p0, p1⟩ := (HC.out k hlt).2 wr hbW
      obtain ⟨e, he⟩ : ∃ e, e = nth es k := ⟨_, rfl⟩
      rw [← he] at p0 p1
      have HE := Lib.hid he
      clear he hbW
      obtain ⟨x, y⟩ := e
      dsimp only at p0 p1
      have hb0' : bw < wr.heap.size := hbl
      by_cases hx1 : x < 0
      · have q1 : decide (x < 0) = true := by simpa using hx1
        go_wp2_with fail
        go_ret
        refine ⟨ret_int ?_, ?_⟩
        · rw [hh.out.2.2, scanE_bad hlt (by rw [← HE.out, Bool.eq_false_iff]; intro hc; rw [inB_iff] at hc; dsimp only at hc; omega)]
        · have h9 := hh.out.2.1.alloc (Nat.le_of_lt hbl) (.cells #[.int .i64 x, .int .i64 y] 35)
          rw [HBW.out] at h9; exact h9
      · have q1 : decide (x < 0) = false := by simpa using hx1
        by_cases hx2 : n ≤ x
        · have q2 : decide (n ≤ x) = true := by simpa using hx2
          go_wp2_with fail
          go_ret
          refine ⟨ret_int ?_, ?_⟩
          · rw [hh.out.2.2, scanE_bad hlt (by rw [← HE.out, Bool.eq_false_iff]; intro hc; rw [inB_iff] at hc; dsimp only at hc; omega)]
          · have h9 := hh.out.2.1.alloc (Nat.le_of_lt hbl) (.cells #[.int .i64 x, .int .i64 y] 35)
            rw [HBW.out] at h9; exact h9
        · have q2 : decide (n ≤ x) = false := by simpa using hx2
          by_cases hy1 : y < 0
          · have q3 : decide (y < 0) = true := by simpa using hy1
            go_wp2_with fail
            go_ret
            refine ⟨ret_int ?_, ?_⟩
            · rw [hh.out.2.2, scanE_bad hlt (by rw [← HE.out, Bool.eq_false_iff]; intro hc; rw [inB_iff] at hc; dsimp only at hc; omega)]
            · have h9 := hh.out.2.1.alloc (Nat.le_of_lt hbl) (.cells #[.int .i64 x, .int .i64 y] 35)
              rw [HBW.out] at h9; exact h9
          · have q3 : decide (y < 0) = false := by simpa using hy1
            by_cases hy2 : n ≤ y
            · have q4 : decide (n ≤ y) = true := by simpa using hy2
              go_wp2_with fail
              go_ret
              refine ⟨ret_int ?_, ?_⟩
              · rw [hh.out.2.2, scanE_bad hlt (by rw [← HE.out, Bool.eq_false_iff]; intro hc; rw [inB_iff] at hc; dsimp only at hc; omega)]
              · have h9 := hh.out.2.1.alloc (Nat.le_of_lt hbl) (.cells #[.int .i64 x, .int .i64 y] 35)
                rw [HBW.out] at h9; exact h9
            · have q4 : decide (n ≤ y) = false := by simpa using hy2
              have HXY : Hid (inB n (nth es k) = true) := Lib.hid (by rw [← HE.out, inB_iff]; dsimp only; omega)
              have hB1 := And.intro (hh.out.1.grown (grownBy_alloc _ (.cells #[.int .i64 x, .int .i64 y] 35)) (by simp)) (hh.out.2.1.alloc (Nat.le_of_lt hbl) (.cells #[.int .i64 x, .int .i64 y] 35))
              clear hx1 hx2 hy1 hy2
              by_cases h0 : k = 0
              · subst h0
                have HB1 := Lib.hid hB1
                rw [Nat.zero_mul, Nat.add_zero] at p0 p1
                rw [show ((0 : Nat) : Int) = 0 from rfl]
                have hz : (0 : Int) < (es.length : Int) := by omega
                clear hB1
                go_wp2_with fail
                go_quiet (fail)
                go_wp2_with fail
                go_roundw
                case rel => exact ⟨1, by omega, by go_num, HB1.out.1.grown (grownBy_qt (by first | exact Qt.refl _ | exact Qt.drewN _ _ | exact (Qt.drewN _ _).trans (Qt.drewN _ _) | exact ((Qt.drewN _ _).trans (Qt.drewN _ _)).trans (Qt.drewN _ _) | exact Qt.drew _ | exact (Qt.drewN _ _).trans (Qt.drew _))) (by simp), HB1.out.2.trans (Qt.below (by first | exact Qt.refl _ | exact Qt.drewN _ _ | exact (Qt.drewN _ _).trans (Qt.drewN _ _) | exact ((Qt.drewN _ _).trans (Qt.drewN _ _)).trans (Qt.drewN _ _) | exact Qt.drew _ | exact (Qt.drewN _ _).trans (Qt.drew _)) _), by rw [hh.out.2.2]; exact scanE_ok hlt HXY.out (by omega)⟩
                case measure => simp [intOf]; omega
              · obtain ⟨m, rfl⟩ : ∃ m, k = m + 1 := ⟨k - 1, by omega⟩
                rw [show ((m + 1 : Nat) : Int) = (m : Int) + 1 by omega]
                have cq := cells_new (W := wr) (cs := [.int .i64 x, .int .i64 y]) (t := 35) rfl
                have hbW : Below W.heap.size W (wr.alloc (.cells #[.int .i64 x, .int .i64 y] 35)) := by rw [← HBW.out]; exact hB1.2
                obtain ⟨r0, r1⟩ := (HC.out m (by omega)).2 _ hbW
                obtain ⟨d, hd⟩ : ∃ d, d = nth es m := ⟨_, rfl⟩
                rw [← hd] at r0 r1
                have HD := Lib.hid hd
                clear hd
                obtain ⟨u, v⟩ := d
                dsimp only at r0 r1
                have HB1 := Lib.hid (And.intro hB1 (And.intro r0 (And.intro r1 (And.intro (cq 0 _ rfl) (cq 1 _ rfl)))))
                clear hB1 r0 r1 cq hbW
                have hm2 : (m : Int) + 1 < (es.length : Int) := by omega
                have hm4 : (0 : Int) ≤ (m : Int) + 1 := by omega
                have hm5 : ((m : Int) + 1).toNat = m + 1 := by omega
                go_wp2_with fail
                refine gen_code (fun Z => (BoxG Z bw n (.slice ca es.length cc) ∧ Below bw W Z) ∧ Z.cell? ⟨blk ca, ofs ca + m * 2, none⟩ = some (.int .i64 u) ∧ Z.cell? ⟨blk ca, ofs ca + m * 2 + 1, none⟩ = some (.int .i64 v) ∧ Z.cell? ⟨wr.heap.size, 0, none⟩ = some (.int .i64 x) ∧ Z.cell? ⟨wr.heap.size, 1, none⟩ = some (.int .i64 y)) HB1.out ?_
                rintro Z ⟨hz, z0, z1, z2, z3⟩
                obtain ⟨bd, hbd⟩ : ∃ bd, bd = wr.heap.size := ⟨_, rfl⟩
                rw [← hbd] at z2 z3 ⊢
                clear hbd HB1 p0 p1 b0 b1 hbl hbn
                have zb := hz.1.2
                have hZ := below_drewN (Below.refl Z.heap.size Z) 1
                rw [show Z.drewN 1 = Z.drew from rfl] at hZ
                have HZ := Lib.hid hz
                have hm1 : (m : Int) < (es.length : Int) := by omega
                have hm3 : (0 : Int) ≤ (m : Int) := by omega
                generalize hkI : (m : Int) + 1 = kI at *
                have hw : IntKind.i64.wrap (kI - 1) = (m : Int) := by rw [← hkI, show (m : Int) + 1 - 1 = m by omega]; exact IntWalk.i64_in _ (by omega)
                have hd0 : decide (0 < kI) = true := by simp; omega
                have HKI := Lib.hid hkI
                clear hkI hm2 hm4 hm5
                refine wp_region_mix [0, 1, 2, 3, 4, 5, 6, 7, 8, 9] [10, 11, 12] (fun w' => w'.cell? ⟨bw, 1, none⟩ = some (.slice ca es.length cc) ∧ w'.cell? ⟨blk ca, ofs ca + m * 2, none⟩ = some (.int .i64 u) ∧ w'.cell? ⟨blk ca, ofs ca + m * 2 + 1, none⟩ = some (.int .i64 v) ∧ w'.cell? ⟨bd, 0, none⟩ = some (.int .i64 x) ∧ w'.cell? ⟨bd, 1, none⟩ = some (.int .i64 y)) (by kernel_rfl) (by kernel_rfl) (by kernel_rfl) ⟨zb, z0, z1, z2, z3⟩ ?_
                have hs : Z.drew.cell? ⟨bw, 1, none⟩ = some (.slice ca es.length cc) ∧ Z.drew.cell? ⟨blk ca, ofs ca + m * 2, none⟩ = some (.int .i64 u) ∧ Z.drew.cell? ⟨blk ca, ofs ca + m * 2 + 1, none⟩ = some (.int .i64 v) ∧ Z.drew.cell? ⟨bd, 0, none⟩ = some (.int .i64 x) ∧ Z.drew.cell? ⟨bd, 1, none⟩ = some (.int .i64 y) := ⟨zb, z0, z1, z2, z3⟩
                generalize Z.drew = V at *
                have HV := Lib.hid (And.intro hZ hs)
                clear hZ hs hz zb z0 z1 z2 z3
                repeat (
                  refine wpHeads_cons (v := ?_) rfl (Or.inl ⟨by rfl, ?_⟩) ?_
                  rotate_left
                  · (intro W hW; obtain ⟨q1, q2, q3, q4, q5⟩ := hW; go_simp; try with_reducible rfl)
                  simp only [Act.put, List.setIfInBounds_toArray, List.getElem_toArray, List.getElem_cons_zero, List.getElem_cons_succ, List.set_cons_succ, List.set_cons_zero])
                refine wpHeads_nil ?_
                refine wpTails_cons rfl ?_
                go_wp2_with fail
                refine (rLess_any (u, v) (x, y) _).mono ?_
                rintro e W9 ⟨rfl, hg9⟩
                have hb9 := hg9.below
                have g9 := grownBy_below hb9
                have s9 := And.intro (g9.cell HV.out.2.1 (by simp)) (And.intro (g9.cell HV.out.2.2.1 (by simp)) (And.intro (g9.cell HV.out.2.2.2.1 (by simp)) (And.intro (g9.cell HV.out.2.2.2.2.1 (by simp)) (g9.cell HV.out.2.2.2.2.2 (by simp)))))
                have hbz := HV.out.1.trans (hb9.mono HV.out.1.size)
                have H9 := Lib.hid (And.intro s9 (And.intro (HZ.out.1.below hbz) (HZ.out.2.trans (hbz.mono (Nat.le_of_lt HZ.out.1.lt)))))
                clear hg9 hb9 g9 s9 hbz
                by_cases hr0 : eLt (u, v) (x, y)
                · rw [show decide (eLt (u, v) (x, y)) = true by simpa using hr0]
                  have HO := Lib.hid hr0
                  clear hr0
                  go_wp2_with fail
                  refine tail_mk H9.out.1 ?_
                  refine wpTails_cons rfl ?_
                  go_wp2_with fail
                  refine tail_mk H9.out.1 ?_
                  refine wpTails_one rfl ?_
                  go_wp2_with fail
                  refine thenQ_mk ?_
                  obtain rfl := HKI.out
                  go_wp2_with fail
                  go_roundw
                  case rel => exact ⟨m + 2, by omega, by go_num, H9.out.2.1, H9.out.2.2, by rw [hh.out.2.2]; exact scanE_ok hlt HXY.out (fun _ => by rw [show m + 1 - 1 = m by omega, ← HE.out, ← HD.out]; exact HO.out)⟩
                  case measure => simp [intOf]; omega
                · rw [show decide (eLt (u, v) (x, y)) = false by simpa using hr0]
                  have HO := Lib.hid hr0
                  clear hr0
                  go_wp2_with fail
                  refine tail_mk H9.out.1 ?_
                  refine wpTails_cons rfl ?_
                  go_wp2_with fail
                  refine tail_mk H9.out.1 ?_
                  refine wpTails_one rfl ?_
                  go_wp2_with fail
                  refine thenQ_mk ?_
                  go_wp2_with fail
                  go_ret
                  refine ⟨ret_int ?_, by have h9 := H9.out.2.2; rw [HBW.out] at h9; exact h9⟩
                  rw [hh.out.2.2, scanE_ord hlt HXY.out (by rw [← HE.out, ← HD.out]; exact HO.out)]
    · obtain rfl : k = es.length := by omega
      go_wp2_with fail
      go_ret
      refine ⟨ret_int ?_, by have h9 := hh.out.2.1; rw [HBW.out] at h9; exact h9⟩
      rw [hh.out.2.2, List.drop_length]; rfl

/-- Whether a number is a node of a valid graph. -/
def nodeG (g : G) (v : Int) : Bool := decide (gCode g = 0) && nodeB g.n v
theorem nodeG_iff {g : G} {v : Int} : nodeG g v = true ↔ VG g ∧ 0 ≤ v ∧ v < g.n := by
  unfold nodeG; rw [Bool.and_eq_true, nodeB_iff, decide_eq_true_eq, gCode_ok]
set_option maxHeartbeats 1600000 in
theorem rNode_any (g : G) (cv : Value) (v : Int) (W : World) (h : Pairs W cv g.es) : Calls Try.prog 13 #[GV g cv, .int .i64 v] W fun e W' => e = .returned (.bool (nodeG g v)) ∧ Below W.heap.size W W' := by
  obtain ⟨ca, cc, rfl, -, -, -⟩ := pairs_rd h
  have hal := (Below.refl W.heap.size W).alloc (Nat.le_refl _) (.cells #[.int .i64 g.n, .slice ca g.es.length cc] 24)
  have H0 := Lib.hid (And.intro (h.below hal) (And.intro hal (BoxG.new W g.n (.slice ca g.es.length cc) 24)))
  clear h hal
  unfold GV
  go_enter Try.func13, Try.ntmps13
  go_wp2_with fail
  have hck := rCheck_any g (.slice ca g.es.length cc) _ H0.out.1
  unfold GV at hck
  refine hck.mono ?_
  rintro e W1 ⟨rfl, r1⟩
  have H1 := Lib.hid (And.intro (H0.out.2.1.trans (r1.mono H0.out.2.1.size)) (H0.out.2.2.below r1))
  clear r1 hck
  obtain ⟨c0, c1⟩ := H1.out.2
  have hng : nodeG g v = (decide (gCode g = 0) && nodeB g.n v) := rfl
  have HNG := Lib.hid hng
  clear hng
  by_cases hc : gCode g = 0
  · have q0 : (gCode g == 0) = true := by simpa using hc
    by_cases h1 : 0 ≤ v
    · have q1 : decide (0 ≤ v) = true := by simpa using h1
      by_cases h2 : v < g.n
      · have q2 : decide (v < g.n) = true := by simpa using h2
        have HA : Hid ((decide (gCode g = 0) && nodeB g.n v) = true) := Lib.hid (by simp [hc, nodeB, h1, h2])
        clear hc h1 h2
        go_wp2_with fail
        go_ret
        exact ⟨ret_bool (by rw [HNG.out, HA.out]), H1.out.1⟩
      · have q2 : decide (v < g.n) = false := by simpa using h2
        have HA : Hid ((decide (gCode g = 0) && nodeB g.n v) = false) := Lib.hid (by simp [nodeB, h2])
        clear hc h1 h2
        go_wp2_with fail
        go_ret
        exact ⟨ret_bool (by rw [HNG.out, HA.out]), H1.out.1⟩
    · have q1 : decide (0 ≤ v) = false := by simpa using h1
      have HA : Hid ((decide (gCode g = 0) && nodeB g.n v) = false) := Lib.hid (by simp [nodeB, h1])
      clear hc h1
      go_wp2_with fail
      go_ret
      exact ⟨ret_bool (by rw [HNG.out, HA.out]), H1.out.1⟩
  · have q0 : (gCode g == 0) = false := by simpa using hc
    have HA : Hid ((decide (gCode g = 0) && nodeB g.n v) = false) := Lib.hid (by simp [hc])
    clear hc
    go_wp2_with fail
    go_ret
    exact ⟨ret_bool (by rw [HNG.out, HA.out]), H1.out.1⟩
end Go.Proofs.Ytchmjgjagaaomaa
