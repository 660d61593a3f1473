/- DomTells: for any small graph, root and nodes, Idom, Dominates and Strict are as by definition. -/
import Derived.Test.YtlijimdkadobmaaDnw
import Derived.Test.YtlijimdkadobmaaDtb
namespace Go.Proofs.Ytlijimdkadobmaa
open Go.ChangeShapes Go.WideShapes Go.ChangeAt Go.RowKit Go.Dfl Go.Gra

def smB (g : G) : Bool := decide (g.n ≤ 24) && decide (g.es.length ≤ 120)
set_option maxHeartbeats 800000 in
set_option maxRecDepth 100000 in
theorem small_any (g : G) (cv : Value) (W : World) (h : Pairs W cv g.es) : Calls Try.prog 15 #[GV g cv] W (BoolR (smB g) W) := by
  obtain ⟨ca, cc, rfl, -, -, -⟩ := pairs_rd h
  have hal := (Below.refl W.heap.size W).alloc (Nat.le_refl _) (.cells #[.int .i64 g.n, .slice ca g.es.length cc] 24)
  have H0 := Lib.hid hal
  obtain ⟨c0, c1⟩ := BoxG.new W g.n (.slice ca g.es.length cc) 24
  clear h hal
  unfold GV
  go_enter Try.func15, Try.ntmps15
  by_cases h1 : g.n ≤ 24
  · by_cases h2 : g.es.length ≤ 120
    · have h2' : (g.es.length : Int) ≤ 120 := by omega
      have HD : Hid (smB g = true) := Lib.hid (by unfold smB; rw [decide_eq_true h1, decide_eq_true h2]; rfl)
      go_wp2_with fail
      go_ret
      exact ⟨by rw [HD.out]; rfl, H0.out⟩
    · have h2' : ¬ (g.es.length : Int) ≤ 120 := by omega
      have HD : Hid (smB g = false) := Lib.hid (by unfold smB; rw [decide_eq_true h1, decide_eq_false h2]; rfl)
      go_wp2_with fail
      go_ret
      exact ⟨by rw [HD.out]; rfl, H0.out⟩
  · have HD : Hid (smB g = false) := Lib.hid (by unfold smB; rw [decide_eq_false h1]; rfl)
    go_wp2_with fail
    go_ret
    exact ⟨by rw [HD.out]; rfl, H0.out⟩
set_option maxHeartbeats 6400000 in
set_option maxRecDepth 100000 in
theorem DomTells_walk (g : G) (cv : Value) (r : Int) (lv : Value) (l : List Int) (W : World) (h : Pairs W cv g.es) (_hr : -9223372036854775808 ≤ r ∧ r ≤ 9223372036854775807) (hl : Ints W lv l) (_hb : ∀ x ∈ l, -9223372036854775808 ≤ x ∧ x ≤ 9223372036854775807) : Calls Try.prog 6 #[GV g cv, .int .i64 r, lv] W (TruePost W) := by
  obtain ⟨ca, cc, rfl, -, -, -⟩ := pairs_rd h
  have hal := (Below.refl W.heap.size W).alloc (Nat.le_refl _) (.cells #[.int .i64 g.n, .slice ca g.es.length cc] 24)
  obtain ⟨la, lc, rfl, hlm, hli, hlc, hlb⟩ := (hl.below hal).out1 sIntG
  have H0 := Lib.hid (And.intro (GB.new h 24) hal)
  have HL := Lib.hid (And.intro hlc hlb)
  clear h hal hl _hr _hb hlc hlb
  obtain ⟨c0, c1⟩ := H0.out.1.box
  unfold GV
  go_enter Try.func6, Try.ntmps6
  go_wp2_with fail
  have hsm := small_any g (.slice ca g.es.length cc) _ H0.out.1.es
  unfold GV at hsm
  refine hsm.mono ?_
  rintro e W1 ⟨rfl, b1⟩
  have H1 := Lib.hid (And.intro (H0.out.1.below b1) (And.intro (bel_trans H0.out.2 b1) b1))
  clear hsm b1 c0 c1
  obtain ⟨c0, c1⟩ := H1.out.1.box
  cases hs : smB g
  · clear c0 c1
    go_wp2_with fail
    refine (awake_any _).mono ?_
    rintro e Z ⟨rfl, b⟩
    have HB := Lib.hid (bel_trans H1.out.2.1 b)
    go_wp2_with fail
    go_ret
    exact ⟨rfl, HB.out⟩
  by_cases hl2 : l.length = 2
  rotate_left
  · have q3 : ((l.length : Int) != 2) = true := by simp; omega
    clear c0 c1
    go_wp2_with fail
    refine (awake_any _).mono ?_
    rintro e Z ⟨rfl, b⟩
    have HB := Lib.hid (bel_trans H1.out.2.1 b)
    go_wp2_with fail
    go_ret
    exact ⟨rfl, HB.out⟩
  clear hs
  obtain ⟨a, ha⟩ : ∃ a, a = nth l 0 := ⟨_, rfl⟩
  obtain ⟨b, hb⟩ : ∃ b, b = nth l 1 := ⟨_, rfl⟩
  have x0 : W1.cell? ⟨blk la, ofs la, none⟩ = some (.int .i64 a) := by
    rw [H1.out.2.2.cell (p := ⟨blk la, ofs la, none⟩) (HL.out.2 0 (by omega)), ha]; exact HL.out.1 0 (by omega)
  have x1 : W1.cell? ⟨blk la, ofs la + 1, none⟩ = some (.int .i64 b) := by
    rw [H1.out.2.2.cell (p := ⟨blk la, ofs la + 1, none⟩) (HL.out.2 0 (by omega)), hb]; exact HL.out.1 1 (by omega)
  rw [hl2] at hli ⊢
  have y0 : ∀ W, (Instr.indexAt 31 (.slice la 2 lc) (.int .i64 0)).run Try.prog W = .ok (.pointer (some ⟨blk la, ofs la, none⟩)) W := hli .i64 0 (by omega) (by simp)
  have y1 : ∀ W, (Instr.indexAt 31 (.slice la 2 lc) (.int .i64 1)).run Try.prog W = .ok (.pointer (some ⟨blk la, ofs la + 1, none⟩)) W := hli .i64 1 (by omega) (by simp)
  clear hli hlm hl2 ha hb HL
  go_wp2_with fail
  go_quiet (fail)
  refine K_gen (fun Z => Qt W1 Z) (Qt.drewN _ _) ?_
  intro W2 hW2
  have H2 := Lib.hid (And.intro (H1.out.1.below (qt_below hW2)) (bel_trans H1.out.2.1 (qt_below hW2)))
  clear hW2 c0 c1 x0 x1 y0 y1
  obtain ⟨c0, c1⟩ := H2.out.1.box
  go_wp2_with fail
  have hi := dIdom_any g (.slice ca g.es.length cc) r W2 H2.out.1.es
  unfold GV at hi
  refine hi.mono ?_
  rintro e W3 ⟨ia, ic, rfl, iI, b3, -⟩
  have H3 := Lib.hid (And.intro (H2.out.1.below b3) (And.intro (bel_trans H2.out.2 b3) iI))
  clear hi iI b3 c0 c1
  obtain ⟨c0, c1⟩ := H3.out.1.box
  go_wp2_with fail
  have hi := rIdom_any g (.slice ca g.es.length cc) r W3 H3.out.1.es
  unfold GV at hi
  refine hi.mono ?_
  rintro e W4 ⟨ja, jc, rfl, jI, b4⟩
  have hdr := (Below.refl W4.heap.size W4).drew
  have H4 := Lib.hid (And.intro ((H3.out.1.below b4).below hdr) (And.intro (bel_trans (bel_trans H3.out.2.1 b4) hdr) (And.intro ((H3.out.2.2.below b4).below hdr) (jI.below hdr))))
  clear hi jI b4 hdr c0 c1
  go_upto_region 6 with fail
  refine wp_region_plan (.take 0 (.take 1 (.take 2 (.take 3 (.take 4 (.take 5 (.alt 6 (.take 7 (.take 8 (.take 9 (.take 10 (.take 11 (.take 12 (.take 14 (.take 15 (.take 16 (.take 17 (.alt 13 (.alt 18 (.take 19 (.take 20 (.take 21 (.take 22 (.take 23 (.take 24 (.take 26 (.take 27 (.take 28 (.alt 25 (.alt 29 (.alt 30 (.take 31 (.take 32 (.alt 33 (.take 34 (.alt 35 .done .stop)) .stop))) .stop) .stop) .stop)))))))))) .stop) .stop))))))))))) .stop)))))))
    (fun w' => w'.cell? ⟨W.heap.size, 0, none⟩ = some (.int .i64 g.n) ∧ w'.cell? ⟨W.heap.size, 1, none⟩ = some (.slice ca g.es.length cc)) (by kernel_rfl) (by kernel_rfl) (by kernel_rfl) (by kernel_rfl) H4.out.1.box ?_
  generalize W4.drew = V at *
  refine plan_take (v := ?_) rfl (Or.inl ⟨by rfl, ?_⟩) ?_
  rotate_left
  · (intro W hW; obtain ⟨q1, q2⟩ := hW; go_simp; try with_reducible rfl)
  simp only [Act.put, List.setIfInBounds_toArray, List.getElem_toArray, List.getElem_cons_zero, List.set_cons_succ, List.set_cons_zero]
  refine plan_take (v := ?_) rfl (Or.inl ⟨by rfl, ?_⟩) ?_
  rotate_left
  · (intro W hW; obtain ⟨q1, q2⟩ := hW; go_simp; try with_reducible rfl)
  simp only [Act.put, List.setIfInBounds_toArray, List.getElem_toArray, List.getElem_cons_zero, List.getElem_cons_succ, List.set_cons_succ, List.set_cons_zero]
  refine plan_take (v := ?_) rfl (Or.inl ⟨by rfl, ?_⟩) ?_
  rotate_left
  · (intro W hW; obtain ⟨q1, q2⟩ := hW; go_simp; try with_reducible rfl)
  simp only [Act.put, List.setIfInBounds_toArray, List.getElem_toArray, List.getElem_cons_zero, List.getElem_cons_succ, List.set_cons_succ, List.set_cons_zero]
  refine plan_take (v := ?_) rfl (Or.inl ⟨by rfl, ?_⟩) ?_
  rotate_left
  · (intro W hW; obtain ⟨q1, q2⟩ := hW; go_simp; try with_reducible rfl)
  simp only [Act.put, List.setIfInBounds_toArray, List.getElem_toArray, List.getElem_cons_zero, List.getElem_cons_succ, List.set_cons_succ, List.set_cons_zero]
  refine plan_take (v := ?_) rfl (Or.inl ⟨by rfl, ?_⟩) ?_
  rotate_left
  · (intro W hW; obtain ⟨q1, q2⟩ := hW; go_simp; try with_reducible rfl)
  simp only [Act.put, List.setIfInBounds_toArray, List.getElem_toArray, List.getElem_cons_zero, List.getElem_cons_succ, List.set_cons_succ, List.set_cons_zero]
  refine plan_take (v := ?_) rfl (Or.inl ⟨by rfl, ?_⟩) ?_
  rotate_left
  · (intro W hW; obtain ⟨q1, q2⟩ := hW; go_simp; try with_reducible rfl)
  simp only [Act.put, List.setIfInBounds_toArray, List.getElem_toArray, List.getElem_cons_zero, List.getElem_cons_succ, List.set_cons_succ, List.set_cons_zero]
  refine plan_alt rfl ?_ plan_stop
  go_wp2_with fail
  refine (rEqual_any _ _ _ _ V H4.out.2.2.1 H4.out.2.2.2).mono ?_
  rintro e V5 ⟨rfl, b⟩
  rw [eqB_refl]
  have H5 := Lib.hid (And.intro (H4.out.1.below (qt_below b)) (bel_trans H4.out.2.1 (qt_below b)))
  clear b
  go_wp2_with fail
  refine tail_mk H5.out.1.box ?_
  refine plan_take (v := ?_) rfl (Or.inl ⟨by rfl, ?_⟩) ?_
  rotate_left
  · (intro W hW; obtain ⟨q1, q2⟩ := hW; go_simp; try with_reducible rfl)
  simp only [Act.put, List.setIfInBounds_toArray, List.getElem_toArray, List.getElem_cons_zero, List.getElem_cons_succ, List.set_cons_succ, List.set_cons_zero]
  refine plan_take (v := ?_) rfl (Or.inl ⟨by rfl, ?_⟩) ?_
  rotate_left
  · (intro W hW; obtain ⟨q1, q2⟩ := hW; go_simp; try with_reducible rfl)
  simp only [Act.put, List.setIfInBounds_toArray, List.getElem_toArray, List.getElem_cons_zero, List.getElem_cons_succ, List.set_cons_succ, List.set_cons_zero]
  refine plan_take (v := ?_) rfl (Or.inl ⟨by rfl, ?_⟩) ?_
  rotate_left
  · (intro W hW; obtain ⟨q1, q2⟩ := hW; go_simp; try with_reducible rfl)
  simp only [Act.put, List.setIfInBounds_toArray, List.getElem_toArray, List.getElem_cons_zero, List.getElem_cons_succ, List.set_cons_succ, List.set_cons_zero]
  refine plan_take (v := ?_) rfl (Or.inl ⟨by rfl, ?_⟩) ?_
  rotate_left
  · (intro W hW; obtain ⟨q1, q2⟩ := hW; go_simp; try with_reducible rfl)
  simp only [Act.put, List.setIfInBounds_toArray, List.getElem_toArray, List.getElem_cons_zero, List.getElem_cons_succ, List.set_cons_succ, List.set_cons_zero]
  refine plan_take (v := ?_) rfl (Or.inl ⟨by rfl, ?_⟩) ?_
  rotate_left
  · (intro W hW; obtain ⟨q1, q2⟩ := hW; go_simp; try with_reducible rfl)
  simp only [Act.put, List.setIfInBounds_toArray, List.getElem_toArray, List.getElem_cons_zero, List.getElem_cons_succ, List.set_cons_succ, List.set_cons_zero]
  refine plan_take (v := ?_) rfl (Or.inl ⟨by rfl, ?_⟩) ?_
  rotate_left
  · (intro W hW; obtain ⟨q1, q2⟩ := hW; go_simp; try with_reducible rfl)
  simp only [Act.put, List.setIfInBounds_toArray, List.getElem_toArray, List.getElem_cons_zero, List.getElem_cons_succ, List.set_cons_succ, List.set_cons_zero]
  refine plan_take (v := ?_) rfl (Or.inl ⟨by rfl, ?_⟩) ?_
  rotate_left
  · (intro W hW; obtain ⟨q1, q2⟩ := hW; go_simp; try with_reducible rfl)
  simp only [Act.put, List.setIfInBounds_toArray, List.getElem_toArray, List.getElem_cons_zero, List.getElem_cons_succ, List.set_cons_succ, List.set_cons_zero]
  refine plan_take (v := ?_) rfl (Or.inl ⟨by rfl, ?_⟩) ?_
  rotate_left
  · (intro W hW; obtain ⟨q1, q2⟩ := hW; go_simp; try with_reducible rfl)
  simp only [Act.put, List.setIfInBounds_toArray, List.getElem_toArray, List.getElem_cons_zero, List.getElem_cons_succ, List.set_cons_succ, List.set_cons_zero]
  refine plan_take (v := ?_) rfl (Or.inl ⟨by rfl, ?_⟩) ?_
  rotate_left
  · (intro W hW; obtain ⟨q1, q2⟩ := hW; go_simp; try with_reducible rfl)
  simp only [Act.put, List.setIfInBounds_toArray, List.getElem_toArray, List.getElem_cons_zero, List.getElem_cons_succ, List.set_cons_succ, List.set_cons_zero]
  refine plan_take (v := ?_) rfl (Or.inl ⟨by rfl, ?_⟩) ?_
  rotate_left
  · (intro W hW; obtain ⟨q1, q2⟩ := hW; go_simp; try with_reducible rfl)
  simp only [Act.put, List.setIfInBounds_toArray, List.getElem_toArray, List.getElem_cons_zero, List.getElem_cons_succ, List.set_cons_succ, List.set_cons_zero]
  refine plan_alt rfl ?_ plan_stop
  go_wp2_with fail
  have hc := dDominates_any g (.slice ca g.es.length cc) r a b V5 H5.out.1.es
  unfold GV at hc
  refine hc.mono ?_
  rintro e V6 ⟨rfl, b6⟩
  have H6 := Lib.hid (And.intro (H5.out.1.below b6) (bel_trans H5.out.2 b6))
  clear hc b6
  go_wp2_with fail
  refine tail_mk H6.out.1.box ?_
  refine plan_alt rfl ?_ plan_stop
  go_wp2_with fail
  have hc := rDominates_any g (.slice ca g.es.length cc) r a b V6 H6.out.1.es
  unfold GV at hc
  refine hc.mono ?_
  rintro e V7 ⟨rfl, b7⟩
  have H7 := Lib.hid (And.intro (H6.out.1.below b7) (bel_trans H6.out.2 b7))
  clear hc b7
  go_wp2_with fail
  refine tail_mk H7.out.1.box ?_
  refine plan_take (v := ?_) rfl (Or.inl ⟨by rfl, ?_⟩) ?_
  rotate_left
  · (intro W hW; obtain ⟨q1, q2⟩ := hW; go_simp; try with_reducible rfl)
  simp only [Act.put, List.setIfInBounds_toArray, List.getElem_toArray, List.getElem_cons_zero, List.getElem_cons_succ, List.set_cons_succ, List.set_cons_zero]
  refine plan_take (v := ?_) rfl (Or.inl ⟨by rfl, ?_⟩) ?_
  rotate_left
  · (intro W hW; obtain ⟨q1, q2⟩ := hW; go_simp; try with_reducible rfl)
  simp only [Act.put, List.setIfInBounds_toArray, List.getElem_toArray, List.getElem_cons_zero, List.getElem_cons_succ, List.set_cons_succ, List.set_cons_zero]
  refine plan_take (v := ?_) rfl (Or.inl ⟨by rfl, ?_⟩) ?_
  rotate_left
  · (intro W hW; obtain ⟨q1, q2⟩ := hW; go_simp; try with_reducible rfl)
  simp only [Act.put, List.setIfInBounds_toArray, List.getElem_toArray, List.getElem_cons_zero, List.getElem_cons_succ, List.set_cons_succ, List.set_cons_zero]
  refine plan_take (v := ?_) rfl (Or.inl ⟨by rfl, ?_⟩) ?_
  rotate_left
  · (intro W hW; obtain ⟨q1, q2⟩ := hW; go_simp; try with_reducible rfl)
  simp only [Act.put, List.setIfInBounds_toArray, List.getElem_toArray, List.getElem_cons_zero, List.getElem_cons_succ, List.set_cons_succ, List.set_cons_zero]
  refine plan_take (v := ?_) rfl (Or.inl ⟨by rfl, ?_⟩) ?_
  rotate_left
  · (intro W hW; obtain ⟨q1, q2⟩ := hW; go_simp; try with_reducible rfl)
  simp only [Act.put, List.setIfInBounds_toArray, List.getElem_toArray, List.getElem_cons_zero, List.getElem_cons_succ, List.set_cons_succ, List.set_cons_zero]
  refine plan_take (v := ?_) rfl (Or.inl ⟨by rfl, ?_⟩) ?_
  rotate_left
  · (intro W hW; obtain ⟨q1, q2⟩ := hW; go_simp; try with_reducible rfl)
  simp only [Act.put, List.setIfInBounds_toArray, List.getElem_toArray, List.getElem_cons_zero, List.getElem_cons_succ, List.set_cons_succ, List.set_cons_zero]
  refine plan_take (v := ?_) rfl (Or.inl ⟨by rfl, ?_⟩) ?_
  rotate_left
  · (intro W hW; obtain ⟨q1, q2⟩ := hW; go_simp; try with_reducible rfl)
  simp only [Act.put, List.setIfInBounds_toArray, List.getElem_toArray, List.getElem_cons_zero, List.getElem_cons_succ, List.set_cons_succ, List.set_cons_zero]
  refine plan_take (v := ?_) rfl (Or.inl ⟨by rfl, ?_⟩) ?_
  rotate_left
  · (intro W hW; obtain ⟨q1, q2⟩ := hW; go_simp; try with_reducible rfl)
  simp only [Act.put, List.setIfInBounds_toArray, List.getElem_toArray, List.getElem_cons_zero, List.getElem_cons_succ, List.set_cons_succ, List.set_cons_zero]
  refine plan_take (v := ?_) rfl (Or.inl ⟨by rfl, ?_⟩) ?_
  rotate_left
  · (intro W hW; obtain ⟨q1, q2⟩ := hW; go_simp; try with_reducible rfl)
  simp only [Act.put, List.setIfInBounds_toArray, List.getElem_toArray, List.getElem_cons_zero, List.getElem_cons_succ, List.set_cons_succ, List.set_cons_zero]
  refine plan_alt rfl ?_ plan_stop
  go_wp2_with fail
  have hc := dStrict_any g (.slice ca g.es.length cc) r a V7 H7.out.1.es
  unfold GV at hc
  refine hc.mono ?_
  rintro e V8 ⟨sa, sc, L, rfl, iL, b8, hL⟩
  have H8 := Lib.hid (And.intro (H7.out.1.below b8) (And.intro (bel_trans H7.out.2 b8) iL))
  clear hc b8 iL
  go_wp2_with fail
  refine tail_mk H8.out.1.box ?_
  refine plan_alt rfl ?_ plan_stop
  go_wp2_with fail
  have hc := rStrict_any g (.slice ca g.es.length cc) r a V8 H8.out.1.es
  unfold GV at hc
  refine hc.mono ?_
  rintro e V9 ⟨ta, tc, M, rfl, iM, b9, hM⟩
  obtain rfl := hL.unique hM
  have H9 := Lib.hid (And.intro (H8.out.1.below b9) (And.intro (bel_trans H8.out.2.1 b9) (And.intro (H8.out.2.2.below b9) iM)))
  clear hc b9 iM hL hM
  go_wp2_with fail
  refine tail_mk H9.out.1.box ?_
  refine plan_alt rfl ?_ plan_stop
  go_wp2_with fail
  refine (rEqual_any _ _ _ _ V9 H9.out.2.2.1 H9.out.2.2.2).mono ?_
  rintro e Va ⟨rfl, b⟩
  rw [eqB_refl]
  have Ha := Lib.hid (And.intro (H9.out.1.below (qt_below b)) (bel_trans H9.out.2.1 (qt_below b)))
  clear b
  go_wp2_with fail
  refine tail_mk Ha.out.1.box ?_
  refine plan_take (v := ?_) rfl (Or.inl ⟨by rfl, ?_⟩) ?_
  rotate_left
  · (intro W hW; obtain ⟨q1, q2⟩ := hW; go_simp; try with_reducible rfl)
  simp only [Act.put, List.setIfInBounds_toArray, List.getElem_toArray, List.getElem_cons_zero, List.getElem_cons_succ, List.set_cons_succ, List.set_cons_zero]
  refine plan_take (v := ?_) rfl (Or.inl ⟨by rfl, ?_⟩) ?_
  rotate_left
  · (intro W hW; obtain ⟨q1, q2⟩ := hW; go_simp; try with_reducible rfl)
  simp only [Act.put, List.setIfInBounds_toArray, List.getElem_toArray, List.getElem_cons_zero, List.getElem_cons_succ, List.set_cons_succ, List.set_cons_zero]
  refine plan_alt rfl ?_ plan_stop
  go_wp2_with fail
  refine (awake_any _).mono ?_
  rintro e Vc ⟨rfl, b⟩
  have Hc := Lib.hid (And.intro (Ha.out.1.below b) (bel_trans Ha.out.2 b))
  clear b
  go_wp2_with fail
  refine tail_mk Hc.out.1.box ?_
  refine plan_take (v := ?_) rfl (Or.inl ⟨by rfl, ?_⟩) ?_
  rotate_left
  · (intro W hW; obtain ⟨q1, q2⟩ := hW; go_simp; try with_reducible rfl)
  simp only [Act.put, List.setIfInBounds_toArray, List.getElem_toArray, List.getElem_cons_zero, List.getElem_cons_succ, List.set_cons_succ, List.set_cons_zero]
  refine plan_alt rfl ?_ plan_stop
  go_wp2_with fail
  refine tail_mk Hc.out.1.box ?_
  refine plan_done ?_
  go_wp2_with fail
  go_ret
  exact ⟨rfl, Hc.out.2⟩
set_option maxRecDepth 100000 in
theorem DomTells_lifted (os : Os) (started : os.Started) (H : Type) (enc : TypeId × Value → H) :
    ReturnsInHanded {} Try.checked os 6 .any (Rows.domTellsSpec.pre6 enc Try.prog Try.f6 Rows.domTellsRow.domain false) (Rows.domTellsSpec.post enc Try.prog Try.f6 false true false false) := by
  refine returnsInHanded_of_change (C := Try.checked) own started (by kernel_rfl) Try.func6
    (ChangeSpec.witness6 (enc := enc) (C := Try.checked) false ⟨#[], #[.agg #[.int .i64 0, .slice none 0 0], .int .i64 0, .slice none 0 0], []⟩ 8 (by kernel_rfl) (by kernel_rfl) (by kernel_rfl) (by kernel_rfl)) ?_
  intro W base args ds gs before hval0 hW hcnd _
  have hval : ∀ (j : Nat) t v, Try.f6.params[j]? = some t → args[j]? = some v → Value.okWide Try.prog W .any base t v := hval0
  have hW' := hW
  obtain ⟨p, q, hA0, hV, rfl, hfz, hnd⟩ := hW
  have hA : DataW.TrodAll enc Try.prog W 0 (fun _ => true) true Try.f6.params.toList args.toList ds p := hA0
  rw [Try.params6] at hA hval
  obtain ⟨v0, vs0, d0, ds0, p0, q0, hargs, rfl, rfl, h0, r0⟩ := trodAll_cons hA
  obtain ⟨v1, vs1, d1, ds1, p1, q1, rfl, rfl, rfl, h1, r1⟩ := trodAll_cons r0
  obtain ⟨v2, vs2, d2, ds2, p2, q2, rfl, rfl, rfl, h2, r2⟩ := trodAll_cons r1
  obtain ⟨rfl, rfl, rfl⟩ := trodAll_nil r2
  obtain rfl : args = #[v0, v1, v2] := by cases args; simp_all
  obtain ⟨rfl, rfl⟩ := trodVars_none hV
  obtain ⟨c0, rfl, sz0⟩ := okWide_struct Try.underlying24 (hval 0 24 v0 rfl rfl)
  have k0 := h0
  obtain ⟨g0, cv0, eq0, hC0⟩ := graph_of_trod sz0 h0
  obtain rfl : c0 = #[.int .i64 g0.n, cv0] := by simpa [GV] using eq0
  have lt0 : ∀ x ∈ p0, x.block < W.heap.size := by obtain ⟨m, hm⟩ := k0; exact DataW.trod_lt m _ _ _ hm
  obtain ⟨a1, rfl, rfl, rfl, w1⟩ := open_int Try.underlying3 (hval 1 3 v1 rfl rfl) h1
  have b1 := bounds_i64 w1
  obtain ⟨a2, len2, cap2, rfl⟩ := okWide_slice Try.underlying31 (hval 2 31 v2 rfl rfl)
  have k2 := h2
  have lt2 : ∀ x ∈ p2, x.block < W.heap.size := by obtain ⟨m, hm⟩ := k2; exact DataW.trod_lt m _ _ _ hm
  obtain ⟨l2, hl2, hI2, b2⟩ := ints_of_trod Try.underlying31 Try.underlying3 (by kernel_rfl) h2
  clear hA0 hval0
  refine (DomTells_walk g0 cv0 a1 _ l2 W hC0 b1 hI2 b2).mono fun e W' ⟨he, bel⟩ => ?_
  subst he
  exact ⟨_, rfl, _, _, _, [], _, [], hW', trodAll_mk1 (shut_bool Try.underlying4 _), (trodAll_cons_mk (Below.trod laidOut (by kernel_rfl) (of_decide_eq_true (by kernel_rfl)) k0 bel lt0) (trodAll_cons_mk (shut_int Try.underlying3 w1) (trodAll_cons_mk (Below.trod laidOut (by kernel_rfl) (of_decide_eq_true (by kernel_rfl)) k2 bel lt2) trodAll_mk0))), rfl, bel.frame _, fun h => by cases h⟩

/-- The given statement. -/
theorem DomTells_holds : Rows.DomTellsSaid :=
  OpenClaim.holds_of_wide 6 Try.f6 rfl rfl rfl rfl rfl rfl rfl ⟨rfl, rfl, rfl, rfl, rfl⟩ rfl rfl rfl rfl rfl (by kernel_rfl) Try.func6 (by kernel_rfl)
    (of_decide_eq_true (by kernel_rfl)) (by unfold Func.isWrapper; first | (rw [if_pos (by decide +kernel)]; kernel_rfl) | (rw [if_neg (by decide +kernel)]; exact ⟨rfl, rfl⟩))
    (fun os started H enc _ => DomTells_lifted os started H enc)

end Go.Proofs.Ytlijimdkadobmaa
