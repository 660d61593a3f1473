/- GraphTells: for any graph and any number, Check, Succ, Pred and Reverse are as by definition. -/
import Derived.Test.YtjapnkhgijhakaaGlw
namespace Go.Proofs.Ytjapnkhgijhakaa
open Go.ChangeShapes Go.WideShapes Go.ChangeAt Go.RowKit Go.Dfl Go.Gra

set_option maxHeartbeats 3200000 in
set_option maxRecDepth 100000 in
theorem GraphTells_walk (g : G) (cv : Value) (v : Int) (W : World) (h : Pairs W cv g.es) (_hv : -9223372036854775808 ≤ v ∧ v ≤ 9223372036854775807) : Calls Try.prog 8 #[GV g cv, .int .i64 v] W (TruePost W) := by
  obtain ⟨ca, cc, rfl, -, -, -⟩ := pairs_rd h
  have hal := (Below.refl W.heap.size W).alloc (Nat.le_refl _) (.cells #[.int .i64 g.n, .slice ca g.es.length cc] 25)
  have H0 := Lib.hid (And.intro (GB.new h 25) hal)
  clear h hal
  obtain ⟨c0, c1⟩ := H0.out.1.box
  unfold GV
  go_enter Try.func8, Try.ntmps8
  by_cases hq : 400 < g.es.length
  · have hq' : (400 : Int) < (g.es.length : Int) := by omega
    go_wp2_with fail
    refine (awake_any _).mono ?_
    rintro e Z ⟨rfl, b⟩
    have HB := Lib.hid (bel_trans H0.out.2 b)
    go_wp2_with fail
    go_ret
    exact ⟨rfl, HB.out⟩
  · have hq' : ¬ (400 : Int) < (g.es.length : Int) := by omega
    go_upto_region 3 with fail
    have hdr := bel_trans H0.out.2 ((Below.refl _ _).drew)
    have hgd := H0.out.1.below ((Below.refl _ _).drew)
    refine wp_region_plan (.take 0 (.take 2 (.alt 1 (.alt 3 (.take 4 (.take 5 (.take 6 (.take 7 (.take 9 (.take 10 (.alt 8 (.alt 11 (.alt 12 (.take 13 (.take 14 (.take 15 (.take 16 (.take 18 (.take 19 (.alt 17 (.alt 20 (.alt 21 (.take 22 (.take 23 (.take 24 (.take 26 (.alt 25 (.alt 27 (.alt 28 (.take 29 (.take 30 (.alt 31 (.take 32 (.alt 33 .done .stop)) .stop))) .stop) .stop) .stop))))) .stop) .stop) .stop))))))) .stop) .stop) .stop))))))) .stop) .stop)))
      (fun w' => w'.cell? ⟨W.heap.size, 0, none⟩ = some (.int .i64 g.n) ∧ w'.cell? ⟨W.heap.size, 1, none⟩ = some (.slice ca g.es.length cc)) (by kernel_rfl) (by kernel_rfl) (by kernel_rfl) (by kernel_rfl) hgd.box ?_
    refine plan_take (v := ?_) rfl (Or.inl ⟨by rfl, ?_⟩) ?_
    rotate_left
    · (intro W hW; obtain ⟨q1, q2⟩ := hW; go_simp; try with_reducible rfl)
    simp only [Act.put, List.getElem_toArray]
    refine plan_take (v := ?_) rfl (Or.inl ⟨by rfl, ?_⟩) ?_
    rotate_left
    · (intro W hW; obtain ⟨q1, q2⟩ := hW; go_simp; try with_reducible rfl)
    simp only [Act.put, List.getElem_toArray]
    have HD := Lib.hid (And.intro hgd hdr)
    clear hgd hdr c0 c1
    generalize (W.alloc (.cells #[.int .i64 g.n, .slice ca g.es.length cc] 25)).drew = V at *
    refine plan_alt rfl ?_ plan_stop
    go_wp2_with fail
    have hc := gCheck_any g (.slice ca g.es.length cc) V HD.out.1.es
    unfold GV at hc
    refine hc.mono ?_
    rintro e V1 ⟨rfl, b⟩
    have H1 := Lib.hid (And.intro (HD.out.1.below b) (bel_trans HD.out.2 b))
    clear hc b
    go_wp2_with fail
    refine tail_mk H1.out.1.box ?_
    refine plan_alt rfl ?_ plan_stop
    go_wp2_with fail
    have hc := rCheck_any g (.slice ca g.es.length cc) V1 H1.out.1.es
    unfold GV at hc
    refine hc.mono ?_
    rintro e V2 ⟨rfl, b⟩
    have H2 := Lib.hid (And.intro (H1.out.1.below b) (bel_trans H1.out.2 b))
    clear hc b
    go_wp2_with fail
    refine tail_mk H2.out.1.box ?_
    refine plan_take (v := ?_) rfl (Or.inl ⟨by rfl, ?_⟩) ?_
    rotate_left
    · (intro W hW; obtain ⟨q1, q2⟩ := hW; go_simp; try with_reducible rfl)
    simp only [Act.put, List.getElem_toArray]
    refine plan_take (v := ?_) rfl (Or.inl ⟨by rfl, ?_⟩) ?_
    rotate_left
    · (intro W hW; obtain ⟨q1, q2⟩ := hW; go_simp; try with_reducible rfl)
    simp only [Act.put, List.getElem_toArray]
    refine plan_take (v := ?_) rfl (Or.inl ⟨by rfl, ?_⟩) ?_
    rotate_left
    · (intro W hW; obtain ⟨q1, q2⟩ := hW; go_simp; try with_reducible rfl)
    simp only [Act.put, List.getElem_toArray]
    refine plan_take (v := ?_) rfl (Or.inl ⟨by rfl, ?_⟩) ?_
    rotate_left
    · (intro W hW; obtain ⟨q1, q2⟩ := hW; go_simp; try with_reducible rfl)
    simp only [Act.put, List.getElem_toArray]
    refine plan_take (v := ?_) rfl (Or.inl ⟨by rfl, ?_⟩) ?_
    rotate_left
    · (intro W hW; obtain ⟨q1, q2⟩ := hW; go_simp; try with_reducible rfl)
    simp only [Act.put, List.getElem_toArray]
    refine plan_take (v := ?_) rfl (Or.inl ⟨by rfl, ?_⟩) ?_
    rotate_left
    · (intro W hW; obtain ⟨q1, q2⟩ := hW; go_simp; try with_reducible rfl)
    simp only [Act.put, List.getElem_toArray]
    refine plan_alt rfl ?_ plan_stop
    go_wp2_with fail
    have hc := gSucc_any g (.slice ca g.es.length cc) v V2 H2.out.1.es
    unfold GV at hc
    refine hc.mono ?_
    rintro e V3 ⟨a3, k3, rfl, s, b⟩
    have H3 := Lib.hid (And.intro (H2.out.1.below b) (bel_trans H2.out.2 b))
    have S3 := Lib.hid (And.intro s b)
    clear hc b s
    go_wp2_with fail
    refine tail_mk H3.out.1.box ?_
    refine plan_alt rfl ?_ plan_stop
    go_wp2_with fail
    have hc := rSucc_any g (.slice ca g.es.length cc) v V3 H3.out.1.es
    unfold GV at hc
    refine hc.mono ?_
    rintro e V4 ⟨a4, k4, rfl, s, b⟩
    have H4 := Lib.hid (And.intro (H3.out.1.below b) (bel_trans H3.out.2 b))
    have S4 := Lib.hid (And.intro s b)
    clear hc b s
    go_wp2_with fail
    refine tail_mk H4.out.1.box ?_
    refine plan_alt rfl ?_ plan_stop
    go_wp2_with fail
    refine (rEqual_any _ _ _ _ V4 (S3.out.1.below S4.out.2) S4.out.1).mono ?_
    rintro e V5 ⟨rfl, b⟩
    rw [eqB_refl]
    have H5 := Lib.hid (And.intro (H4.out.1.below (qt_below b)) (bel_trans H4.out.2 (qt_below b)))
    clear b
    go_wp2_with fail
    refine tail_mk H5.out.1.box ?_
    refine plan_take (v := ?_) rfl (Or.inl ⟨by rfl, ?_⟩) ?_
    rotate_left
    · (intro W hW; obtain ⟨q1, q2⟩ := hW; go_simp; try with_reducible rfl)
    simp only [Act.put, List.getElem_toArray]
    refine plan_take (v := ?_) rfl (Or.inl ⟨by rfl, ?_⟩) ?_
    rotate_left
    · (intro W hW; obtain ⟨q1, q2⟩ := hW; go_simp; try with_reducible rfl)
    simp only [Act.put, List.getElem_toArray]
    refine plan_take (v := ?_) rfl (Or.inl ⟨by rfl, ?_⟩) ?_
    rotate_left
    · (intro W hW; obtain ⟨q1, q2⟩ := hW; go_simp; try with_reducible rfl)
    simp only [Act.put, List.getElem_toArray]
    refine plan_take (v := ?_) rfl (Or.inl ⟨by rfl, ?_⟩) ?_
    rotate_left
    · (intro W hW; obtain ⟨q1, q2⟩ := hW; go_simp; try with_reducible rfl)
    simp only [Act.put, List.getElem_toArray]
    refine plan_take (v := ?_) rfl (Or.inl ⟨by rfl, ?_⟩) ?_
    rotate_left
    · (intro W hW; obtain ⟨q1, q2⟩ := hW; go_simp; try with_reducible rfl)
    simp only [Act.put, List.getElem_toArray]
    refine plan_take (v := ?_) rfl (Or.inl ⟨by rfl, ?_⟩) ?_
    rotate_left
    · (intro W hW; obtain ⟨q1, q2⟩ := hW; go_simp; try with_reducible rfl)
    simp only [Act.put, List.getElem_toArray]
    refine plan_alt rfl ?_ plan_stop
    go_wp2_with fail
    have hc := gPred_any g (.slice ca g.es.length cc) v V5 H5.out.1.es
    unfold GV at hc
    refine hc.mono ?_
    rintro e V6 ⟨a6, k6, rfl, s, b⟩
    have H6 := Lib.hid (And.intro (H5.out.1.below b) (bel_trans H5.out.2 b))
    have S6 := Lib.hid (And.intro s b)
    clear hc b s
    go_wp2_with fail
    refine tail_mk H6.out.1.box ?_
    refine plan_alt rfl ?_ plan_stop
    go_wp2_with fail
    have hc := rPred_any g (.slice ca g.es.length cc) v V6 H6.out.1.es
    unfold GV at hc
    refine hc.mono ?_
    rintro e V7 ⟨a7, k7, rfl, s, b⟩
    have H7 := Lib.hid (And.intro (H6.out.1.below b) (bel_trans H6.out.2 b))
    have S7 := Lib.hid (And.intro s b)
    clear hc b s
    go_wp2_with fail
    refine tail_mk H7.out.1.box ?_
    refine plan_alt rfl ?_ plan_stop
    go_wp2_with fail
    refine (rEqual_any _ _ _ _ V7 (S6.out.1.below S7.out.2) S7.out.1).mono ?_
    rintro e V8 ⟨rfl, b⟩
    rw [eqB_refl]
    have H8 := Lib.hid (And.intro (H7.out.1.below (qt_below b)) (bel_trans H7.out.2 (qt_below b)))
    clear b
    go_wp2_with fail
    refine tail_mk H8.out.1.box ?_
    refine plan_take (v := ?_) rfl (Or.inl ⟨by rfl, ?_⟩) ?_
    rotate_left
    · (intro W hW; obtain ⟨q1, q2⟩ := hW; go_simp; try with_reducible rfl)
    simp only [Act.put, List.getElem_toArray]
    refine plan_take (v := ?_) rfl (Or.inl ⟨by rfl, ?_⟩) ?_
    rotate_left
    · (intro W hW; obtain ⟨q1, q2⟩ := hW; go_simp; try with_reducible rfl)
    simp only [Act.put, List.getElem_toArray]
    refine plan_take (v := ?_) rfl (Or.inl ⟨by rfl, ?_⟩) ?_
    rotate_left
    · (intro W hW; obtain ⟨q1, q2⟩ := hW; go_simp; try with_reducible rfl)
    simp only [Act.put, List.getElem_toArray]
    refine plan_take (v := ?_) rfl (Or.inl ⟨by rfl, ?_⟩) ?_
    rotate_left
    · (intro W hW; obtain ⟨q1, q2⟩ := hW; go_simp; try with_reducible rfl)
    simp only [Act.put, List.getElem_toArray]
    refine plan_alt rfl ?_ plan_stop
    go_wp2_with fail
    have hc := (gReverse_any g (.slice ca g.es.length cc) V8 H8.out.1.es)
    unfold GV at hc
    refine hc.mono ?_
    rintro e V9 hre
    obtain ⟨g9, a9, k9, rfl, p, hri, b⟩ := hre.is
    have H9 := Lib.hid (And.intro (H8.out.1.below b) (bel_trans H8.out.2 b))
    have S9 := Lib.hid (And.intro p (And.intro hri b))
    clear hc b p hri hre
    unfold GV
    go_wp2_with fail
    refine tail_mk H9.out.1.box ?_
    refine plan_alt rfl ?_ plan_stop
    go_wp2_with fail
    have hc := (rReverse_any g (.slice ca g.es.length cc) V9 H9.out.1.es)
    unfold GV at hc
    refine hc.mono ?_
    rintro e Va hre
    obtain ⟨ga, aa, ka, rfl, p, hri, b⟩ := hre.is
    have Ha := Lib.hid (And.intro (H9.out.1.below b) (bel_trans H9.out.2 b))
    have Sa := Lib.hid (And.intro p (And.intro hri b))
    clear hc b p hri hre
    unfold GV
    go_wp2_with fail
    refine tail_mk Ha.out.1.box ?_
    obtain rfl := S9.out.2.1.unique Sa.out.2.1
    refine plan_alt rfl ?_ plan_stop
    go_wp2_with fail
    have hc := rSame_any g9 g9 _ _ Va (S9.out.1.below Sa.out.2.2) Sa.out.1
    unfold GV at hc
    refine hc.mono ?_
    rintro e Vb ⟨rfl, b⟩
    rw [sameB_refl]
    have Hb := Lib.hid (And.intro (Ha.out.1.below b) (bel_trans Ha.out.2 b))
    clear hc b
    go_wp2_with fail
    refine tail_mk Hb.out.1.box ?_
    refine plan_take (v := ?_) rfl (Or.inl ⟨by rfl, ?_⟩) ?_
    rotate_left
    · (intro W hW; obtain ⟨q1, q2⟩ := hW; go_simp; try with_reducible rfl)
    simp only [Act.put, List.getElem_toArray]
    refine plan_take (v := ?_) rfl (Or.inl ⟨by rfl, ?_⟩) ?_
    rotate_left
    · (intro W hW; obtain ⟨q1, q2⟩ := hW; go_simp; try with_reducible rfl)
    simp only [Act.put, List.getElem_toArray]
    refine plan_alt rfl ?_ plan_stop
    go_wp2_with fail
    refine (awake_any _).mono ?_
    rintro e Vc ⟨rfl, b⟩
    have Hc := Lib.hid (And.intro (Hb.out.1.below b) (bel_trans Hb.out.2 b))
    clear b
    go_wp2_with fail
    refine tail_mk Hc.out.1.box ?_
    refine plan_take (v := ?_) rfl (Or.inl ⟨by rfl, ?_⟩) ?_
    rotate_left
    · (intro W hW; obtain ⟨q1, q2⟩ := hW; go_simp; try with_reducible rfl)
    simp only [Act.put, List.getElem_toArray]
    refine plan_alt rfl ?_ plan_stop
    go_wp2_with fail
    refine tail_mk Hc.out.1.box ?_
    refine plan_done ?_
    go_wp2_with fail
    go_ret
    exact ⟨rfl, Hc.out.2⟩
set_option maxRecDepth 100000 in
theorem GraphTells_lifted (os : Os) (started : os.Started) (H : Type) (enc : TypeId × Value → H) :
    ReturnsInHanded {} Try.checked os 8 .any (Rows.graphTellsSpec.pre6 enc Try.prog Try.f8 Rows.graphTellsRow.domain false) (Rows.graphTellsSpec.post enc Try.prog Try.f8 false true false false) := by
  refine returnsInHanded_of_change (C := Try.checked) own started (by kernel_rfl) Try.func8
    (ChangeSpec.witness6 (enc := enc) (C := Try.checked) false ⟨#[], #[.agg #[.int .i64 0, .slice none 0 0], .int .i64 0], []⟩ 8 (by kernel_rfl) (by kernel_rfl) (by kernel_rfl) (by kernel_rfl)) ?_
  intro W base args ds gs before hval0 hW hcnd _
  have hval : ∀ (j : Nat) t v, Try.f8.params[j]? = some t → args[j]? = some v → Value.okWide Try.prog W .any base t v := hval0
  have hW' := hW
  obtain ⟨p, q, hA0, hV, rfl, hfz, hnd⟩ := hW
  have hA : DataW.TrodAll enc Try.prog W 0 (fun _ => true) true Try.f8.params.toList args.toList ds p := hA0
  rw [Try.params8] at hA hval
  obtain ⟨v0, vs0, d0, ds0, p0, q0, hargs, rfl, rfl, h0, r0⟩ := trodAll_cons hA
  obtain ⟨v1, vs1, d1, ds1, p1, q1, rfl, rfl, rfl, h1, r1⟩ := trodAll_cons r0
  obtain ⟨rfl, rfl, rfl⟩ := trodAll_nil r1
  obtain rfl : args = #[v0, v1] := by cases args; simp_all
  obtain ⟨rfl, rfl⟩ := trodVars_none hV
  obtain ⟨c0, rfl, sz0⟩ := okWide_struct Try.underlying25 (hval 0 25 v0 rfl rfl)
  have k0 := h0
  obtain ⟨g0, cv0, eq0, hC0⟩ := graph_of_trod sz0 h0
  obtain rfl : c0 = #[.int .i64 g0.n, cv0] := by simpa [GV] using eq0
  have lt0 : ∀ x ∈ p0, x.block < W.heap.size := by obtain ⟨m, hm⟩ := k0; exact DataW.trod_lt m _ _ _ hm
  obtain ⟨a1, rfl, rfl, rfl, w1⟩ := open_int Try.underlying3 (hval 1 3 v1 rfl rfl) h1
  have b1 := bounds_i64 w1
  clear hA0 hval0
  refine (GraphTells_walk g0 cv0 a1 W hC0 b1).mono fun e W' ⟨he, bel⟩ => ?_
  subst he
  exact ⟨_, rfl, _, _, _, [], _, [], hW', trodAll_mk1 (shut_bool Try.underlying4 _), (trodAll_cons_mk (Below.trod laidOut (by kernel_rfl) (of_decide_eq_true (by kernel_rfl)) k0 bel lt0) (trodAll_cons_mk (shut_int Try.underlying3 w1) trodAll_mk0)), rfl, bel.frame _, fun h => by cases h⟩

/-- The given statement. -/
theorem GraphTells_holds : Rows.GraphTellsSaid :=
  OpenClaim.holds_of_wide 8 Try.f8 rfl rfl rfl rfl rfl rfl rfl ⟨rfl, rfl, rfl, rfl, rfl⟩ rfl rfl rfl rfl rfl (by kernel_rfl) Try.func8 (by kernel_rfl)
    (of_decide_eq_true (by kernel_rfl)) (by unfold Func.isWrapper; first | (rw [if_pos (by decide +kernel)]; kernel_rfl) | (rw [if_neg (by decide +kernel)]; exact ⟨rfl, rfl⟩))
    (fun os started H enc _ => GraphTells_lifted os started H enc)

end Go.Proofs.Ytjapnkhgijhakaa
