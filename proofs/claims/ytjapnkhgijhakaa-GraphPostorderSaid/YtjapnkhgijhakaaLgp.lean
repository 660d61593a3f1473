/- GraphPostorder: for any graph and root, Postorder is the order of the depth-first search of the definition. -/
import Derived.Test.YtjapnkhgijhakaaGlw
import Derived.Test.YtjapnkhgijhakaaGpr
namespace Go.Proofs.Ytjapnkhgijhakaa
open Go.ChangeShapes Go.WideShapes Go.ChangeAt Go.RowKit Go.Dfl Go.Gra

set_option maxHeartbeats 3200000 in
set_option maxRecDepth 100000 in
theorem GraphPostorder_walk (g : G) (cv : Value) (r : Int) (W : World) (h : Pairs W cv g.es) (_hr : -9223372036854775808 ≤ r ∧ r ≤ 9223372036854775807) : Calls Try.prog 6 #[GV g cv, .int .i64 r] W (TruePost W) := by
  obtain ⟨ca, cc, rfl, -, -, -⟩ := pairs_rd h
  have hal := (Below.refl W.heap.size W).alloc (Nat.le_refl _) (.cells #[.int .i64 g.n, .slice ca g.es.length cc] 25)
  have H0 := Lib.hid (And.intro (GB.new h 25) hal)
  clear h hal _hr
  obtain ⟨c0, c1⟩ := H0.out.1.box
  unfold GV
  go_enter Try.func6, Try.ntmps6
  by_cases hq : 400 < g.es.length
  · have hq' : (400 : Int) < (g.es.length : Int) := by omega
    go_wp2_with fail
    refine (awake_any _).mono ?_
    rintro e Z ⟨rfl, b⟩
    have HB := Lib.hid (bel_trans H0.out.2 b)
    go_wp2_with fail
    go_ret
    exact ⟨rfl, HB.out⟩
  · have hq' : ¬ (400 : Int) < (g.es.length : Int) := by omega
    go_upto_region 3 with fail
    have hdr := bel_trans H0.out.2 ((Below.refl _ _).drew)
    have hgd := H0.out.1.below ((Below.refl _ _).drew)
    refine wp_region_plan (.take 0 (.take 1 (.take 3 (.take 4 (.alt 2 (.alt 5 (.alt 6 (.take 7 (.alt 8 (.take 9 (.alt 10 .done .stop)) .stop)) .stop) .stop) .stop)))))
      (fun w' => w'.cell? ⟨W.heap.size, 0, none⟩ = some (.int .i64 g.n) ∧ w'.cell? ⟨W.heap.size, 1, none⟩ = some (.slice ca g.es.length cc)) (by kernel_rfl) (by kernel_rfl) (by kernel_rfl) (by kernel_rfl) hgd.box ?_
    refine plan_take (v := ?_) rfl (Or.inl ⟨by rfl, ?_⟩) ?_
    rotate_left
    · (intro W hW; obtain ⟨q1, q2⟩ := hW; go_simp; try with_reducible rfl)
    simp only [Act.put, List.setIfInBounds_toArray, List.getElem_toArray, List.getElem_cons_zero, List.set_cons_succ, List.set_cons_zero]
    refine plan_take (v := ?_) rfl (Or.inl ⟨by rfl, ?_⟩) ?_
    rotate_left
    · (intro W hW; obtain ⟨q1, q2⟩ := hW; go_simp; try with_reducible rfl)
    simp only [Act.put, List.setIfInBounds_toArray, List.getElem_toArray, List.getElem_cons_zero, List.getElem_cons_succ, List.set_cons_succ, List.set_cons_zero]
    refine plan_take (v := ?_) rfl (Or.inl ⟨by rfl, ?_⟩) ?_
    rotate_left
    · (intro W hW; obtain ⟨q1, q2⟩ := hW; go_simp; try with_reducible rfl)
    simp only [Act.put, List.setIfInBounds_toArray, List.getElem_toArray, List.getElem_cons_zero, List.getElem_cons_succ, List.set_cons_succ, List.set_cons_zero]
    refine plan_take (v := ?_) rfl (Or.inl ⟨by rfl, ?_⟩) ?_
    rotate_left
    · (intro W hW; obtain ⟨q1, q2⟩ := hW; go_simp; try with_reducible rfl)
    simp only [Act.put, List.setIfInBounds_toArray, List.getElem_toArray, List.getElem_cons_zero, List.getElem_cons_succ, List.set_cons_succ, List.set_cons_zero]
    have HD := Lib.hid (And.intro hgd hdr)
    clear hgd hdr c0 c1
    generalize (W.alloc (.cells #[.int .i64 g.n, .slice ca g.es.length cc] 25)).drew = V at *
    refine plan_alt rfl ?_ plan_stop
    go_wp2_with fail
    have hc := gPostorder_any g (.slice ca g.es.length cc) r V HD.out.1.es
    unfold GV at hc
    refine hc.mono ?_
    rintro e V3 ⟨a3, k3, rfl, s, b⟩
    have H3 := Lib.hid (And.intro (HD.out.1.below b) (bel_trans HD.out.2 b))
    have S3 := Lib.hid (And.intro s b)
    clear hc b s
    go_wp2_with fail
    refine tail_mk H3.out.1.box ?_
    refine plan_alt rfl ?_ plan_stop
    go_wp2_with fail
    have hc := rPostorder_any g (.slice ca g.es.length cc) r V3 H3.out.1.es
    unfold GV at hc
    refine hc.mono ?_
    rintro e V4 ⟨a4, k4, rfl, s, b⟩
    have H4 := Lib.hid (And.intro (H3.out.1.below b) (bel_trans H3.out.2 b))
    have S4 := Lib.hid (And.intro s b)
    clear hc b s
    go_wp2_with fail
    refine tail_mk H4.out.1.box ?_
    refine plan_alt rfl ?_ plan_stop
    go_wp2_with fail
    refine (rEqual_any _ _ _ _ V4 (S3.out.1.below S4.out.2) S4.out.1).mono ?_
    rintro e V5 ⟨rfl, b⟩
    rw [eqB_refl]
    have H5 := Lib.hid (And.intro (H4.out.1.below (qt_below b)) (bel_trans H4.out.2 (qt_below b)))
    clear b
    go_wp2_with fail
    refine tail_mk H5.out.1.box ?_
    refine plan_take (v := ?_) rfl (Or.inl ⟨by rfl, ?_⟩) ?_
    rotate_left
    · (intro W hW; obtain ⟨q1, q2⟩ := hW; go_simp; try with_reducible rfl)
    simp only [Act.put, List.setIfInBounds_toArray, List.getElem_toArray, List.getElem_cons_zero, List.getElem_cons_succ, List.set_cons_succ, List.set_cons_zero]
    refine plan_alt rfl ?_ plan_stop
    go_wp2_with fail
    refine (awake_any _).mono ?_
    rintro e Vc ⟨rfl, b⟩
    have Hc := Lib.hid (And.intro (H5.out.1.below b) (bel_trans H5.out.2 b))
    clear b
    go_wp2_with fail
    refine tail_mk Hc.out.1.box ?_
    refine plan_take (v := ?_) rfl (Or.inl ⟨by rfl, ?_⟩) ?_
    rotate_left
    · (intro W hW; obtain ⟨q1, q2⟩ := hW; go_simp; try with_reducible rfl)
    simp only [Act.put, List.setIfInBounds_toArray, List.getElem_toArray, List.getElem_cons_zero, List.getElem_cons_succ, List.set_cons_succ, List.set_cons_zero]
    refine plan_alt rfl ?_ plan_stop
    go_wp2_with fail
    refine tail_mk Hc.out.1.box ?_
    refine plan_done ?_
    go_wp2_with fail
    go_ret
    exact ⟨rfl, Hc.out.2⟩
set_option maxRecDepth 100000 in
theorem GraphPostorder_lifted (os : Os) (started : os.Started) (H : Type) (enc : TypeId × Value → H) :
    ReturnsInHanded {} Try.checked os 6 .any (Rows.graphPostorderSpec.pre6 enc Try.prog Try.f6 Rows.graphPostorderRow.domain false) (Rows.graphPostorderSpec.post enc Try.prog Try.f6 false true false false) := by
  refine returnsInHanded_of_change (C := Try.checked) own started (by kernel_rfl) Try.func6
    (ChangeSpec.witness6 (enc := enc) (C := Try.checked) false ⟨#[], #[.agg #[.int .i64 0, .slice none 0 0], .int .i64 0], []⟩ 8 (by kernel_rfl) (by kernel_rfl) (by kernel_rfl) (by kernel_rfl)) ?_
  intro W base args ds gs before hval0 hW hcnd _
  have hval : ∀ (j : Nat) t v, Try.f6.params[j]? = some t → args[j]? = some v → Value.okWide Try.prog W .any base t v := hval0
  have hW' := hW
  obtain ⟨p, q, hA0, hV, rfl, hfz, hnd⟩ := hW
  have hA : DataW.TrodAll enc Try.prog W 0 (fun _ => true) true Try.f6.params.toList args.toList ds p := hA0
  rw [Try.params6] at hA hval
  obtain ⟨v0, vs0, d0, ds0, p0, q0, hargs, rfl, rfl, h0, r0⟩ := trodAll_cons hA
  obtain ⟨v1, vs1, d1, ds1, p1, q1, rfl, rfl, rfl, h1, r1⟩ := trodAll_cons r0
  obtain ⟨rfl, rfl, rfl⟩ := trodAll_nil r1
  obtain rfl : args = #[v0, v1] := by cases args; simp_all
  obtain ⟨rfl, rfl⟩ := trodVars_none hV
  obtain ⟨c0, rfl, sz0⟩ := okWide_struct Try.underlying25 (hval 0 25 v0 rfl rfl)
  have k0 := h0
  obtain ⟨g0, cv0, eq0, hC0⟩ := graph_of_trod sz0 h0
  obtain rfl : c0 = #[.int .i64 g0.n, cv0] := by simpa [GV] using eq0
  have lt0 : ∀ x ∈ p0, x.block < W.heap.size := by obtain ⟨m, hm⟩ := k0; exact DataW.trod_lt m _ _ _ hm
  obtain ⟨a1, rfl, rfl, rfl, w1⟩ := open_int Try.underlying3 (hval 1 3 v1 rfl rfl) h1
  have b1 := bounds_i64 w1
  clear hA0 hval0
  refine (GraphPostorder_walk g0 cv0 a1 W hC0 b1).mono fun e W' ⟨he, bel⟩ => ?_
  subst he
  exact ⟨_, rfl, _, _, _, [], _, [], hW', trodAll_mk1 (shut_bool Try.underlying4 _), (trodAll_cons_mk (Below.trod laidOut (by kernel_rfl) (of_decide_eq_true (by kernel_rfl)) k0 bel lt0) (trodAll_cons_mk (shut_int Try.underlying3 w1) trodAll_mk0)), rfl, bel.frame _, fun h => by cases h⟩

/-- The given statement. -/
theorem GraphPostorder_holds : Rows.GraphPostorderSaid :=
  OpenClaim.holds_of_wide 6 Try.f6 rfl rfl rfl rfl rfl rfl rfl ⟨rfl, rfl, rfl, rfl, rfl⟩ rfl rfl rfl rfl rfl (by kernel_rfl) Try.func6 (by kernel_rfl)
    (of_decide_eq_true (by kernel_rfl)) (by unfold Func.isWrapper; first | (rw [if_pos (by decide +kernel)]; kernel_rfl) | (rw [if_neg (by decide +kernel)]; exact ⟨rfl, rfl⟩))
    (fun os started H enc _ => GraphPostorder_lifted os started H enc)

end Go.Proofs.Ytjapnkhgijhakaa
