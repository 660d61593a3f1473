/- SccTells: for any small graph, Components, Of and Bottomup are as by definition, with the error of Check. -/
import Derived.Test.YtchmjgjagaaomaaLsw
import Derived.Test.YtchmjgjagaaomaaSbu
import Derived.Test.YtchmjgjagaaomaaRcd
namespace Go.Proofs.Ytchmjgjagaaomaa
open Go.ChangeShapes Go.WideShapes Go.ChangeAt Go.RowKit Go.Dfl Go.Gra Go.Tj
set_option maxHeartbeats 3200000 in
set_option maxRecDepth 100000 in
theorem SccTells_walk (g : G) (cv : Value) (W : World) (h : Pairs W cv g.es) : Calls Try.prog 6 #[GV g cv] W (TruePost W) := by
  obtain ⟨ca, cc, rfl, -, -, -⟩ := pairs_rd h
  have hal := (Below.refl W.heap.size W).alloc (Nat.le_refl _) (.cells #[.int .i64 g.n, .slice ca g.es.length cc] 24)
  have H0 := Lib.hid (And.intro (GB.new h 24) hal)
  clear h hal
  obtain ⟨c0, c1⟩ := H0.out.1.box
  unfold GV
  go_enter Try.func6, Try.ntmps6
  go_wp2_with fail
  have hsm := small_any g (.slice ca g.es.length cc) _ H0.out.1.es
  unfold GV at hsm
  refine hsm.mono ?_
  rintro e W1 ⟨rfl, b1⟩
  have H1 := Lib.hid (And.intro (H0.out.1.below b1) (bel_trans H0.out.2 b1))
  clear hsm b1 c0 c1
  obtain ⟨c0, c1⟩ := H1.out.1.box
  cases hs : smS g
  · clear hs c0 c1
    go_wp2_with fail
    refine (awake_any _).mono ?_
    rintro e Z ⟨rfl, b⟩
    have HB := Lib.hid (bel_trans H1.out.2 b)
    go_wp2_with fail
    go_ret
    exact ⟨rfl, HB.out⟩
  clear hs
  go_wp2_with fail
  have hi := gComps_any g (.slice ca g.es.length cc) _ H1.out.1.es
  unfold GV at hi
  refine hi.mono ?_
  rintro e W2 ⟨lsW2, ofW2, v, vsW2, rfl, hcm, hG, b⟩
  obtain ⟨aW2, cW2, rfl, -, -, -⟩ := rows_rd hG
  have H2 := Lib.hid (And.intro (H1.out.1.below b) (And.intro (bel_trans H1.out.2 b) (And.intro hcm hG)))
  clear hi hcm hG b c0 c1
  obtain ⟨c0, c1⟩ := H2.out.1.box
  go_wp2_with fail
  have hi := rComps_any g (.slice ca g.es.length cc) _ H2.out.1.es
  unfold GV at hi
  refine hi.mono ?_
  rintro e W3 ⟨lsW3, ofW3, v, vsW3, rfl, hcm, hG, b⟩
  obtain ⟨aW3, cW3, rfl, -, -, -⟩ := rows_rd hG
  obtain ⟨rfl, -⟩ := hcm.unique H2.out.2.2.1
  have H3 := Lib.hid (And.intro (H2.out.1.below b) (And.intro (bel_trans H2.out.2.1 b) (And.intro (H2.out.2.2.2.below b) hG)))
  have HCM := Lib.hid H2.out.2.2.1
  clear hi hcm hG b c0 c1 H2
  obtain ⟨c0, c1⟩ := H3.out.1.box
  go_wp2_with fail
  have hi := gOf_any g (.slice ca g.es.length cc) _ H3.out.1.es
  unfold GV at hi
  refine hi.mono ?_
  rintro e W4 ⟨lsW4, ofW4, v, rfl, hcm, hG, b⟩
  obtain ⟨aW4, cW4, rfl, -, -, -, -⟩ := hG.out1 sIntG
  have H4 := Lib.hid (And.intro (H3.out.1.below b) (And.intro (bel_trans H3.out.2.1 b) (And.intro (H3.out.2.2.1.below b) (And.intro (H3.out.2.2.2.below b) (And.intro hcm hG)))))
  clear hi hcm hG b c0 c1 H3
  obtain ⟨c0, c1⟩ := H4.out.1.box
  go_wp2_with fail
  have hi := rOf_any g (.slice ca g.es.length cc) _ H4.out.1.es
  unfold GV at hi
  refine hi.mono ?_
  rintro e W5 ⟨lsW5, ofW5, v, rfl, hcm, hG, b⟩
  obtain ⟨aW5, cW5, rfl, -, -, -, -⟩ := hG.out1 sIntG
  obtain ⟨-, rfl⟩ := hcm.unique H4.out.2.2.2.2.1
  have H5 := Lib.hid (And.intro (H4.out.1.below b) (And.intro (bel_trans H4.out.2.1 b) (And.intro (H4.out.2.2.1.below b) (And.intro (H4.out.2.2.2.1.below b) (And.intro (H4.out.2.2.2.2.2.below b) hG)))))
  clear hi hcm hG b c0 c1 H4
  obtain ⟨c0, c1⟩ := H5.out.1.box
  go_wp2_with fail
  have hi := gBottomup_any g (.slice ca g.es.length cc) _ H5.out.1.es
  unfold GV at hi
  refine hi.mono ?_
  rintro e W6 ⟨lsW6, ofW6, v, rfl, hcm, hG, b⟩
  obtain ⟨FL, hFL⟩ : ∃ F, F = lsW6.flatten := ⟨_, rfl⟩
  rw [← hFL] at hG
  have HFL := Lib.hid hFL
  clear hFL
  obtain ⟨aW6, cW6, rfl, -, -, -, -⟩ := hG.out1 sIntG
  have H6 := Lib.hid (And.intro (H5.out.1.below b) (And.intro (bel_trans H5.out.2.1 b) (And.intro (H5.out.2.2.1.below b) (And.intro (H5.out.2.2.2.1.below b) (And.intro (H5.out.2.2.2.2.1.below b) (And.intro (H5.out.2.2.2.2.2.below b) (And.intro hcm hG)))))))
  clear hi hcm hG b c0 c1 H5
  obtain ⟨c0, c1⟩ := H6.out.1.box
  go_wp2_with fail
  have hi := rBottomup_any g (.slice ca g.es.length cc) _ H6.out.1.es
  unfold GV at hi
  refine hi.mono ?_
  rintro e W7 ⟨lsW7, ofW7, v, rfl, hcm, hG, b⟩
  rw [(hcm.unique H6.out.2.2.2.2.2.2.1).1, ← HFL.out] at hG
  obtain ⟨aW7, cW7, rfl, -, -, -, -⟩ := hG.out1 sIntG
  clear HFL
  have H7 := Lib.hid (And.intro (bel_trans H6.out.2.1 b) (And.intro (H6.out.2.2.1.below b) (And.intro (H6.out.2.2.2.1.below b) (And.intro (H6.out.2.2.2.2.1.below b) (And.intro (H6.out.2.2.2.2.2.1.below b) (And.intro (H6.out.2.2.2.2.2.2.2.below b) hG))))))
  clear hi hcm hG b c0 c1 H6
  obtain ⟨gc, hgc⟩ : ∃ z, z = gCode g := ⟨_, rfl⟩
  rw [← hgc]
  have w0 : (gc == gc) = true := by simp
  clear hgc
  go_wp2_with fail
  refine (sameLists_any _ _ _ _ _ _ W7 H7.out.2.1 H7.out.2.2.1).mono ?_
  rintro e W8 ⟨rfl, q8⟩
  rw [show eqLB lsW3 lsW3 = true from decide_eq_true rfl]
  have H8 := Lib.hid (And.intro (bel_trans H7.out.1 (qt_below q8)) (And.intro (H7.out.2.2.2.1.qt q8) (And.intro (H7.out.2.2.2.2.1.qt q8) (And.intro (H7.out.2.2.2.2.2.1.qt q8) (H7.out.2.2.2.2.2.2.qt q8)))))
  clear q8 H7
  go_wp2_with fail
  refine (rEqual_any _ _ _ _ W8 H8.out.2.1 H8.out.2.2.1).mono ?_
  rintro e W9 ⟨rfl, q9⟩
  rw [show eqB ofW5 ofW5 = true from decide_eq_true rfl]
  have H9 := Lib.hid (And.intro (bel_trans H8.out.1 (qt_below q9)) (And.intro (H8.out.2.2.2.1.qt q9) (H8.out.2.2.2.2.qt q9)))
  clear q9 H8
  go_wp2_with fail
  refine (rEqual_any _ _ _ _ W9 H9.out.2.1 H9.out.2.2).mono ?_
  rintro e W10 ⟨rfl, q10⟩
  rw [show eqB FL FL = true from decide_eq_true rfl]
  have H10 := Lib.hid (bel_trans H9.out.1 (qt_below q10))
  clear q10 H9
  go_wp2_with fail
  refine (awake_any _).mono ?_
  rintro e Z ⟨rfl, b⟩
  have HB := Lib.hid (bel_trans H10.out b)
  go_wp2_with fail
  go_ret
  exact ⟨rfl, HB.out⟩
set_option maxRecDepth 100000 in
theorem SccTells_lifted (os : Os) (started : os.Started) (H : Type) (enc : TypeId × Value → H) :
    ReturnsInHanded {} Try.checked os 6 .any (Rows.sccTellsSpec.pre6 enc Try.prog Try.f6 Rows.sccTellsRow.domain false) (Rows.sccTellsSpec.post enc Try.prog Try.f6 false true false false) := by
  refine returnsInHanded_of_change (C := Try.checked) own started (by kernel_rfl) Try.func6
    (ChangeSpec.witness6 (enc := enc) (C := Try.checked) false ⟨#[], #[.agg #[.int .i64 0, .slice none 0 0]], []⟩ 8 (by kernel_rfl) (by kernel_rfl) (by kernel_rfl) (by kernel_rfl)) ?_
  intro W base args ds gs before hval0 hW hcnd _
  have hval : ∀ (j : Nat) t v, Try.f6.params[j]? = some t → args[j]? = some v → Value.okWide Try.prog W .any base t v := hval0
  have hW' := hW
  obtain ⟨p, q, hA0, hV, rfl, hfz, hnd⟩ := hW
  have hA : DataW.TrodAll enc Try.prog W 0 (fun _ => true) true Try.f6.params.toList args.toList ds p := hA0
  rw [Try.params6] at hA hval
  obtain ⟨v0, vs0, d0, ds0, p0, q0, hargs, rfl, rfl, h0, r0⟩ := trodAll_cons hA
  obtain ⟨rfl, rfl, rfl⟩ := trodAll_nil r0
  obtain rfl : args = #[v0] := by cases args; simp_all
  obtain ⟨rfl, rfl⟩ := trodVars_none hV
  obtain ⟨c0, rfl, sz0⟩ := okWide_struct Try.underlying24 (hval 0 24 v0 rfl rfl)
  have k0 := h0
  obtain ⟨g0, cv0, eq0, hC0⟩ := graph_of_trod sz0 h0
  obtain rfl : c0 = #[.int .i64 g0.n, cv0] := by simpa [GV] using eq0
  have lt0 : ∀ x ∈ p0, x.block < W.heap.size := by obtain ⟨m, hm⟩ := k0; exact DataW.trod_lt m _ _ _ hm
  clear hA0 hval0
  refine (SccTells_walk g0 cv0 W hC0).mono fun e W' ⟨he, bel⟩ => ?_
  subst he
  exact ⟨_, rfl, _, _, _, [], _, [], hW', trodAll_mk1 (shut_bool Try.underlying4 _), (trodAll_cons_mk (Below.trod laidOut (by kernel_rfl) (of_decide_eq_true (by kernel_rfl)) k0 bel lt0) trodAll_mk0), rfl, bel.frame _, fun h => by cases h⟩

/-- The given statement. -/
theorem SccTells_holds : Rows.SccTellsSaid :=
  OpenClaim.holds_of_wide 6 Try.f6 rfl rfl rfl rfl rfl rfl rfl ⟨rfl, rfl, rfl, rfl, rfl⟩ rfl rfl rfl rfl rfl (by kernel_rfl) Try.func6 (by kernel_rfl)
    (of_decide_eq_true (by kernel_rfl)) (by unfold Func.isWrapper; first | (rw [if_pos (by decide +kernel)]; kernel_rfl) | (rw [if_neg (by decide +kernel)]; exact ⟨rfl, rfl⟩))
    (fun os started H enc _ => SccTells_lifted os started H enc)

end Go.Proofs.Ytchmjgjagaaomaa
