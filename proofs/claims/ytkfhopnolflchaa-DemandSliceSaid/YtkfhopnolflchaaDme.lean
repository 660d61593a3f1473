/- DemandQuery: for any system with at most 40 variables, 12 sites and 5 fields, any variable and any budget, Query and Needs are as the reference says. Conditions: none. -/
import Derived.Test.YtkfhopnolflchaaDmc
import Derived.Test.YtkfhopnolflchaaRvn
namespace Go.Proofs.Ytkfhopnolflchaa
open Go.ChangeShapes Go.WideShapes Go.ChangeAt Go.RowKit Go.Dfl Go.And

set_option maxHeartbeats 6400000 in
set_option maxRecDepth 100000 in
theorem DemandQuery_walk (s : Sy) (cv : Value) (v b : Int) (W : World) (hc : ConsIn W cv s.cons) (_hv : -9223372036854775808 ≤ v ∧ v ≤ 9223372036854775807) (_hb : -9223372036854775808 ≤ b ∧ b ≤ 9223372036854775807) :
    Calls Try.prog 3 #[SysV s cv, .int .i64 v, .int .i64 b] W (TruePost W) := by
  obtain ⟨ca, cc, rfl, -⟩ := hc.out
  have HC := Lib.hid hc
  clear hc
  unfold SysV
  go_enter Try.func3, Try.ntmps3
  go_wp2_with fail
  refine calls_gen (fun Z => SysB W.heap.size s (.slice ca s.cons.length cc) Z ∧ Below W.heap.size W Z) ⟨SysB.new HC.out 24, (Below.refl _ _).alloc (Nat.le_refl _) _⟩ ?_
  rintro Z0 h0
  obtain ⟨bs, hbs⟩ : ∃ bs, bs = W.heap.size := ⟨_, rfl⟩
  have H0 : Hid (SysB bs s (.slice ca s.cons.length cc) Z0 ∧ Below W.heap.size W Z0) := by rw [hbs]; exact h0
  rw [← hbs]
  clear h0 hbs HC
  refine (Small_any s (.slice ca s.cons.length cc) _ H0.out.1.cons).mono ?_
  rintro e W1 ⟨b1, rfl, hb1, r1⟩
  have hb1 := H0.out.2.trans (r1.mono H0.out.2.size)
  have H1 := Lib.hid (And.intro (H0.out.1.below r1) hb1)
  obtain ⟨⟨d0, d1, d2, d3⟩, -⟩ := H1.out.1
  clear hb1 H0 r1
  cases b1
  · go_wp2_with fail
    refine (awake_any _).mono ?_
    rintro e W2 ⟨rfl, r2⟩
    clear d0 d1 d2 d3
    have H2 := Lib.hid (H1.out.2.trans (r2.mono H1.out.2.size))
    clear r2 hb1
    go_wp2_with fail
    go_ret
    exact ⟨rfl, H2.out⟩
  · have HSM := Lib.hid (hb1.1 rfl).sm
    clear hb1
    go_wp2_with fail
    clear d0 d1 d2 d3
    refine (Query_any s (.slice ca s.cons.length cc) v b _ H1.out.1.cons HSM.out).mono ?_
    rintro e W2 ⟨a2, c2, L2, code, rfl, hI2, hQ2, r2⟩
    have H2' := Lib.hid (And.intro hI2 hQ2)
    have R2 := Lib.hid r2
    have hb2 := H1.out.2.trans (r2.mono H1.out.2.size)
    have H2 := Lib.hid (And.intro (H1.out.1.below r2) hb2)
    obtain ⟨⟨d0, d1, d2, d3⟩, -⟩ := H2.out.1
    clear hb2 H1 r2
    clear hI2 hQ2 R2
    go_wp2_with fail
    clear d0 d1 d2 d3
    refine (rQuery_any s (.slice ca s.cons.length cc) v b _ H2.out.1.cons HSM.out).mono ?_
    rintro e W3 ⟨a3, c3, L3, code3, rfl, hI3, hQ3, r3⟩
    obtain ⟨rfl, rfl⟩ := QL.unique H2'.out.2 hQ3
    have H3' := Lib.hid (And.intro (H2'.out.1.below r3) hI3)
    have hb3 := H2.out.2.trans (r3.mono H2.out.2.size)
    have H3 := Lib.hid (And.intro (H2.out.1.below r3) hb3)
    obtain ⟨⟨d0, d1, d2, d3⟩, -⟩ := H3.out.1
    clear hb3 H2 r3
    clear hI3 hQ3 H2'
    go_wp2_with fail
    clear d0 d1 d2 d3
    refine (Needs_any s (.slice ca s.cons.length cc) v _ H3.out.1.cons HSM.out).mono ?_
    rintro e W4 ⟨a4, c4, L4, rfl, hI4, hN4, r4⟩
    have H4' := Lib.hid (And.intro (H3'.out.1.below r4) (And.intro (H3'.out.2.below r4) (And.intro hI4 hN4)))
    have hb4 := H3.out.2.trans (r4.mono H3.out.2.size)
    have H4 := Lib.hid (And.intro (H3.out.1.below r4) hb4)
    obtain ⟨⟨d0, d1, d2, d3⟩, -⟩ := H4.out.1
    clear hb4 H3 r4
    clear hI4 hN4 H3'
    go_wp2_with fail
    clear d0 d1 d2 d3
    refine (rNeeds_any s (.slice ca s.cons.length cc) v _ H4.out.1.cons HSM.out).mono ?_
    rintro e W5 ⟨a5, c5, L5, rfl, hI5, hN5, r5⟩
    obtain rfl := NeedL.unique H4'.out.2.2.2 hN5
    have H5' := Lib.hid (And.intro (H4'.out.1.below r5) (And.intro (H4'.out.2.1.below r5) (And.intro (H4'.out.2.2.1.below r5) hI5)))
    have hb5 := H4.out.2.trans (r5.mono H4.out.2.size)
    have H5 := Lib.hid (And.intro (H4.out.1.below r5) hb5)
    obtain ⟨⟨d0, d1, d2, d3⟩, -⟩ := H5.out.1
    clear hb5 H4 r5
    clear hI5 hN5 H4'
    clear d0 d1 d2 d3
    generalize dCode s v = dc at *
    go_wp2_with fail
    refine (awake_any _).mono ?_
    rintro e W6 ⟨rfl, r6⟩
    have H6' := Lib.hid (And.intro (H5'.out.1.below r6) (And.intro (H5'.out.2.1.below r6) (And.intro (H5'.out.2.2.1.below r6) (H5'.out.2.2.2.below r6))))
    have H6 := Lib.hid (H5.out.2.trans (r6.mono H5.out.2.size))
    clear r6 H5 H5'
    go_wp2_with fail
    refine (sameInts_eq _ _ L2 _ H6'.out.1 H6'.out.2.1).mono ?_
    rintro e W7 ⟨rfl, n7, rfl⟩
    go_wp2_with fail
    refine (sameInts_eq _ _ L4 _ (H6'.out.2.2.1.qt (Qt.drewN _ _)) (H6'.out.2.2.2.qt (Qt.drewN _ _))).mono ?_
    rintro e W8 ⟨rfl, n8, rfl⟩
    go_wp2_with fail
    go_ret
    exact ⟨rfl, by first | exact below_drewN H6.out _ | exact below_drewN (below_drewN H6.out _) _⟩

set_option maxRecDepth 100000 in
theorem DemandQuery_lifted (os : Os) (started : os.Started) (H : Type) (enc : TypeId × Value → H) :
    ReturnsInHanded {} Try.checked os 3 .any (Rows.demandQuerySpec.pre6 enc Try.prog Try.f3 Rows.demandQueryRow.domain false) (Rows.demandQuerySpec.post enc Try.prog Try.f3 false true false false) := by
  refine returnsInHanded_of_change (C := Try.checked) own started (by kernel_rfl) Try.func3
    (ChangeSpec.witness6 (enc := enc) (C := Try.checked) false ⟨#[], #[.agg #[.int .i64 0, .int .i64 0, .int .i64 0, .slice none 0 0], .int .i64 0, .int .i64 0], []⟩ 8 (by kernel_rfl) (by kernel_rfl) (by kernel_rfl) (by kernel_rfl)) ?_
  intro W base args ds gs before hval0 hW hcnd _
  have hval : ∀ (j : Nat) t v, Try.f3.params[j]? = some t → args[j]? = some v → Value.okWide Try.prog W .any base t v := hval0
  have hW' := hW
  obtain ⟨p, q, hA0, hV, rfl, hfz, hnd⟩ := hW
  have hA : DataW.TrodAll enc Try.prog W 0 (fun _ => true) true Try.f3.params.toList args.toList ds p := hA0
  rw [Try.params3] at hA hval
  obtain ⟨v0, vs0, d0, ds0, p0, q0, hargs, rfl, rfl, h0, r0⟩ := trodAll_cons hA
  obtain ⟨v1, vs1, d1, ds1, p1, q1, rfl, rfl, rfl, h1, r1⟩ := trodAll_cons r0
  obtain ⟨v2, vs2, d2, ds2, p2, q2, rfl, rfl, rfl, h2, r2⟩ := trodAll_cons r1
  obtain ⟨rfl, rfl, rfl⟩ := trodAll_nil r2
  obtain rfl : args = #[v0, v1, v2] := by cases args; simp_all
  obtain ⟨rfl, rfl⟩ := trodVars_none hV
  obtain ⟨c0, rfl, sz0⟩ := okWide_struct Try.underlying24 (hval 0 24 v0 rfl rfl)
  have k0 := h0
  obtain ⟨sy0, cv0, eq0, hC0⟩ := sys_of_trod sz0 h0
  obtain rfl : c0 = #[.int .i64 sy0.vars, .int .i64 sy0.sites, .int .i64 sy0.fields, cv0] := by simpa [SysV] using eq0
  have lt0 : ∀ x ∈ p0, x.block < W.heap.size := by obtain ⟨m, hm⟩ := k0; exact DataW.trod_lt m _ _ _ hm
  obtain ⟨a1, rfl, rfl, rfl, w1⟩ := open_int Try.underlying3 (hval 1 3 v1 rfl rfl) h1
  have b1 := bounds_i64 w1
  obtain ⟨a2, rfl, rfl, rfl, w2⟩ := open_int Try.underlying3 (hval 2 3 v2 rfl rfl) h2
  have b2 := bounds_i64 w2
  clear hA0 hval0
  refine (DemandQuery_walk sy0 cv0 a1 a2 W hC0 b1 b2).mono fun e W' ⟨he, bel⟩ => ?_
  subst he
  exact ⟨_, rfl, _, _, _, [], _, [], hW', trodAll_mk1 (shut_bool Try.underlying4 _), (trodAll_cons_mk (Below.trod laidOut (by kernel_rfl) (of_decide_eq_true (by kernel_rfl)) k0 bel lt0) (trodAll_cons_mk (shut_int Try.underlying3 w1) (trodAll_cons_mk (shut_int Try.underlying3 w2) trodAll_mk0))), rfl, bel.frame _, fun h => by cases h⟩

/-- The given statement. -/
theorem DemandQuery_holds : Rows.DemandQuerySaid :=
  OpenClaim.holds_of_wide 3 Try.f3 rfl rfl rfl rfl rfl rfl rfl ⟨rfl, rfl, rfl, rfl, rfl⟩ rfl rfl rfl rfl rfl (by kernel_rfl) Try.func3 (by kernel_rfl)
    (of_decide_eq_true (by kernel_rfl)) (by unfold Func.isWrapper; first | (rw [if_pos (by decide +kernel)]; kernel_rfl) | (rw [if_neg (by decide +kernel)]; exact ⟨rfl, rfl⟩))
    (fun os started H enc _ => DemandQuery_lifted os started H enc)

end Go.Proofs.Ytkfhopnolflchaa
