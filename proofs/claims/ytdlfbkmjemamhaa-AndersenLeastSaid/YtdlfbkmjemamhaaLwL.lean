/- AndersenLeast: for any system with at most 40 variables, 12 sites and 5 fields and any assignment, the least solution is closed, derived, and within every closed assignment. Conditions: none. -/
import Derived.Test.YtdlfbkmjemamhaaLwA
namespace Go.Proofs.Ytdlfbkmjemamhaa
open Go.ChangeShapes Go.WideShapes Go.ChangeAt Go.RowKit Go.Dfl Go.And

set_option maxHeartbeats 6400000 in
set_option maxRecDepth 100000 in
theorem AndersenLeast_walk (s : Sy) (cv : Value) (u v : Value) (a b : List (List Int)) (W : World) (hc : ConsIn W cv s.cons) (hp : PtsIn W u v a b) (ra : InR a) (rb : InR b) :
    Calls Try.prog 5 #[SysV s cv, .agg #[u, v]] W (TruePost W) := by
  obtain ⟨ua, uc, va, vc, rfl, rfl⟩ := hp.shape
  obtain ⟨ca, cc, rfl, -⟩ := hc.out
  have HC := Lib.hid (And.intro hc hp)
  have HR := Lib.hid (And.intro ra rb)
  clear hc hp ra rb
  unfold SysV
  go_enter Try.func5, Try.ntmps5
  go_wp2_with fail
  refine calls_gen (fun Z => SysB W.heap.size s (.slice ca s.cons.length cc) Z ∧ PtsB (W.heap.size + 1) (.slice ua a.length uc) (.slice va b.length vc) a b Z ∧ Below W.heap.size W Z) ⟨(SysB.new HC.out.1 24).below ((Below.refl _ _).alloc (Nat.le_refl _) _), ?_, below2' _ _ _⟩ ?_
  · have h := PtsB.new (HC.out.2.below ((Below.refl _ _).alloc (Nat.le_refl _) (.cells #[.int .i64 s.vars, .int .i64 s.sites, .int .i64 s.fields, .slice ca s.cons.length cc] 24))) 29
    rw [World.size_alloc] at h
    exact h
  rintro Z0 h0
  obtain ⟨bs, hbs⟩ : ∃ bs, bs = W.heap.size := ⟨_, rfl⟩
  obtain ⟨bp, hbp⟩ : ∃ bp, bp = W.heap.size + 1 := ⟨_, rfl⟩
  have H0 : Hid (SysB bs s (.slice ca s.cons.length cc) Z0 ∧ PtsB bp (.slice ua a.length uc) (.slice va b.length vc) a b Z0 ∧ Below W.heap.size W Z0) := by rw [hbs, hbp]; exact h0
  rw [← hbp, ← hbs]
  clear h0 hbp hbs HC
  refine (Small_any s (.slice ca s.cons.length cc) _ H0.out.1.cons).mono ?_
  rintro e W1 ⟨b1, rfl, hb1, r1⟩
  have hb1 := H0.out.2.2.trans (r1.mono H0.out.2.2.size)
  have H1 := Lib.hid (And.intro (H0.out.1.below r1) (And.intro (H0.out.2.1.below r1) hb1))
  obtain ⟨⟨d0, d1, d2, d3⟩, -⟩ := H1.out.1
  obtain ⟨p0, p1, -⟩ := H1.out.2.1
  clear hb1 H0 r1
  cases b1
  · go_wp2_with fail
    refine (awake_any _).mono ?_
    rintro e W2 ⟨rfl, r2⟩
    clear d0 d1 d2 d3 p0 p1
    have H2 := Lib.hid (H1.out.2.2.trans (r2.mono H1.out.2.2.size))
    clear r2 hb1
    go_wp2_with fail
    go_ret
    exact ⟨rfl, H2.out⟩
  · have hsm := (hb1.1 rfl).sm
    have HSM := Lib.hid hsm
    clear hsm hb1
    go_wp2_with fail
    refine (Few_any _ _ a b _ H1.out.2.1.pts).mono ?_
    rintro e W2 ⟨b2, rfl, hb2, r2⟩
    clear d0 d1 d2 d3 p0 p1
    have hb2 := H1.out.2.2.trans (r2.mono H1.out.2.2.size)
    have H2 := Lib.hid (And.intro (H1.out.1.below r2) (And.intro (H1.out.2.1.below r2) hb2))
    obtain ⟨⟨d0, d1, d2, d3⟩, -⟩ := H2.out.1
    obtain ⟨p0, p1, -⟩ := H2.out.2.1
    clear hb2 H1 r2
    cases b2
    · go_wp2_with fail
      refine (awake_any _).mono ?_
      rintro e W3 ⟨rfl, r3⟩
      clear d0 d1 d2 d3 p0 p1
      have H3 := Lib.hid (H2.out.2.2.trans (r3.mono H2.out.2.2.size))
      clear r3 hb2
      go_wp2_with fail
      go_ret
      exact ⟨rfl, H3.out⟩
    · have hfew := hb2.1 rfl
      have HF := Lib.hid hfew
      clear hfew hb2
      go_wp2_with fail
      refine (awake_any _).mono ?_
      rintro e W3 ⟨rfl, r3⟩
      clear d0 d1 d2 d3 p0 p1
      have hb3 := H2.out.2.2.trans (r3.mono H2.out.2.2.size)
      have H3 := Lib.hid (And.intro (H2.out.1.below r3) (And.intro (H2.out.2.1.below r3) hb3))
      obtain ⟨⟨d0, d1, d2, d3⟩, -⟩ := H3.out.1
      obtain ⟨p0, p1, -⟩ := H3.out.2.1
      clear hb3 H2 r3
      go_wp2_with fail
      clear d0 d1 d2 d3 p0 p1
      refine (Solve_any s (.slice ca s.cons.length cc) _ H3.out.1.cons HSM.out).mono ?_
      rintro e W4 (⟨h0, rfl, r4⟩ | ⟨h0, xa, xc, ya, yc, lu, lv, rfl, hpts, hsol, r4⟩)
      · have hz : (chkCode s != 0) = true := by simpa using h0
        have H4 := Lib.hid (H3.out.2.2.trans (r4.mono H3.out.2.2.size))
        clear h0 r4
        go_wp2_with fail
        go_ret
        exact ⟨rfl, H4.out.alloc H4.out.size _⟩
      · have hal : Below W4.heap.size W4 (W4.alloc (.cells #[.slice xa s.S.vars xc, .slice ya (s.S.sites * s.S.fields) yc] 29)) := (Below.refl _ _).alloc (Nat.le_refl _) _
        have hQ := PtsB.new hpts 29
        have hInR := hsol.inR (chkCode_ok.1 h0).ok (by have := HSM.out.sites; show s.sites.toNat ≤ 12; omega)
        have hcl := sol_closed h0 hsol
        have HSOL := Lib.hid (And.intro h0 (And.intro hsol (And.intro hInR hcl)))
        have hbW : Below W.heap.size W W4 := H3.out.2.2.trans (r4.mono H3.out.2.2.size)
        have H4 := Lib.hid (And.intro ((H3.out.1.below r4).below hal) (And.intro ((H3.out.2.1.below r4).below hal) (hbW.alloc hbW.size (.cells #[.slice xa s.S.vars xc, .slice ya (s.S.sites * s.S.fields) yc] 29))))
        have HQ4 := Lib.hid hQ
        obtain ⟨⟨d0, d1, d2, d3⟩, -⟩ := H4.out.1
        obtain ⟨p0, p1, -⟩ := H4.out.2.1
        obtain ⟨q0, q1, -⟩ := HQ4.out
        clear hal hQ hInR hcl hbW r4 hsol h0 hpts H3
        go_wp2_with fail
        clear q0 q1
        clear d0 d1 d2 d3 p0 p1
        have HL := Lib.hid (And.intro (show lu.length ≤ 100 by have h1 := HSOL.out.2.1.1; have h2 := HSM.out.vars; have h3 : s.S.vars = s.vars.toNat := rfl; omega) (show lv.length ≤ 100 by have h1 := HSOL.out.2.1.2.1; have h2 := HSM.out.bnd.N; have h3 : s.S.N = s.S.vars + s.S.sites * s.S.fields := rfl; omega))
        refine (Closed_any s (.slice ca s.cons.length cc) _ _ lu lv _ H4.out.1.cons HSM.out HQ4.out.pts HL.out.1 HL.out.2).mono ?_
        rintro e W5 ⟨b5, rfl, hb5, r5⟩
        obtain rfl : b5 = true := hb5.2 HSOL.out.2.2.2
        clear hb5
        have HQ5 := Lib.hid (HQ4.out.below r5)
        clear HQ4
        have hb5 := H4.out.2.2.trans (r5.mono H4.out.2.2.size)
        have H5 := Lib.hid (And.intro (H4.out.1.below r5) (And.intro (H4.out.2.1.below r5) hb5))
        obtain ⟨⟨d0, d1, d2, d3⟩, -⟩ := H5.out.1
        obtain ⟨p0, p1, -⟩ := H5.out.2.1
        clear hb5 H4 r5
        obtain ⟨q0, q1, -⟩ := HQ5.out
        go_wp2_with fail
        clear q0 q1
        clear d0 d1 d2 d3 p0 p1
        refine (Derive_any s (.slice ca s.cons.length cc) _ _ lu lv _ H5.out.1.cons HSM.out HQ5.out.pts HL.out.1 HL.out.2 HSOL.out.2.2.1.1 HSOL.out.2.2.1.2.1).mono ?_
        rintro e W6 ⟨b6, rfl, hb6, r6⟩
        obtain rfl : b6 = true := hb6.2 ⟨HSOL.out.2.2.2, lu, lv, HSOL.out.2.1, winB_refl _, winB_refl _⟩
        clear hb6
        have HQ6 := Lib.hid (HQ5.out.below r6)
        clear HQ5
        have hb6 := H5.out.2.2.trans (r6.mono H5.out.2.2.size)
        have H6 := Lib.hid (And.intro (H5.out.1.below r6) (And.intro (H5.out.2.1.below r6) hb6))
        obtain ⟨⟨d0, d1, d2, d3⟩, -⟩ := H6.out.1
        obtain ⟨p0, p1, -⟩ := H6.out.2.1
        clear hb6 H5 r6
        obtain ⟨q0, q1, -⟩ := HQ6.out
        go_wp2_with fail
        clear q0 q1
        clear d0 d1 d2 d3 p0 p1
        refine (Closed_any s (.slice ca s.cons.length cc) _ _ a b _ H6.out.1.cons HSM.out H6.out.2.1.pts (by have := HF.out.1; omega) (by have := HF.out.2.1; omega)).mono ?_
        rintro e W7 ⟨b7, rfl, hb7, r7⟩
        have HQ7 := Lib.hid (HQ6.out.below r7)
        clear HQ6
        have HB7 := Lib.hid hb7
        clear hb7
        have hb7 := H6.out.2.2.trans (r7.mono H6.out.2.2.size)
        have H7 := Lib.hid (And.intro (H6.out.1.below r7) (And.intro (H6.out.2.1.below r7) hb7))
        obtain ⟨⟨d0, d1, d2, d3⟩, -⟩ := H7.out.1
        obtain ⟨p0, p1, -⟩ := H7.out.2.1
        clear hb7 H6 r7
        obtain ⟨q0, q1, -⟩ := HQ7.out
        cases b7
        · go_wp2_with fail
          clear q0 q1
          clear d0 d1 d2 d3 p0 p1
          refine (Derive_any s (.slice ca s.cons.length cc) _ _ a b _ H7.out.1.cons HSM.out H7.out.2.1.pts (by have := HF.out.1; omega) (by have := HF.out.2.1; omega) HR.out.1 HR.out.2).mono ?_
          rintro e W9 ⟨b9, rfl, hb9, r9⟩
          have HQ9 := Lib.hid (HQ7.out.below r9)
          clear HQ7
          have HB9 := Lib.hid hb9
          clear hb9
          have hb9 := H7.out.2.2.trans (r9.mono H7.out.2.2.size)
          have H9 := Lib.hid (And.intro (H7.out.1.below r9) (And.intro (H7.out.2.1.below r9) hb9))
          obtain ⟨⟨d0, d1, d2, d3⟩, -⟩ := H9.out.1
          obtain ⟨p0, p1, -⟩ := H9.out.2.1
          clear hb9 H7 r9
          obtain ⟨q0, q1, -⟩ := HQ9.out
          cases b9
          · go_wp2_with fail
            go_ret
            exact ⟨rfl, H9.out.2.2⟩
          · have hd := HB9.out.1 rfl
            have hw : winB a lu = true ∧ winB b lv = true := by
              obtain ⟨-, lu', lv', hs', h'⟩ := hd
              obtain ⟨rfl, rfl⟩ := HSOL.out.2.1.unique hs'
              exact h'
            have HW9 := Lib.hid hw
            clear hd hw
            go_wp2_with fail
            clear q0 q1
            clear d0 d1 d2 d3 p0 p1
            refine (WithinP_any _ _ _ _ a b lu lv _ H9.out.2.1.pts HQ9.out.pts HR.out.1 HR.out.2 HSOL.out.2.2.1.1 HSOL.out.2.2.1.2.1 (fun i hi => Nat.le_trans (HSOL.out.2.2.1.2.2.1 i hi) (by omega)) (fun i hi => Nat.le_trans (HSOL.out.2.2.1.2.2.2 i hi) (by omega))).mono ?_
            rintro e W10 ⟨rfl, r10⟩
            rw [HW9.out.1, HW9.out.2, Bool.and_true]
            have H10 := Lib.hid (H9.out.2.2.trans (r10.mono H9.out.2.2.size))
            clear r10
            go_wp2_with fail
            go_ret
            exact ⟨rfl, H10.out⟩
        · have hcl := HB7.out.1 rfl
          have hw := sol_least HSOL.out.2.1 hcl
          have HW := Lib.hid hw
          clear hcl hw
          go_wp2_with fail
          clear q0 q1
          clear d0 d1 d2 d3 p0 p1
          refine (WithinP_any _ _ _ _ lu lv a b _ HQ7.out.pts H7.out.2.1.pts HSOL.out.2.2.1.1 HSOL.out.2.2.1.2.1 HR.out.1 HR.out.2 (fun i hi => Nat.le_trans (HF.out.2.2.1 i hi) (by omega)) (fun i hi => Nat.le_trans (HF.out.2.2.2 i hi) (by omega))).mono ?_
          rintro e W8 ⟨rfl, r8⟩
          rw [HW.out.1, HW.out.2, Bool.and_true]
          have HQ8 := Lib.hid (HQ7.out.below r8)
          clear HQ7
          have hb8 := H7.out.2.2.trans (r8.mono H7.out.2.2.size)
          have H8 := Lib.hid (And.intro (H7.out.1.below r8) (And.intro (H7.out.2.1.below r8) hb8))
          obtain ⟨⟨d0, d1, d2, d3⟩, -⟩ := H8.out.1
          obtain ⟨p0, p1, -⟩ := H8.out.2.1
          clear hb8 H7 r8
          obtain ⟨q0, q1, -⟩ := HQ8.out
          go_wp2_with fail
          clear q0 q1
          clear d0 d1 d2 d3 p0 p1
          refine (Derive_any s (.slice ca s.cons.length cc) _ _ a b _ H8.out.1.cons HSM.out H8.out.2.1.pts (by have := HF.out.1; omega) (by have := HF.out.2.1; omega) HR.out.1 HR.out.2).mono ?_
          rintro e W9 ⟨b9, rfl, hb9, r9⟩
          have HQ9 := Lib.hid (HQ8.out.below r9)
          clear HQ8
          have HB9 := Lib.hid hb9
          clear hb9
          have hb9 := H8.out.2.2.trans (r9.mono H8.out.2.2.size)
          have H9 := Lib.hid (And.intro (H8.out.1.below r9) (And.intro (H8.out.2.1.below r9) hb9))
          obtain ⟨⟨d0, d1, d2, d3⟩, -⟩ := H9.out.1
          obtain ⟨p0, p1, -⟩ := H9.out.2.1
          clear hb9 H8 r9
          obtain ⟨q0, q1, -⟩ := HQ9.out
          cases b9
          · go_wp2_with fail
            go_ret
            exact ⟨rfl, H9.out.2.2⟩
          · have hd := HB9.out.1 rfl
            have hw : winB a lu = true ∧ winB b lv = true := by
              obtain ⟨-, lu', lv', hs', h'⟩ := hd
              obtain ⟨rfl, rfl⟩ := HSOL.out.2.1.unique hs'
              exact h'
            have HW9 := Lib.hid hw
            clear hd hw
            go_wp2_with fail
            clear q0 q1
            clear d0 d1 d2 d3 p0 p1
            refine (WithinP_any _ _ _ _ a b lu lv _ H9.out.2.1.pts HQ9.out.pts HR.out.1 HR.out.2 HSOL.out.2.2.1.1 HSOL.out.2.2.1.2.1 (fun i hi => Nat.le_trans (HSOL.out.2.2.1.2.2.1 i hi) (by omega)) (fun i hi => Nat.le_trans (HSOL.out.2.2.1.2.2.2 i hi) (by omega))).mono ?_
            rintro e W10 ⟨rfl, r10⟩
            rw [HW9.out.1, HW9.out.2, Bool.and_true]
            have H10 := Lib.hid (H9.out.2.2.trans (r10.mono H9.out.2.2.size))
            clear r10
            go_wp2_with fail
            go_ret
            exact ⟨rfl, H10.out⟩

set_option maxRecDepth 100000 in
theorem AndersenLeast_lifted (os : Os) (started : os.Started) (H : Type) (enc : TypeId × Value → H) :
    ReturnsInHanded {} Try.checked os 5 .any (Rows.andersenLeastSpec.pre6 enc Try.prog Try.f5 Rows.andersenLeastRow.domain false) (Rows.andersenLeastSpec.post enc Try.prog Try.f5 false true false false) := by
  refine returnsInHanded_of_change (C := Try.checked) own started (by kernel_rfl) Try.func5
    (ChangeSpec.witness6 (enc := enc) (C := Try.checked) false ⟨#[], #[.agg #[.int .i64 0, .int .i64 0, .int .i64 0, .slice none 0 0], .agg #[.slice none 0 0, .slice none 0 0]], []⟩ 8 (by kernel_rfl) (by kernel_rfl) (by kernel_rfl) (by kernel_rfl)) ?_
  intro W base args ds gs before hval0 hW hcnd _
  have hval : ∀ (j : Nat) t v, Try.f5.params[j]? = some t → args[j]? = some v → Value.okWide Try.prog W .any base t v := hval0
  have hW' := hW
  obtain ⟨p, q, hA0, hV, rfl, hfz, hnd⟩ := hW
  have hA : DataW.TrodAll enc Try.prog W 0 (fun _ => true) true Try.f5.params.toList args.toList ds p := hA0
  rw [Try.params5] at hA hval
  obtain ⟨v0, vs0, d0, ds0, p0, q0, hargs, rfl, rfl, h0, r0⟩ := trodAll_cons hA
  obtain ⟨v1, vs1, d1, ds1, p1, q1, rfl, rfl, rfl, h1, r1⟩ := trodAll_cons r0
  obtain ⟨rfl, rfl, rfl⟩ := trodAll_nil r1
  obtain rfl : args = #[v0, v1] := by cases args; simp_all
  obtain ⟨rfl, rfl⟩ := trodVars_none hV
  obtain ⟨c0, rfl, sz0⟩ := okWide_struct Try.underlying24 (hval 0 24 v0 rfl rfl)
  have k0 := h0
  obtain ⟨sy0, cv0, eq0, hC0⟩ := sys_of_trod sz0 h0
  obtain rfl : c0 = #[.int .i64 sy0.vars, .int .i64 sy0.sites, .int .i64 sy0.fields, cv0] := by simpa [SysV] using eq0
  have lt0 : ∀ x ∈ p0, x.block < W.heap.size := by obtain ⟨m, hm⟩ := k0; exact DataW.trod_lt m _ _ _ hm
  obtain ⟨c1, rfl, sz1⟩ := okWide_struct Try.underlying29 (hval 1 29 v1 rfl rfl)
  have k1 := h1
  obtain ⟨pu1, pv1, pa1, pb1, pus1, pvs1, eq1, g1, gg1, r11, r21⟩ := pts_of_trod sz1 h1
  obtain rfl : c1 = #[pu1, pv1] := by simpa using eq1
  have lt1 : ∀ x ∈ p1, x.block < W.heap.size := by obtain ⟨m, hm⟩ := k1; exact DataW.trod_lt m _ _ _ hm
  clear hA0 hval0
  refine (AndersenLeast_walk sy0 cv0 pu1 pv1 pa1 pb1 W hC0 ⟨⟨pus1, g1⟩, pvs1, gg1⟩ r11 r21).mono fun e W' ⟨he, bel⟩ => ?_
  subst he
  exact ⟨_, rfl, _, _, _, [], _, [], hW', trodAll_mk1 (shut_bool Try.underlying4 _), (trodAll_cons_mk (Below.trod laidOut (by kernel_rfl) (of_decide_eq_true (by kernel_rfl)) k0 bel lt0) (trodAll_cons_mk (Below.trod laidOut (by kernel_rfl) (of_decide_eq_true (by kernel_rfl)) k1 bel lt1) trodAll_mk0)), rfl, bel.frame _, fun h => by cases h⟩

/-- The given statement. -/
theorem AndersenLeast_holds : Rows.AndersenLeastSaid :=
  OpenClaim.holds_of_wide 5 Try.f5 rfl rfl rfl rfl rfl rfl rfl ⟨rfl, rfl, rfl, rfl, rfl⟩ rfl rfl rfl rfl rfl (by kernel_rfl) Try.func5 (by kernel_rfl)
    (of_decide_eq_true (by kernel_rfl)) (by unfold Func.isWrapper; first | (rw [if_pos (by decide +kernel)]; kernel_rfl) | (rw [if_neg (by decide +kernel)]; exact ⟨rfl, rfl⟩))
    (fun os started H enc _ => AndersenLeast_lifted os started H enc)

end Go.Proofs.Ytdlfbkmjemamhaa
