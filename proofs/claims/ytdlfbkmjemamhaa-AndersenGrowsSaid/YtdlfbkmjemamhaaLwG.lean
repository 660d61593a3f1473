/- AndersenGrows: for any system with at most 40 variables, 12 sites and 5 fields and any number, the least solution of the constraints from there on is within that of all, and adds nothing if the others hold in it. Conditions: none. -/
import Derived.Test.YtdlfbkmjemamhaaLwB
namespace Go.Proofs.Ytdlfbkmjemamhaa
open Go.ChangeShapes Go.WideShapes Go.ChangeAt Go.RowKit Go.Dfl Go.And

set_option maxHeartbeats 6400000 in
set_option maxRecDepth 100000 in
theorem AndersenGrows_walk (s : Sy) (cv : Value) (fr : Int) (W : World) (hc : ConsIn W cv s.cons) (_ : -9223372036854775808 ≤ fr ∧ fr ≤ 9223372036854775807) :
    Calls Try.prog 7 #[SysV s cv, .int .i64 fr] W (TruePost W) := by
  obtain ⟨ca, cc, rfl, -⟩ := hc.out
  have HC := Lib.hid hc
  clear hc
  unfold SysV
  go_enter Try.func7, Try.ntmps7
  go_wp2_with fail
  refine calls_gen (fun Z => SysB W.heap.size s (.slice ca s.cons.length cc) Z ∧ Below W.heap.size W Z) ⟨SysB.new HC.out 24, (Below.refl _ _).alloc (Nat.le_refl _) _⟩ ?_
  rintro Z0 h0
  obtain ⟨bs, hbs⟩ : ∃ bs, bs = W.heap.size := ⟨_, rfl⟩
  have H0 : Hid (SysB bs s (.slice ca s.cons.length cc) Z0 ∧ Below W.heap.size W Z0) := by rw [hbs]; exact h0
  rw [← hbs]
  clear h0 hbs HC
  refine (Small_any s (.slice ca s.cons.length cc) _ H0.out.1.cons).mono ?_
  rintro e W1 ⟨b1, rfl, hb1, r1⟩
  have hb1 := H0.out.2.trans (r1.mono H0.out.2.size)
  have H1 := Lib.hid (And.intro (H0.out.1.below r1) hb1)
  obtain ⟨⟨d0, d1, d2, d3⟩, -⟩ := H1.out.1
  clear hb1 H0 r1
  cases b1
  · go_wp2_with fail
    refine (awake_any _).mono ?_
    rintro e W2 ⟨rfl, r2⟩
    clear d0 d1 d2 d3
    have H2 := Lib.hid (H1.out.2.trans (r2.mono H1.out.2.size))
    clear r2 hb1
    go_wp2_with fail
    go_ret
    exact ⟨rfl, H2.out⟩
  · have hsm := (hb1.1 rfl).sm
    have HSM := Lib.hid hsm
    clear hsm hb1
    go_wp2_with fail
    refine (awake_any _).mono ?_
    rintro e W3 ⟨rfl, r3⟩
    clear d0 d1 d2 d3
    have hb3 := H1.out.2.trans (r3.mono H1.out.2.size)
    have H3 := Lib.hid (And.intro (H1.out.1.below r3) hb3)
    obtain ⟨⟨d0, d1, d2, d3⟩, -⟩ := H3.out.1
    clear hb3 H1 r3
    go_wp2_with fail
    clear d0 d1 d2 d3
    refine (Solve_any s (.slice ca s.cons.length cc) _ H3.out.1.cons HSM.out).mono ?_
    rintro e W4 (⟨h0, rfl, r4⟩ | ⟨h0, xa, xc, ya, yc, lu, lv, rfl, hpts, hsol, r4⟩)
    · have hz : (chkCode s != 0) = true := by simpa using h0
      have H4 := Lib.hid (H3.out.2.trans (r4.mono H3.out.2.size))
      clear h0 r4
      go_wp2_with fail
      go_ret
      exact ⟨rfl, H4.out.alloc H4.out.size _⟩
    · have hal : Below W4.heap.size W4 (W4.alloc (.cells #[.slice xa s.S.vars xc, .slice ya (s.S.sites * s.S.fields) yc] 29)) := (Below.refl _ _).alloc (Nat.le_refl _) _
      have hQ := PtsB.new hpts 29
      have hInR := hsol.inR (chkCode_ok.1 h0).ok (by have := HSM.out.sites; show s.sites.toNat ≤ 12; omega)
      have hcl := sol_closed h0 hsol
      have HSOL := Lib.hid (And.intro h0 (And.intro hsol (And.intro hInR hcl)))
      have hbW : Below W.heap.size W W4 := H3.out.2.trans (r4.mono H3.out.2.size)
      have hS5 := (H3.out.1.below r4).below hal
      obtain ⟨k, hk, hkl⟩ : ∃ k : Nat, mn (mx fr 0) (s.cons.length : Int) = (k : Int) ∧ k ≤ s.cons.length := by
        have h1 := mn_le (mx fr 0) (s.cons.length : Int)
        have h2 := mx_ge fr 0
        exact ⟨(mn (mx fr 0) (s.cons.length : Int)).toNat, by omega, by omega⟩
      obtain ⟨ta, tc, hcut, hct⟩ := hS5.cons.cut k hkl
      have hsub : ∀ c ∈ s.cons.drop k, c ∈ s.cons := fun c hc => List.mem_of_mem_drop hc
      have HSUB := Lib.hid (And.intro hsub (And.intro hct (sub_chk hsub h0)))
      have hmx := run_mx Try.prog
      have hmn := run_mn Try.prog
      have H4 := Lib.hid (And.intro hS5 (hbW.alloc hbW.size (.cells #[.slice xa s.S.vars xc, .slice ya (s.S.sites * s.S.fields) yc] 29)))
      have HQ4 := Lib.hid hQ
      obtain ⟨⟨d0, d1, d2, d3⟩, -⟩ := H4.out.1
      have hlt : bs < W4.heap.size + 1 := by have h := World.block_lt_of_cell? _ ⟨bs, 0, none⟩ d0; simpa using h
      have nb1 : bs ≠ W4.heap.size + 1 := by omega
      clear hal hQ hInR hcl hbW r4 hsol h0 hpts H3 hS5 hsub hct
      go_wp2_with fail
      clear d0 d1 d2 d3
      refine calls_gen (fun Z => SysB bs s (.slice ca s.cons.length cc) Z ∧ SysB (W4.heap.size + 1) { s with cons := s.cons.drop k } (.slice ta (s.cons.length - k) tc) Z ∧ PtsB W4.heap.size (.slice xa s.S.vars xc) (.slice ya (s.S.sites * s.S.fields) yc) lu lv Z ∧ Below W.heap.size W Z) ⟨H4.out.1.below ((Below.refl _ _).alloc (Nat.le_refl _) _), ?_, HQ4.out.below ((Below.refl _ _).alloc (Nat.le_refl _) _), H4.out.2.alloc H4.out.2.size _⟩ ?_
      · have h1 := HSUB.out.2.1
        rw [List.length_drop] at h1
        have h := SysB.new (s := { s with cons := s.cons.drop k }) h1 24
        rw [World.size_alloc] at h
        exact h
      rintro Z5 h5
      obtain ⟨tb, htb⟩ : ∃ tb, tb = W4.heap.size + 1 := ⟨_, rfl⟩
      obtain ⟨pb, hpb⟩ : ∃ pb, pb = W4.heap.size := ⟨_, rfl⟩
      have H5 : Hid (SysB bs s (.slice ca s.cons.length cc) Z5 ∧ SysB tb { s with cons := s.cons.drop k } (.slice ta (s.cons.length - k) tc) Z5 ∧ PtsB pb (.slice xa s.S.vars xc) (.slice ya (s.S.sites * s.S.fields) yc) lu lv Z5 ∧ Below W.heap.size W Z5) := by rw [htb, hpb]; exact h5
      rw [← htb, ← hpb]
      clear h5 htb hpb HQ4 H4 hlt nb1 hcut hk hmx hmn
      have hsmt : Sm { s with cons := s.cons.drop k } := ⟨HSM.out.vars, HSM.out.sites, HSM.out.fields, by have := HSM.out.cons; show (s.cons.drop k).length ≤ 101; rw [List.length_drop]; omega⟩
      have HSMT := Lib.hid hsmt
      clear hsmt
      refine (Solve_any { s with cons := s.cons.drop k } (.slice ta (s.cons.length - k) tc) Z5 H5.out.2.1.cons HSMT.out).mono ?_
      rintro e W6 (⟨h6, -⟩ | ⟨h6, qa, qc, ra, rc, qu, qv, rfl, hpts, hsolq, r6⟩)
      · exact absurd HSUB.out.2.2 h6
      rw [show ({ s with cons := s.cons.drop k } : Sy).S.vars = s.S.vars from rfl, show ({ s with cons := s.cons.drop k } : Sy).S.sites = s.S.sites from rfl, show ({ s with cons := s.cons.drop k } : Sy).S.fields = s.S.fields from rfl] at hpts ⊢
      have hal : Below W6.heap.size W6 (W6.alloc (.cells #[.slice qa s.S.vars qc, .slice ra (s.S.sites * s.S.fields) rc] 29)) := (Below.refl _ _).alloc (Nat.le_refl _) _
      have hQ := PtsB.new hpts 29
      have hInQ := hsolq.inR (chkCode_ok.1 h6).ok (by have := HSM.out.sites; show s.sites.toNat ≤ 12; omega)
      have hwin := sub_win HSUB.out.1 hsolq HSOL.out.2.1
      have HSQ := Lib.hid (And.intro hsolq (And.intro hInQ hwin))
      have hbW : Below W.heap.size W W6 := H5.out.2.2.2.trans (r6.mono H5.out.2.2.2.size)
      have H6 : Hid (SysB bs s (.slice ca s.cons.length cc) (W6.alloc (.cells #[.slice qa s.S.vars qc, .slice ra (s.S.sites * s.S.fields) rc] 29)) ∧ SysB tb { s with cons := s.cons.drop k } (.slice ta (s.cons.length - k) tc) (W6.alloc (.cells #[.slice qa s.S.vars qc, .slice ra (s.S.sites * s.S.fields) rc] 29)) ∧ PtsB pb (.slice xa s.S.vars xc) (.slice ya (s.S.sites * s.S.fields) yc) lu lv (W6.alloc (.cells #[.slice qa s.S.vars qc, .slice ra (s.S.sites * s.S.fields) rc] 29)) ∧ PtsB W6.heap.size (.slice qa s.S.vars qc) (.slice ra (s.S.sites * s.S.fields) rc) qu qv (W6.alloc (.cells #[.slice qa s.S.vars qc, .slice ra (s.S.sites * s.S.fields) rc] 29)) ∧ Below W.heap.size W (W6.alloc (.cells #[.slice qa s.S.vars qc, .slice ra (s.S.sites * s.S.fields) rc] 29))) :=
        ⟨(H5.out.1.below r6).below hal, (H5.out.2.1.below r6).below hal, (H5.out.2.2.1.below r6).below hal, hQ, hbW.alloc hbW.size _⟩
      have HL := Lib.hid (And.intro (show lu.length ≤ 100 by have h1 := HSOL.out.2.1.1; have h2 := HSM.out.vars; have h3 : s.S.vars = s.vars.toNat := rfl; omega) (And.intro (show lv.length ≤ 100 by have h1 := HSOL.out.2.1.2.1; have h2 := HSM.out.bnd.N; have h3 : s.S.N = s.S.vars + s.S.sites * s.S.fields := rfl; omega)
        (And.intro (show qu.length ≤ 100 by have h1 : qu.length = s.S.vars := hsolq.1; have h2 := HSM.out.vars; have h3 : s.S.vars = s.vars.toNat := rfl; omega) (show qv.length ≤ 100 by have h1 : qv.length = s.S.sites * s.S.fields := hsolq.2.1; have h2 := HSM.out.bnd.N; have h3 : s.S.N = s.S.vars + s.S.sites * s.S.fields := rfl; omega))))
      clear hal hQ hInQ hwin hbW r6 hsolq hpts h6 H5
      obtain ⟨⟨d0, d1, d2, d3⟩, -⟩ := H6.out.1
      obtain ⟨⟨t0, t1, t2, t3⟩, -⟩ := H6.out.2.1
      obtain ⟨p0, p1, -⟩ := H6.out.2.2.1
      obtain ⟨q0, q1, -⟩ := H6.out.2.2.2.1
      dsimp only at t0 t1 t2
      go_wp2_with fail
      clear d0 d1 d2 d3 t0 t1 t2 t3 p0 p1 q0 q1
      refine (WithinP_any _ _ _ _ qu qv lu lv _ H6.out.2.2.2.1.pts H6.out.2.2.1.pts HSQ.out.2.1.1 HSQ.out.2.1.2.1 HSOL.out.2.2.1.1 HSOL.out.2.2.1.2.1 (fun i hi => Nat.le_trans (HSOL.out.2.2.1.2.2.1 i hi) (by omega)) (fun i hi => Nat.le_trans (HSOL.out.2.2.1.2.2.2 i hi) (by omega))).mono ?_
      rintro e W7 ⟨rfl, r7⟩
      rw [HSQ.out.2.2.1, HSQ.out.2.2.2, Bool.and_true]
      have hb7 := H6.out.2.2.2.2.trans (r7.mono H6.out.2.2.2.2.size)
      have H7 := Lib.hid (And.intro (H6.out.1.below r7) (And.intro (H6.out.2.1.below r7) (And.intro (H6.out.2.2.1.below r7) (And.intro (H6.out.2.2.2.1.below r7) hb7))))
      clear hb7 H6 r7
      obtain ⟨⟨d0, d1, d2, d3⟩, -⟩ := H7.out.1
      obtain ⟨⟨t0, t1, t2, t3⟩, -⟩ := H7.out.2.1
      obtain ⟨p0, p1, -⟩ := H7.out.2.2.1
      obtain ⟨q0, q1, -⟩ := H7.out.2.2.2.1
      dsimp only at t0 t1 t2
      go_wp2_with fail
      clear d0 d1 d2 d3 t0 t1 t2 t3 p0 p1 q0 q1
      refine (Closed_any { s with cons := s.cons.drop k } (.slice ta (s.cons.length - k) tc) _ _ lu lv _ H7.out.2.1.cons HSMT.out H7.out.2.2.1.pts HL.out.1 HL.out.2.1).mono ?_
      rintro e W8 ⟨b8, rfl, hb8, r8⟩
      obtain rfl : b8 = true := hb8.2 (sub_closed HSUB.out.1 HSOL.out.2.2.2)
      clear hb8
      have hb8 := H7.out.2.2.2.2.trans (r8.mono H7.out.2.2.2.2.size)
      have H8 := Lib.hid (And.intro (H7.out.1.below r8) (And.intro (H7.out.2.1.below r8) (And.intro (H7.out.2.2.1.below r8) (And.intro (H7.out.2.2.2.1.below r8) hb8))))
      clear hb8 H7 r8
      obtain ⟨⟨d0, d1, d2, d3⟩, -⟩ := H8.out.1
      obtain ⟨⟨t0, t1, t2, t3⟩, -⟩ := H8.out.2.1
      obtain ⟨p0, p1, -⟩ := H8.out.2.2.1
      obtain ⟨q0, q1, -⟩ := H8.out.2.2.2.1
      dsimp only at t0 t1 t2
      go_wp2_with fail
      clear d0 d1 d2 d3 t0 t1 t2 t3 p0 p1 q0 q1
      refine (Closed_any s (.slice ca s.cons.length cc) _ _ qu qv _ H8.out.1.cons HSM.out H8.out.2.2.2.1.pts HL.out.2.2.1 HL.out.2.2.2).mono ?_
      rintro e W9 ⟨b9, rfl, hb9, r9⟩
      have HB9 := Lib.hid hb9
      clear hb9
      have hb9 := H8.out.2.2.2.2.trans (r9.mono H8.out.2.2.2.2.size)
      have H9 := Lib.hid (And.intro (H8.out.1.below r9) (And.intro (H8.out.2.1.below r9) (And.intro (H8.out.2.2.1.below r9) (And.intro (H8.out.2.2.2.1.below r9) hb9))))
      clear hb9 H8 r9
      obtain ⟨⟨d0, d1, d2, d3⟩, -⟩ := H9.out.1
      obtain ⟨⟨t0, t1, t2, t3⟩, -⟩ := H9.out.2.1
      obtain ⟨p0, p1, -⟩ := H9.out.2.2.1
      obtain ⟨q0, q1, -⟩ := H9.out.2.2.2.1
      dsimp only at t0 t1 t2
      cases b9
      · go_wp2_with fail
        go_ret
        exact ⟨rfl, H9.out.2.2.2.2⟩
      · have hw := sol_least HSOL.out.2.1 (HB9.out.1 rfl)
        have HW := Lib.hid hw
        clear hw
        go_wp2_with fail
        clear d0 d1 d2 d3 t0 t1 t2 t3 p0 p1 q0 q1
        refine (WithinP_any _ _ _ _ lu lv qu qv _ H9.out.2.2.1.pts H9.out.2.2.2.1.pts HSOL.out.2.2.1.1 HSOL.out.2.2.1.2.1 HSQ.out.2.1.1 HSQ.out.2.1.2.1 (fun i hi => Nat.le_trans (HSQ.out.2.1.2.2.1 i hi) (by omega)) (fun i hi => Nat.le_trans (HSQ.out.2.1.2.2.2 i hi) (by omega))).mono ?_
        rintro e W10 ⟨rfl, r10⟩
        rw [HW.out.1, HW.out.2, Bool.and_true]
        have H10 := Lib.hid (H9.out.2.2.2.2.trans (r10.mono H9.out.2.2.2.2.size))
        clear r10
        go_wp2_with fail
        go_ret
        exact ⟨rfl, H10.out⟩

set_option maxRecDepth 100000 in
theorem AndersenGrows_lifted (os : Os) (started : os.Started) (H : Type) (enc : TypeId × Value → H) :
    ReturnsInHanded {} Try.checked os 7 .any (Rows.andersenGrowsSpec.pre6 enc Try.prog Try.f7 Rows.andersenGrowsRow.domain false) (Rows.andersenGrowsSpec.post enc Try.prog Try.f7 false true false false) := by
  refine returnsInHanded_of_change (C := Try.checked) own started (by kernel_rfl) Try.func7
    (ChangeSpec.witness6 (enc := enc) (C := Try.checked) false ⟨#[], #[.agg #[.int .i64 0, .int .i64 0, .int .i64 0, .slice none 0 0], .int .i64 0], []⟩ 8 (by kernel_rfl) (by kernel_rfl) (by kernel_rfl) (by kernel_rfl)) ?_
  intro W base args ds gs before hval0 hW hcnd _
  have hval : ∀ (j : Nat) t v, Try.f7.params[j]? = some t → args[j]? = some v → Value.okWide Try.prog W .any base t v := hval0
  have hW' := hW
  obtain ⟨p, q, hA0, hV, rfl, hfz, hnd⟩ := hW
  have hA : DataW.TrodAll enc Try.prog W 0 (fun _ => true) true Try.f7.params.toList args.toList ds p := hA0
  rw [Try.params7] at hA hval
  obtain ⟨v0, vs0, d0, ds0, p0, q0, hargs, rfl, rfl, h0, r0⟩ := trodAll_cons hA
  obtain ⟨v1, vs1, d1, ds1, p1, q1, rfl, rfl, rfl, h1, r1⟩ := trodAll_cons r0
  obtain ⟨rfl, rfl, rfl⟩ := trodAll_nil r1
  obtain rfl : args = #[v0, v1] := by cases args; simp_all
  obtain ⟨rfl, rfl⟩ := trodVars_none hV
  obtain ⟨c0, rfl, sz0⟩ := okWide_struct Try.underlying24 (hval 0 24 v0 rfl rfl)
  have k0 := h0
  obtain ⟨sy0, cv0, eq0, hC0⟩ := sys_of_trod sz0 h0
  obtain rfl : c0 = #[.int .i64 sy0.vars, .int .i64 sy0.sites, .int .i64 sy0.fields, cv0] := by simpa [SysV] using eq0
  have lt0 : ∀ x ∈ p0, x.block < W.heap.size := by obtain ⟨m, hm⟩ := k0; exact DataW.trod_lt m _ _ _ hm
  obtain ⟨a1, rfl, rfl, rfl, w1⟩ := open_int Try.underlying3 (hval 1 3 v1 rfl rfl) h1
  have b1 := bounds_i64 w1
  clear hA0 hval0
  refine (AndersenGrows_walk sy0 cv0 a1 W hC0 b1).mono fun e W' ⟨he, bel⟩ => ?_
  subst he
  exact ⟨_, rfl, _, _, _, [], _, [], hW', trodAll_mk1 (shut_bool Try.underlying4 _), (trodAll_cons_mk (Below.trod laidOut (by kernel_rfl) (of_decide_eq_true (by kernel_rfl)) k0 bel lt0) (trodAll_cons_mk (shut_int Try.underlying3 w1) trodAll_mk0)), rfl, bel.frame _, fun h => by cases h⟩

/-- The given statement. -/
theorem AndersenGrows_holds : Rows.AndersenGrowsSaid :=
  OpenClaim.holds_of_wide 7 Try.f7 rfl rfl rfl rfl rfl rfl rfl ⟨rfl, rfl, rfl, rfl, rfl⟩ rfl rfl rfl rfl rfl (by kernel_rfl) Try.func7 (by kernel_rfl)
    (of_decide_eq_true (by kernel_rfl)) (by unfold Func.isWrapper; first | (rw [if_pos (by decide +kernel)]; kernel_rfl) | (rw [if_neg (by decide +kernel)]; exact ⟨rfl, rfl⟩))
    (fun os started H enc _ => AndersenGrows_lifted os started H enc)

end Go.Proofs.Ytdlfbkmjemamhaa
