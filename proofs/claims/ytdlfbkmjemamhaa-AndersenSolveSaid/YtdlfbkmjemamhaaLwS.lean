/- AndersenSolve: for any system with at most 40 variables, 12 sites and 5 fields, the least solution is that of the reference. Conditions: none. -/
import Derived.Test.YtdlfbkmjemamhaaRfj
namespace Go.Proofs.Ytdlfbkmjemamhaa
open Go.ChangeShapes Go.WideShapes Go.ChangeAt Go.RowKit Go.Dfl Go.And

/-- What Solve's lists are. -/
def SolL (s : Sy) (lu lv : List (List Int)) : Prop := (chkCode s ≠ 0 ∧ lu = [] ∧ lv = []) ∨ (chkCode s = 0 ∧ Sol s.S lu lv)
theorem SolL.unique {s : Sy} {lu lv lu' lv' : List (List Int)} (h : SolL s lu lv) (k : SolL s lu' lv') : lu = lu' ∧ lv = lv' := by
  rcases h with ⟨h0, rfl, rfl⟩ | ⟨h0, h⟩
  · rcases k with ⟨-, rfl, rfl⟩ | ⟨k0, -⟩
    · exact ⟨rfl, rfl⟩
    · exact absurd k0 h0
  · rcases k with ⟨k0, -, -⟩ | ⟨-, k⟩
    · exact absurd h0 k0
    · exact h.unique k
theorem SolL.few {s : Sy} {lu lv : List (List Int)} (h : SolL s lu lv) (hs : Sm s) : FewP lu lv ∧ lu.length ≤ 100 ∧ lv.length ≤ 100 := by
  rcases h with ⟨-, rfl, rfl⟩ | ⟨h0, h⟩
  · refine ⟨⟨by simp, by simp, fun i hi => by simp at hi, fun i hi => by simp at hi⟩, by simp, by simp⟩
  · have hI := h.inR (chkCode_ok.1 h0).ok (by have := hs.sites; show s.sites.toNat ≤ 12; omega)
    have h1 := h.1
    have h2 := h.2.1
    have h3 : s.S.vars ≤ 40 := by have := hs.vars; show s.vars.toNat ≤ 40; omega
    have h4 : s.S.sites * s.S.fields ≤ 12 * 5 := Nat.mul_le_mul (by have := hs.sites; show s.sites.toNat ≤ 12; omega) (by have := hs.fields; show s.fields.toNat ≤ 5; omega)
    refine ⟨⟨by omega, by omega, fun i hi => Nat.le_trans (hI.2.2.1 i hi) (by omega), fun i hi => Nat.le_trans (hI.2.2.2 i hi) (by omega)⟩, by omega, by omega⟩
def SolvU (s : Sy) (W : World) (e : Ending) (W' : World) : Prop := ∃ ua uc va vc lu lv, e = .returned (.tuple #[.agg #[.slice ua lu.length uc, .slice va lv.length vc], .int .i64 (chkCode s)]) ∧ PtsIn W' (.slice ua lu.length uc) (.slice va lv.length vc) lu lv ∧ SolL s lu lv ∧ Below W.heap.size W W'
theorem SolveR.uni {s : Sy} {W : World} {e : Ending} {W' : World} (h : SolveR s W e W') : SolvU s W e W' := by
  rcases h with ⟨h0, rfl, hb⟩ | ⟨h0, ua, uc, va, vc, lu, lv, rfl, hp, hs, hb⟩
  · exact ⟨none, 0, none, 0, [], [], rfl, ⟨⟨_, nilGrid _⟩, _, nilGrid _⟩, .inl ⟨h0, rfl, rfl⟩, hb⟩
  · refine ⟨ua, uc, va, vc, lu, lv, by rw [hs.1, hs.2.1, h0], ?_, .inr ⟨h0, hs⟩, hb⟩
    rw [hs.1, hs.2.1]; exact hp

set_option maxHeartbeats 6400000 in
set_option maxRecDepth 100000 in
theorem AndersenSolve_walk (s : Sy) (cv : Value) (W : World) (hc : ConsIn W cv s.cons) :
    Calls Try.prog 3 #[SysV s cv] W (TruePost W) := by
  obtain ⟨ca, cc, rfl, -⟩ := hc.out
  have HC := Lib.hid hc
  clear hc
  unfold SysV
  go_enter Try.func3, Try.ntmps3
  go_wp2_with fail
  refine calls_gen (fun Z => SysB W.heap.size s (.slice ca s.cons.length cc) Z ∧ Below W.heap.size W Z) ⟨SysB.new HC.out 24, (Below.refl _ _).alloc (Nat.le_refl _) _⟩ ?_
  rintro Z0 h0
  obtain ⟨bs, hbs⟩ : ∃ bs, bs = W.heap.size := ⟨_, rfl⟩
  have H0 : Hid (SysB bs s (.slice ca s.cons.length cc) Z0 ∧ Below W.heap.size W Z0) := by rw [hbs]; exact h0
  rw [← hbs]
  clear h0 hbs HC
  refine (Small_any s (.slice ca s.cons.length cc) _ H0.out.1.cons).mono ?_
  rintro e W1 ⟨b1, rfl, hb1, r1⟩
  have hb1 := H0.out.2.trans (r1.mono H0.out.2.size)
  have H1 := Lib.hid (And.intro (H0.out.1.below r1) hb1)
  obtain ⟨⟨d0, d1, d2, d3⟩, -⟩ := H1.out.1
  clear hb1 H0 r1
  cases b1
  · go_wp2_with fail
    refine (awake_any _).mono ?_
    rintro e W2 ⟨rfl, r2⟩
    clear d0 d1 d2 d3
    have H2 := Lib.hid (H1.out.2.trans (r2.mono H1.out.2.size))
    clear r2 hb1
    go_wp2_with fail
    go_ret
    exact ⟨rfl, H2.out⟩
  · have hsm := (hb1.1 rfl).sm
    have HSM := Lib.hid hsm
    clear hsm hb1
    go_wp2_with fail
    clear d0 d1 d2 d3
    refine (Solve_any s (.slice ca s.cons.length cc) _ H1.out.1.cons HSM.out).mono ?_
    intro e W2 hr2
    obtain ⟨xa, xc, ya, yc, lu, lv, rfl, hp2, hs2, r2⟩ := hr2.uni
    clear hr2
    have hal : Below W2.heap.size W2 (W2.alloc (.cells #[.slice xa lu.length xc, .slice ya lv.length yc] 29)) := (Below.refl _ _).alloc (Nat.le_refl _) _
    have hbW : Below W.heap.size W W2 := H1.out.2.trans (r2.mono H1.out.2.size)
    have H2 := Lib.hid (And.intro ((H1.out.1.below r2).below hal) (And.intro (PtsB.new hp2 29) (hbW.alloc hbW.size (.cells #[.slice xa lu.length xc, .slice ya lv.length yc] 29))))
    have HS2 := Lib.hid hs2
    obtain ⟨code, hcode⟩ : ∃ code, code = chkCode s := ⟨_, rfl⟩
    rw [← hcode]
    have HCODE := Lib.hid hcode
    obtain ⟨⟨d0, d1, d2, d3⟩, -⟩ := H2.out.1
    clear hal hbW hp2 hs2 r2 hcode H1
    go_wp2_with fail
    clear d0 d1 d2 d3
    refine calls_gen (fun Z => SysB bs s (.slice ca s.cons.length cc) Z ∧ PtsB W2.heap.size (.slice xa lu.length xc) (.slice ya lv.length yc) lu lv Z ∧ Below W.heap.size W Z) H2.out ?_
    rintro Z3 h3
    obtain ⟨bp, hbp⟩ : ∃ bp, bp = W2.heap.size := ⟨_, rfl⟩
    rw [← hbp] at h3 ⊢
    have H3 := Lib.hid h3
    clear h3 hbp H2
    refine (rSolve_any s (.slice ca s.cons.length cc) _ H3.out.1.cons HSM.out).mono ?_
    intro e W4 hr4
    obtain ⟨xa4, xc4, ya4, yc4, lu4, lv4, rfl, hp4, hs4, r4⟩ := hr4.uni
    clear hr4
    obtain ⟨rfl, rfl⟩ := HS2.out.unique hs4
    rw [← HCODE.out]
    have hal : Below W4.heap.size W4 (W4.alloc (.cells #[.slice xa4 lu.length xc4, .slice ya4 lv.length yc4] 29)) := (Below.refl _ _).alloc (Nat.le_refl _) _
    have hbW : Below W.heap.size W W4 := H3.out.2.2.trans (r4.mono H3.out.2.2.size)
    have H4 := Lib.hid (And.intro ((H3.out.1.below r4).below hal) (And.intro ((H3.out.2.1.below r4).below hal) (And.intro (PtsB.new hp4 29) (hbW.alloc hbW.size (.cells #[.slice xa4 lu.length xc4, .slice ya4 lv.length yc4] 29)))))
    clear hal hbW hp4 hs4 r4 H3
    go_wp2_with fail
    refine calls_gen (fun Z => SysB bs s (.slice ca s.cons.length cc) Z ∧ PtsB bp (.slice xa lu.length xc) (.slice ya lv.length yc) lu lv Z ∧ PtsB W4.heap.size (.slice xa4 lu.length xc4) (.slice ya4 lv.length yc4) lu lv Z ∧ Below W.heap.size W Z) H4.out ?_
    rintro Z5 h5
    obtain ⟨bq, hbq⟩ : ∃ bq, bq = W4.heap.size := ⟨_, rfl⟩
    rw [← hbq] at h5 ⊢
    have H5 := Lib.hid h5
    clear h5 hbq H4
    refine (awake_any _).mono ?_
    rintro e W6 ⟨rfl, r6⟩
    have H6 := Lib.hid (And.intro (H5.out.1.below r6) (And.intro (H5.out.2.1.below r6) (And.intro (H5.out.2.2.1.below r6) (H5.out.2.2.2.trans (r6.mono H5.out.2.2.2.size)))))
    clear r6 H5
    obtain ⟨p0, p1, -⟩ := H6.out.2.1
    have hcc : (code == code) = true := by simp
    go_wp2_with fail
    clear p0 p1 hcc
    refine (Few_any _ _ lu lv _ H6.out.2.1.pts).mono ?_
    rintro e W7 ⟨b7, rfl, hb7, r7⟩
    obtain rfl : b7 = true := hb7.2 (HS2.out.few HSM.out).1
    clear hb7
    have H7 := Lib.hid (And.intro (H6.out.1.below r7) (And.intro (H6.out.2.1.below r7) (And.intro (H6.out.2.2.1.below r7) (H6.out.2.2.2.trans (r7.mono H6.out.2.2.2.size)))))
    clear r7 H6
    obtain ⟨p0, p1, -⟩ := H7.out.2.1
    obtain ⟨q0, q1, -⟩ := H7.out.2.2.1
    go_wp2_with fail
    clear p0 p1 q0 q1
    refine (rSame_eq _ _ _ _ lu lv _ H7.out.2.1.pts H7.out.2.2.1.pts).mono ?_
    rintro e W8 ⟨rfl, r8⟩
    have H8 := Lib.hid (And.intro (H7.out.1.below r8) (And.intro (H7.out.2.1.below r8) (H7.out.2.2.2.trans (r8.mono H7.out.2.2.2.size))))
    clear r8 H7
    obtain ⟨p0, p1, -⟩ := H8.out.2.1
    obtain ⟨⟨d0, d1, d2, d3⟩, -⟩ := H8.out.1
    by_cases hz0 : code = 0
    · have hz : (code != 0) = false := by simpa using hz0
      have HZ := Lib.hid hz0
      clear hz0
      go_wp2_with fail
      clear d0 d1 d2 d3
      clear p0 p1
      refine (rClosed_any s (.slice ca s.cons.length cc) _ _ lu lv _ H8.out.1.cons HSM.out H8.out.2.1.pts (HS2.out.few HSM.out).2.1 (HS2.out.few HSM.out).2.2).mono ?_
      rintro e W9 ⟨b9, rfl, hb9, r9⟩
      obtain rfl : b9 = true := hb9.2 (by
        have h0 : chkCode s = 0 := by rw [← HCODE.out]; exact HZ.out
        rcases HS2.out with ⟨hbad, -⟩ | ⟨-, hs⟩
        · exact absurd h0 hbad
        · exact sol_closed h0 hs)
      clear hb9
      have H9 := Lib.hid (H8.out.2.2.trans (r9.mono H8.out.2.2.size))
      clear r9
      go_wp2_with fail
      go_ret
      exact ⟨rfl, H9.out⟩
    · have hz : (code != 0) = true := by simpa using hz0
      clear hz0
      go_wp2_with fail
      go_ret
      exact ⟨rfl, H8.out.2.2⟩

set_option maxRecDepth 100000 in
theorem AndersenSolve_lifted (os : Os) (started : os.Started) (H : Type) (enc : TypeId × Value → H) :
    ReturnsInHanded {} Try.checked os 3 .any (Rows.andersenSolveSpec.pre6 enc Try.prog Try.f3 Rows.andersenSolveRow.domain false) (Rows.andersenSolveSpec.post enc Try.prog Try.f3 false true false false) := by
  refine returnsInHanded_of_change (C := Try.checked) own started (by kernel_rfl) Try.func3
    (ChangeSpec.witness6 (enc := enc) (C := Try.checked) false ⟨#[], #[.agg #[.int .i64 0, .int .i64 0, .int .i64 0, .slice none 0 0]], []⟩ 8 (by kernel_rfl) (by kernel_rfl) (by kernel_rfl) (by kernel_rfl)) ?_
  intro W base args ds gs before hval0 hW hcnd _
  have hval : ∀ (j : Nat) t v, Try.f3.params[j]? = some t → args[j]? = some v → Value.okWide Try.prog W .any base t v := hval0
  have hW' := hW
  obtain ⟨p, q, hA0, hV, rfl, hfz, hnd⟩ := hW
  have hA : DataW.TrodAll enc Try.prog W 0 (fun _ => true) true Try.f3.params.toList args.toList ds p := hA0
  rw [Try.params3] at hA hval
  obtain ⟨v0, vs0, d0, ds0, p0, q0, hargs, rfl, rfl, h0, r0⟩ := trodAll_cons hA
  obtain ⟨rfl, rfl, rfl⟩ := trodAll_nil r0
  obtain rfl : args = #[v0] := by cases args; simp_all
  obtain ⟨rfl, rfl⟩ := trodVars_none hV
  obtain ⟨c0, rfl, sz0⟩ := okWide_struct Try.underlying24 (hval 0 24 v0 rfl rfl)
  have k0 := h0
  obtain ⟨sy0, cv0, eq0, hC0⟩ := sys_of_trod sz0 h0
  obtain rfl : c0 = #[.int .i64 sy0.vars, .int .i64 sy0.sites, .int .i64 sy0.fields, cv0] := by simpa [SysV] using eq0
  have lt0 : ∀ x ∈ p0, x.block < W.heap.size := by obtain ⟨m, hm⟩ := k0; exact DataW.trod_lt m _ _ _ hm
  clear hA0 hval0
  refine (AndersenSolve_walk sy0 cv0 W hC0).mono fun e W' ⟨he, bel⟩ => ?_
  subst he
  exact ⟨_, rfl, _, _, _, [], _, [], hW', trodAll_mk1 (shut_bool Try.underlying4 _), (trodAll_cons_mk (Below.trod laidOut (by kernel_rfl) (of_decide_eq_true (by kernel_rfl)) k0 bel lt0) trodAll_mk0), rfl, bel.frame _, fun h => by cases h⟩

/-- The given statement. -/
theorem AndersenSolve_holds : Rows.AndersenSolveSaid :=
  OpenClaim.holds_of_wide 3 Try.f3 rfl rfl rfl rfl rfl rfl rfl ⟨rfl, rfl, rfl, rfl, rfl⟩ rfl rfl rfl rfl rfl (by kernel_rfl) Try.func3 (by kernel_rfl)
    (of_decide_eq_true (by kernel_rfl)) (by unfold Func.isWrapper; first | (rw [if_pos (by decide +kernel)]; kernel_rfl) | (rw [if_neg (by decide +kernel)]; exact ⟨rfl, rfl⟩))
    (fun os started H enc _ => AndersenSolve_lifted os started H enc)

end Go.Proofs.Ytdlfbkmjemamhaa
