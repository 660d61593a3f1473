/- GraphMakes: for any number and any edges, Make returns the valid graph of them, or the error of the definition. -/
import Derived.Test.YtjapnkhgijhakaaGin
import Derived.Test.YtjapnkhgijhakaaGmk
namespace Go.Proofs.Ytjapnkhgijhakaa
open Go.ChangeShapes Go.WideShapes Go.ChangeAt Go.RowKit Go.Dfl Go.Gra

set_option maxHeartbeats 3200000 in
set_option maxRecDepth 100000 in
theorem GraphMakes_walk (n : Int) (v : Value) (es : List (Int × Int)) (W : World) (_hn : -9223372036854775808 ≤ n ∧ n ≤ 9223372036854775807) (h : Pairs W v es) (_hb : ∀ x ∈ es, (-9223372036854775808 ≤ x.1 ∧ x.1 ≤ 9223372036854775807) ∧ -9223372036854775808 ≤ x.2 ∧ x.2 ≤ 9223372036854775807) :
    Calls Try.prog 3 #[.int .i64 n, v] W (TruePost W) := by
  obtain ⟨ca, cc, rfl, -, -, -⟩ := pairs_rd h
  have H0 := Lib.hid h
  clear h _hb
  go_enter Try.func3, Try.ntmps3
  by_cases hq : 400 < es.length
  · have hq' : (400 : Int) < (es.length : Int) := by omega
    go_wp2_with fail
    refine (awake_any _).mono ?_
    rintro e Z ⟨rfl, b⟩
    have HB := Lib.hid b
    clear b
    go_wp2_with fail
    go_ret
    exact ⟨rfl, HB.out⟩
  · have hq' : ¬ (400 : Int) < (es.length : Int) := by omega
    go_wp2_with fail
    refine (gMake_any n _ es W H0.out (by omega)).mono ?_
    rintro e W1 ⟨a1, k1, g, code, rfl, p1, m1, b1⟩
    have H1 := Lib.hid (And.intro (GB.new p1 25) (And.intro m1 (And.intro (bel_trans b1 ((Below.refl W1.heap.size W1).alloc (Nat.le_refl _) (.cells #[.int .i64 g.n, .slice a1 g.es.length k1] 25))) (m1.code (by omega)))))
    clear p1 m1 b1
    unfold GV
    go_wp2_with fail
    refine (rMake_any n _ es _ (H0.out.below H1.out.2.2.1) (by omega)).mono ?_
    rintro e W2 ⟨a2, k2, g2, code2, rfl, p2, m2, b2⟩
    obtain ⟨rfl, rfl⟩ := H1.out.2.1.unique m2
    have hbb := (Below.refl W2.heap.size W2).alloc (Nat.le_refl _) (.cells #[.int .i64 g.n, .slice a2 g.es.length k2] 25)
    have H2 := Lib.hid (And.intro (GB.new p2 25) (And.intro ((H1.out.1.below b2).below hbb) (bel_trans (bel_trans H1.out.2.2.1 b2) hbb)))
    have hb1z := World.block_lt_of_cell? W2 ⟨W1.heap.size, 0, none⟩ (H1.out.1.below b2).box.1
    dsimp only at hb1z
    clear p2 m2 b2 hbb
    obtain ⟨c0, c1⟩ := H2.out.1.box
    obtain ⟨d0, d1⟩ := H2.out.2.1.box
    unfold GV
    generalize hbz : W1.heap.size = z1 at *
    clear hbz
    go_wp2_with fail
    have hsm := rSame_any g g _ _ _ H2.out.2.1.es H2.out.1.es
    unfold GV at hsm
    refine hsm.mono ?_
    rintro e W3 ⟨rfl, b3⟩
    rw [sameB_refl]
    obtain ⟨d0', d1'⟩ := H2.out.2.1.box.below b3
    have H3 := Lib.hid (And.intro (H2.out.2.1.below b3) (bel_trans H2.out.2.2 b3))
    clear hsm b3 c0 c1 d0 d1
    by_cases hc : code = 0
    · subst hc
      go_wp2_with fail
      have hck := gCheck_any g _ W3 H3.out.1.es
      unfold GV at hck
      refine hck.mono ?_
      rintro e W4 ⟨rfl, b4⟩
      rw [H1.out.2.2.2 (by first | rfl | trivial)]
      have H4 := Lib.hid (bel_trans H3.out.2 b4)
      clear hck b4
      go_wp2_with fail
      refine (awake_any _).mono ?_
      rintro e Z ⟨rfl, b⟩
      have HB := Lib.hid (bel_trans H4.out b)
      clear b
      go_wp2_with fail
      go_ret
      exact ⟨rfl, HB.out⟩
    · have q1 : (code != 0) = true := by simpa using hc
      clear hc
      go_wp2_with fail
      refine (awake_any _).mono ?_
      rintro e Z ⟨rfl, b⟩
      have HB := Lib.hid (bel_trans H3.out.2 b)
      clear b
      go_wp2_with fail
      go_ret
      exact ⟨rfl, HB.out⟩
set_option maxRecDepth 100000 in
theorem GraphMakes_lifted (os : Os) (started : os.Started) (H : Type) (enc : TypeId × Value → H) :
    ReturnsInHanded {} Try.checked os 3 .any (Rows.graphMakesSpec.pre6 enc Try.prog Try.f3 Rows.graphMakesRow.domain false) (Rows.graphMakesSpec.post enc Try.prog Try.f3 false true false false) := by
  refine returnsInHanded_of_change (C := Try.checked) own started (by kernel_rfl) Try.func3
    (ChangeSpec.witness6 (enc := enc) (C := Try.checked) false ⟨#[], #[.int .i64 0, .slice none 0 0], []⟩ 8 (by kernel_rfl) (by kernel_rfl) (by kernel_rfl) (by kernel_rfl)) ?_
  intro W base args ds gs before hval0 hW hcnd _
  have hval : ∀ (j : Nat) t v, Try.f3.params[j]? = some t → args[j]? = some v → Value.okWide Try.prog W .any base t v := hval0
  have hW' := hW
  obtain ⟨p, q, hA0, hV, rfl, hfz, hnd⟩ := hW
  have hA : DataW.TrodAll enc Try.prog W 0 (fun _ => true) true Try.f3.params.toList args.toList ds p := hA0
  rw [Try.params3] at hA hval
  obtain ⟨v0, vs0, d0, ds0, p0, q0, hargs, rfl, rfl, h0, r0⟩ := trodAll_cons hA
  obtain ⟨v1, vs1, d1, ds1, p1, q1, rfl, rfl, rfl, h1, r1⟩ := trodAll_cons r0
  obtain ⟨rfl, rfl, rfl⟩ := trodAll_nil r1
  obtain rfl : args = #[v0, v1] := by cases args; simp_all
  obtain ⟨rfl, rfl⟩ := trodVars_none hV
  obtain ⟨a0, rfl, rfl, rfl, w0⟩ := open_int Try.underlying3 (hval 0 3 v0 rfl rfl) h0
  have b0 := bounds_i64 w0
  obtain ⟨a1, len1, cap1, rfl⟩ := okWide_slice Try.underlying22 (hval 1 22 v1 rfl rfl)
  have k1 := h1
  have lt1 : ∀ x ∈ p1, x.block < W.heap.size := by obtain ⟨m, hm⟩ := k1; exact DataW.trod_lt m _ _ _ hm
  obtain ⟨l1, hl1, hI1, b1⟩ := pairs_of_trod Try.underlying22 Try.underlying39 (by kernel_rfl) rfl rfl rfl rfl Try.underlying3 (by kernel_rfl) h1
  clear hA0 hval0
  refine (GraphMakes_walk a0 _ l1 W b0 hI1 b1).mono fun e W' ⟨he, bel⟩ => ?_
  subst he
  exact ⟨_, rfl, _, _, _, [], _, [], hW', trodAll_mk1 (shut_bool Try.underlying4 _), (trodAll_cons_mk (shut_int Try.underlying3 w0) (trodAll_cons_mk (Below.trod laidOut (by kernel_rfl) (of_decide_eq_true (by kernel_rfl)) k1 bel lt1) trodAll_mk0)), rfl, bel.frame _, fun h => by cases h⟩

/-- The given statement. -/
theorem GraphMakes_holds : Rows.GraphMakesSaid :=
  OpenClaim.holds_of_wide 3 Try.f3 rfl rfl rfl rfl rfl rfl rfl ⟨rfl, rfl, rfl, rfl, rfl⟩ rfl rfl rfl rfl rfl (by kernel_rfl) Try.func3 (by kernel_rfl)
    (of_decide_eq_true (by kernel_rfl)) (by unfold Func.isWrapper; first | (rw [if_pos (by decide +kernel)]; kernel_rfl) | (rw [if_neg (by decide +kernel)]; exact ⟨rfl, rfl⟩))
    (fun os started H enc _ => GraphMakes_lifted os started H enc)

end Go.Proofs.Ytjapnkhgijhakaa
