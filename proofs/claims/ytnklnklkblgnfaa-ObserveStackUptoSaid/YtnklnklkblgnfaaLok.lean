/- ObserveStack: the pending calls of a step are as the chapter says, and each is the call of the next one. Condition: the argument is of bulk at most 1048576. -/
import Derived.Test.YtnklnklkblgnfaaObk
import Derived.Test.YtnklnklkblgnfaaObw
import Derived.JoinedCond
namespace Go.Proofs.Ytnklnklkblgnfaa
open Go.ChangeShapes Go.WideShapes Go.ChangeAt Go.RowKit Go.Dfl Go.Gra Go.Obs
theorem sum_ge {α : Type} (f : α → Nat) (h : ∀ x, 1 ≤ f x) : ∀ l : List α, l.length ≤ (l.map f).sum
  | [] => by simp
  | x :: l => by have := sum_ge f h l; have := h x; simp; omega
theorem wt_len (x : Ex) : x.o.length ≤ vExec.wt x := by
  have := sum_ge vOb.wt (fun o => by show 1 ≤ (vL vVal).wt o.vs + 5; omega) x.o
  show _ ≤ (x.o.map vOb.wt).sum + 1 + 2
  omega
/-- What the statement asks of each member. -/
theorem stk_at {o : List Ob} {step : Int} {i : Nat} (hi : i < (stk o step).length) : ∃ u : Nat, nth (stk o step) i = (u : Int) ∧ (u : Int) < step ∧ u < o.length ∧ (0 < i → ∃ z : Nat, nth (stk o step) (i - 1) = (z : Int) ∧ z < u ∧ (nth o u).c = (z : Int)) := by
  unfold stk at hi ⊢
  split at hi
  · rename_i hs
    rw [if_pos hs]
    obtain ⟨s, rfl⟩ : ∃ s : Nat, step = (s : Int) := ⟨step.toNat, by omega⟩
    rw [Int.toNat_natCast] at hi ⊢
    rw [List.length_map, List.length_reverse] at hi
    have key : ∀ k, k < (chain o s).length → nth ((chain o s).reverse.map fun x : Nat => (x : Int)) k = ((nth (chain o s) ((chain o s).length - 1 - k) : Nat) : Int) := fun k hk => by
      rw [nth_eq _ k (by simpa using hk), List.getElem_map, List.getElem_reverse, nth_eq (chain o s) _ (by omega)]
    obtain ⟨h1, h2⟩ := chain_at o s s (Nat.le_refl _) ((chain o s).length - 1 - i) (by omega)
    refine ⟨_, key i hi, by omega, by omega, fun h0 => ?_⟩
    have e1 : (chain o s).length - 1 - (i - 1) = (chain o s).length - 1 - i + 1 := by omega
    obtain ⟨h3, h4⟩ := h2 (by omega)
    exact ⟨_, by rw [key (i - 1) (by omega), e1], h3, h4⟩
  · simp at hi
set_option maxHeartbeats 3200000 in
set_option maxRecDepth 100000 in
theorem ObserveStack_walk (c : Array Value) (x : Ex) (step : Int) (W : World) (h : vExec.ok W c.toList x) (_hs : -9223372036854775808 ≤ step ∧ step ≤ 9223372036854775807) (hU : vExec.wt x ≤ 1048576) : Calls Try.prog 5 #[.agg c, .int .i64 step] W (TruePost W) := by
  obtain ⟨ov, he, hb, hO⟩ := h
  obtain rfl : c = #[.int .i64 x.e, ov] := by cases c; simp_all
  have hex : ExIn W ov x := ⟨hb, hO⟩
  have hn : x.o.length ≤ 1048576 := Nat.le_trans (wt_len x) hU
  have H0 := Lib.hid (ExB.new hex)
  obtain ⟨oa, oc, rfl, -, hidx, hcell⟩ := InS.ob H0.out.ex.2
  have HI := Lib.hid (And.intro hidx hcell)
  clear he hb hO hex hU hidx hcell _hs
  obtain ⟨c1, c0⟩ := H0.out.box
  go_enter Try.func5, Try.ntmps5
  go_wp2_with fail
  refine (stack_any x (.slice oa x.o.length oc) step _ H0.out.ex hn).mono ?_
  rintro e W1 ⟨a1, k1, rfl, hI1, b1⟩
  have H1 := Lib.hid (And.intro (H0.out.below b1) hI1)
  clear hI1 b1 c0 c1
  obtain ⟨c1, c0⟩ := H1.out.1.box
  go_wp2_with fail
  refine (rStack_any x (.slice oa x.o.length oc) step W1 H1.out.1.ex hn).mono ?_
  rintro e W2 ⟨a2, k2, rfl, hI2, b2⟩
  have H2 := Lib.hid (And.intro (H1.out.1.below b2) (And.intro (H1.out.2.below b2) hI2))
  clear hI2 b2 c0 c1
  go_wp2_with fail
  refine (sameInts_any _ _ _ _ W2 H2.out.2.1 H2.out.2.2).mono ?_
  rintro e W3 ⟨rfl, q3⟩
  rw [show eqI (stk x.o step) (stk x.o step) = true from decide_eq_true rfl]
  have H3 := Lib.hid (And.intro (H2.out.1.below (qt_below q3)) (H2.out.2.1.qt q3))
  have HB3 := Lib.hid (qt_below q3)
  have HC := Lib.hid (show ∀ i, i < x.o.length → ∀ Z, Below W3.heap.size W3 Z → Z.cell? ⟨blk oa, ofs oa + i * 5 + 3, none⟩ = some (.int .i64 (nth x.o i).c) from fun i hi Z hZ => by
    obtain ⟨oa', oc', he, -, -, hcs⟩ := InS.ob H3.out.1.ex.2
    simp only [Value.slice.injEq] at he
    obtain ⟨rfl, -, rfl⟩ := he
    obtain ⟨-, vv, -, -, h5⟩ := hcs i hi
    exact (h5 Z hZ).2.2.2.1)
  clear q3
  obtain ⟨l, hl⟩ : ∃ l, l = stk x.o step := ⟨_, rfl⟩
  have HAT := Lib.hid (show ∀ i, i < l.length → ∃ u : Nat, nth l i = (u : Int) ∧ (u : Int) < step ∧ u < x.o.length ∧ (0 < i → ∃ z : Nat, nth l (i - 1) = (z : Int) ∧ z < u ∧ (nth x.o u).c = (z : Int)) from fun i hi => by
    rw [hl] at hi ⊢; exact stk_at hi)
  have HL := Lib.hid (show Ints W3 (.slice a1 l.length k1) l by rw [hl]; exact H3.out.2)
  rw [← hl]
  clear hl
  go_wp2_with fail
  go_loopw [6] (fun y wr => ∃ i : Nat, i ≤ l.length ∧ y = .int .i64 (i : Int) ∧ Hid (Below W3.heap.size W3 wr)) (fun y _ => l.length - (intOf y).toNat)
  case atStart => exact ⟨0, by omega, rfl, Below.refl _ _⟩
  case round =>
    obtain ⟨i, hi, rfl, hh⟩ := hrel
    have HK := Lib.hid hh.out
    clear hh
    by_cases hil : i < l.length
    · have hili : (i : Int) < (l.length : Int) := by omega
      obtain ⟨u, hu, hus, huo, hprev⟩ := HAT.out i hil
      obtain ⟨a1', k1', he, hlm, hix, hlc, -⟩ := (HL.out.below HK.out).out1 sIntG
      simp only [Value.slice.injEq] at he
      obtain ⟨rfl, -, rfl⟩ := he
      have j1 := hix .i64 (i : Int) (by omega) (by omega)
      rw [Int.toNat_natCast] at j1
      have x1 := hlc i hil
      rw [hu] at x1
      have o3 := HC.out u huo wr HK.out
      have j3 := HI.out.1 (u : Int) (by omega) (by omega)
      rw [Int.toNat_natCast] at j3
      obtain ⟨c1, c0⟩ := (H3.out.1.below HK.out).box
      have w0 : decide ((u : Int) < 0) = false := decide_eq_false (by omega)
      have w1 : decide ((u : Int) ≥ step) = false := decide_eq_false (by omega)
      have HQ9 := Lib.hid (fun q : Nat => below_drewN HK.out q)
      by_cases h0 : 0 < i
      · have w2 : decide ((i : Int) > 0) = true := decide_eq_true (by omega)
        obtain ⟨z, hz, hzu, hcz⟩ := hprev h0
        obtain ⟨j, hj⟩ : ∃ j, j = i - 1 := ⟨_, rfl⟩
        rw [← hj] at hz
        have j2 := hix .i64 (j : Int) (by omega) (by omega)
        rw [Int.toNat_natCast] at j2
        have x2 := hlc j (by omega)
        rw [hz] at x2
        rw [hcz] at o3
        have hw9 : IntKind.i64.wrap ((i : Int) - 1) = (j : Int) := by rw [IntKind.wrap_i64]; omega
        have w3 : decide ((z : Int) ≥ (u : Int)) = false := decide_eq_false (by omega)
        have w3n : decide (u ≤ z) = false := decide_eq_false (by omega)
        have w4 : ((z : Int) != (z : Int)) = false := by simp
        clear hu hus hprev hix hlc hz hcz hj hzu
        go_upto_region 7 with fail
        go_quiet (fail)
        go_wp2_with fail
        go_roundw
        case rel => exact ⟨i + 1, by omega, by go_num, HQ9.out _⟩
        case measure => simp [intOf]; omega
      · have w2 : decide ((i : Int) > 0) = false := decide_eq_false (by omega)
        clear hu hus hprev hix hlc
        go_upto_region 7 with fail
        go_quiet (fail)
        go_wp2_with fail
        go_roundw
        case rel => exact ⟨i + 1, by omega, by go_num, HQ9.out _⟩
        case measure => simp [intOf]; omega
    · obtain rfl : i = l.length := by omega
      have HE := Lib.hid (bel_trans H3.out.1.bel HK.out)
      clear hil
      go_wp2_with fail
      refine (awake_any _).mono ?_
      rintro e Z ⟨rfl, b⟩
      have HB := Lib.hid (bel_trans HE.out b)
      go_wp2_with fail
      go_ret
      exact ⟨rfl, HB.out⟩
set_option maxRecDepth 100000 in
theorem ObserveStack_lifted (os : Os) (started : os.Started) (H : Type) (enc : TypeId × Value → H) (F : Stop.Interp) :
    ReturnsInHanded {} Try.checked os 5 .any ((Rows.OpenSpec.upto Rows.observeStackSpec).pre6 enc Try.prog Try.f5 Rows.observeStackUptoRow.domain false) (((Rows.OpenSpec.upto Rows.observeStackSpec).at F).post enc Try.prog Try.f5 false true false false) := by
  refine returnsInHanded_of_cond (C := Try.checked) (s := Rows.OpenSpec.upto Rows.observeStackSpec) (k := Rows.uptoSmall) rfl own started (by kernel_rfl) Try.func5
    (OpenSpec.witness (enc := enc) (C := Try.checked) (s := Rows.OpenSpec.upto Rows.observeStackSpec) (k := Rows.uptoSmall) rfl false ⟨#[], #[.agg #[.int .i64 0, .slice none 0 0], .int .i64 0], []⟩ 8 (by kernel_rfl) (by kernel_rfl) (by kernel_rfl)
      (x := ([.agg [.lit (.int .i64 0), .nil], .lit (.int .i64 0)], [], [])) (by kernel_rfl) rfl (by kernel_rfl)) ?_
  intro W base args ds gs before hval0 hW _ hk _
  have hval : ∀ (j : Nat) t v, Try.f5.params[j]? = some t → args[j]? = some v → Value.okWide Try.prog W .any base t v := hval0
  have hW' := hW
  obtain ⟨p, q, hA0, hV, rfl, hfz, hnd⟩ := hW
  have hA : DataW.TrodAll enc Try.prog W 0 (fun _ => true) true Try.f5.params.toList args.toList ds p := hA0
  rw [Try.params5] at hA hval
  obtain ⟨v0, vs0, d0, ds0, p0, q0, hargs, rfl, rfl, h0, r0⟩ := trodAll_cons hA
  obtain ⟨v1, vs1, d1, ds1, p1, q1, rfl, rfl, rfl, h1, r1⟩ := trodAll_cons r0
  obtain ⟨rfl, rfl, rfl⟩ := trodAll_nil r1
  obtain rfl : args = #[v0, v1] := by cases args; simp_all
  obtain ⟨rfl, rfl⟩ := trodVars_none hV
  obtain ⟨c0, rfl, sz0⟩ := okWide_struct Try.underlying24 (hval 0 24 v0 rfl rfl)
  have k0 := h0
  obtain ⟨x0, o0, u0⟩ := Opens.agg opens_exec h0
  have lt0 : ∀ x ∈ p0, x.block < W.heap.size := by obtain ⟨m, hm⟩ := k0; exact DataW.trod_lt m _ _ _ hm
  obtain ⟨a1, rfl, rfl, rfl, w1⟩ := open_int Try.underlying3 (hval 1 3 v1 rfl rfl) h1
  have b1 := bounds_i64 w1
  have hb : Rows.uptoBulkAll ([_, _] ++ []) ≤ 1048576 := of_decide_eq_true hk
  simp only [List.append_nil, Rows.uptoBulkAll] at hb
  clear hA0 hval0
  refine (ObserveStack_walk c0 x0 a1 W o0 b1 (by omega)).mono fun e W' ⟨he, bel⟩ => ?_
  subst he
  exact ⟨_, rfl, _, _, _, [], _, [], hW', trodAll_mk1 (shut_bool Try.underlying4 _), (trodAll_cons_mk (Below.trod laidOut (by kernel_rfl) (of_decide_eq_true (by kernel_rfl)) k0 bel lt0) (trodAll_cons_mk (shut_int Try.underlying3 w1) trodAll_mk0)), rfl, bel.frame _, fun h => by cases h⟩

/-- The given statement, in its second form. -/
theorem ObserveStack_holds : Rows.ObserveStackUptoSaid :=
  OpenClaim.holds_of_cond 5 Try.f5 rfl rfl rfl rfl rfl rfl rfl ⟨rfl, rfl, rfl, rfl, rfl⟩ rfl rfl rfl rfl rfl (by kernel_rfl) Try.func5 (by kernel_rfl)
    (of_decide_eq_true (by kernel_rfl)) (by unfold Func.isWrapper; first | (rw [if_pos (by decide +kernel)]; kernel_rfl) | (rw [if_neg (by decide +kernel)]; exact ⟨rfl, rfl⟩))
    (fun os started H enc _ F => ObserveStack_lifted os started H enc F)

end Go.Proofs.Ytnklnklkblgnfaa
