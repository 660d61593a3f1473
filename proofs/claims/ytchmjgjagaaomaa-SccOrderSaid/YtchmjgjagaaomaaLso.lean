/- SccOrder: for any graph, every edge leads to the same component or to an earlier one, and Condense is acyclic. -/
import Derived.Test.YtchmjgjagaaomaaGf
import Derived.Test.YtchmjgjagaaomaaSce
import Derived.Test.YtchmjgjagaaomaaGrc
namespace Go.Proofs.Ytchmjgjagaaomaa
open Go.ChangeShapes Go.WideShapes Go.ChangeAt Go.RowKit Go.Dfl Go.Gra Go.Tj
set_option maxHeartbeats 3200000 in
set_option maxRecDepth 100000 in
theorem SccOrder_walk (g : G) (cv : Value) (W : World) (h : Pairs W cv g.es) : Calls Try.prog 8 #[GV g cv] W (TruePost W) := by
  obtain ⟨ca, cc, rfl, -, hci, hcc⟩ := pairs_rd h
  have hal := (Below.refl W.heap.size W).alloc (Nat.le_refl _) (.cells #[.int .i64 g.n, .slice ca g.es.length cc] 24)
  have H0 := Lib.hid (And.intro (GB.new h 24) hal)
  have HCC := Lib.hid (And.intro hci hcc)
  clear h hal hcc hci
  obtain ⟨c0, c1⟩ := H0.out.1.box
  unfold GV
  go_enter Try.func8, Try.ntmps8
  by_cases h4 : g.es.length ≤ 400
  · have w0 : decide ((400 : Int) < (g.es.length : Int)) = false := decide_eq_false (by omega)
    by_cases h5 : g.n ≤ 400
    · have w1 : decide ((400 : Int) < g.n) = false := decide_eq_false (by omega)
      clear h5
      go_wp2_with fail
      have hi := gOf_any g (.slice ca g.es.length cc) _ H0.out.1.es
      unfold GV at hi
      refine hi.mono ?_
      rintro e W1 ⟨ls, of, ov, rfl, hcm, hoi, b1⟩
      obtain ⟨oa, oc, rfl, -, -, -, -⟩ := hoi.out1 sIntG
      have H1 := Lib.hid (And.intro (H0.out.1.below b1) (And.intro (bel_trans H0.out.2 b1) hoi))
      have HCM := Lib.hid hcm
      clear hi hcm hoi b1 c0 c1 w0 w1
      obtain ⟨c0, c1⟩ := H1.out.1.box
      go_wp2_with fail
      have hi := gCond_any g (.slice ca g.es.length cc) _ H1.out.1.es
      unfold GV at hi
      refine hi.mono ?_
      rintro e W2 ⟨ra, rc, r, code, rfl, hpr, hcd, b2⟩
      unfold GV
      have hal2 := (Below.refl W2.heap.size W2).alloc (Nat.le_refl _) (.cells #[.int .i64 r.n, .slice ra r.es.length rc] 24)
      have H2 := Lib.hid (And.intro ((H1.out.1.below b2).below hal2) (And.intro (bel_trans (bel_trans H1.out.2.1 b2) hal2) (And.intro (GB.new hpr 24) ((H1.out.2.2.below b2).below hal2))))
      have HCD := Lib.hid hcd
      clear hi hpr hcd hal2 b2 c0 c1 H1
      go_upto_region 5 with fail
      refine gen_code (fun Z => GB W.heap.size g (.slice ca g.es.length cc) Z ∧ Below W.heap.size W Z ∧ GB W2.heap.size r (.slice ra r.es.length rc) Z ∧ Ints Z (.slice oa of.length oc) of) H2.out ?_
      intro Z1 hz
      have HZ := Lib.hid hz
      clear hz H2
      obtain ⟨b1, hb1⟩ : ∃ b1, b1 = W2.heap.size := ⟨_, rfl⟩
      rw [← hb1] at HZ ⊢
      clear hb1
      obtain ⟨c0, c1⟩ := HZ.out.1.box
      go_wp2_with fail
      have hi := rCheck_any g (.slice ca g.es.length cc) _ HZ.out.1.es
      unfold GV at hi
      refine hi.mono ?_
      rintro e W3 ⟨rfl, b3⟩
      have H3 := Lib.hid (And.intro (HZ.out.1.below b3) (And.intro (bel_trans HZ.out.2.1 b3) (And.intro (HZ.out.2.2.1.below b3) (HZ.out.2.2.2.below b3))))
      clear hi b3 c0 c1 HZ
      obtain ⟨c0, c1⟩ := H3.out.1.box
      by_cases hg : gCode g = 0
      · obtain ⟨rfl, k1, k2⟩ := HCD.out.ok hg
        have hpa : PartsAre g ls of := by
          rcases HCM.out with h9 | h9
          · exact absurd hg h9.1
          · exact h9.2
        have hvg := gCode_ok.1 hg
        have hol : (of.length : Int) = g.n := by have := hpa.len; have := hvg.n0; omega
        have HV := Lib.hid (And.intro hvg (And.intro hpa (And.intro k1 k2)))
        have q0 : (gCode g != 0) = false := by simpa using hg
        have q1 : ((of.length : Int) != g.n) = false := by simp [hol]
        rw [hg]
        clear hg k1 k2 hpa hvg
        obtain ⟨d0, d1⟩ := H3.out.2.2.1.box
        go_wp2_with fail
        have hi := gCheck_any r (.slice ra r.es.length rc) _ H3.out.2.2.1.es
        unfold GV at hi
        refine hi.mono ?_
        rintro e W4 ⟨rfl, b4⟩
        rw [HV.out.2.2.1]
        have H4 := Lib.hid (And.intro (H3.out.1.below b4) (And.intro (bel_trans H3.out.2.1 b4) (And.intro (H3.out.2.2.1.below b4) (H3.out.2.2.2.below b4))))
        clear hi b4 c0 c1 d0 d1 H3 q0 q1
        obtain ⟨d0, d1⟩ := H4.out.2.2.1.box
        go_wp2_with fail
        have hi := gAcyclic_any r (.slice ra r.es.length rc) _ H4.out.2.2.1.es
        unfold GV at hi
        refine hi.mono ?_
        rintro e W5 ⟨b, rfl, hb, b5⟩
        obtain rfl : b = true := hb.2 (acy_down HV.out.2.2.1 HV.out.2.2.2)
        have H5 := Lib.hid (And.intro (H4.out.1.below b5) (And.intro (bel_trans H4.out.2.1 b5) (And.intro (H4.out.2.2.1.below b5) (H4.out.2.2.2.below b5))))
        clear hi hb b5 d0 d1 H4
        obtain ⟨c0, c1⟩ := H5.out.1.box
        go_wp2_with fail
        go_loopw [7] (fun x wr => ∃ i : Nat, i ≤ g.es.length ∧ x = .int .i64 (i : Int) ∧ Hid (Below W5.heap.size W5 wr)) (fun x _ => g.es.length - (intOf x).toNat)
        case atStart => exact ⟨0, by omega, rfl, Below.refl _ _⟩
        case round =>
          obtain ⟨i, hi, rfl, hh⟩ := hrel
          have HL := Lib.hid hh.out
          clear hh c0 c1
          obtain ⟨c0, c1⟩ := (H5.out.1.below HL.out).box
          by_cases hil : i < g.es.length
          · have hili : (i : Int) < (g.es.length : Int) := by omega
            obtain ⟨p0, p1⟩ := (HCC.out.2 i hil).2 wr (bel_trans H5.out.2.1 HL.out)
            have j1 := HCC.out.1 (i : Int) (by omega) (by omega)
            rw [Int.toNat_natCast] at j1
            have hmem := nth_mem g.es i hil
            have hin := HV.out.1.inn _ hmem
            have hdn := HV.out.2.1.down HV.out.1 hmem
            obtain ⟨e, he⟩ : ∃ e, e = nth g.es i := ⟨_, rfl⟩
            rw [← he] at p0 p1 hin hdn
            obtain ⟨e1, e2⟩ := e
            dsimp only at p0 p1 hin hdn
            obtain ⟨a, rfl⟩ : ∃ a : Nat, e1 = (a : Int) := ⟨e1.toNat, by omega⟩
            obtain ⟨b, rfl⟩ : ∃ b : Nat, e2 = (b : Int) := ⟨e2.toNat, by omega⟩
            rw [Int.toNat_natCast, Int.toNat_natCast] at hdn
            obtain ⟨oa', oc', he9, -, hoi, hoc, -⟩ := (H5.out.2.2.2.below HL.out).out1 sIntG
            simp only [Value.slice.injEq] at he9
            obtain ⟨rfl, -, rfl⟩ := he9
            have t1 := hoi .i64 (a : Int) (by omega) (by omega)
            have t2 := hoi .i64 (b : Int) (by omega) (by omega)
            rw [Int.toNat_natCast] at t1 t2
            have t3 := hoc a (by omega)
            have t4 := hoc b (by omega)
            obtain ⟨x, hx⟩ : ∃ x, x = nth of a := ⟨_, rfl⟩
            obtain ⟨y, hy⟩ : ∃ y, y = nth of b := ⟨_, rfl⟩
            rw [← hx] at t3 hdn
            rw [← hy] at t4 hdn
            have w1 : decide (x < y) = false := decide_eq_false (by omega)
            have HQ9 := Lib.hid (fun q : Nat => below_drewN HL.out q)
            clear hoi hoc hx hy hin hdn hmem he
            go_upto_region 12 with fail
            go_quiet (fail)
            go_wp2_with fail
            go_roundw
            case rel => exact ⟨i + 1, by omega, by go_num, HQ9.out _⟩
            case measure => simp [intOf]; omega
          · obtain rfl : i = g.es.length := by omega
            have H6 := Lib.hid (And.intro (bel_trans H5.out.2.1 HL.out) (H5.out.2.2.1.below HL.out))
            obtain ⟨W6, hW6⟩ : ∃ Z, Z = wr := ⟨_, rfl⟩
            have HB6 := Lib.hid (show Below W6.heap.size W6 wr by rw [hW6]; exact Below.refl _ _)
            have H6' := Lib.hid (show Below W.heap.size W W6 ∧ GB b1 r (.slice ra r.es.length rc) W6 by rw [hW6]; exact H6.out)
            obtain ⟨ra', rc', he9, hrm, hri, hrr⟩ := pairs_rd H6'.out.2.es
            simp only [Value.slice.injEq] at he9
            obtain ⟨rfl, -, rfl⟩ := he9
            have HRR := Lib.hid (And.intro hri hrr)
            clear hil hW6 hri hrr
            obtain ⟨d0, d1⟩ := (H6'.out.2.below HB6.out).box
            go_wp2_with fail
            clear c0 c1 H5 H6 HL
            go_loopw [8] (fun x wr => ∃ i : Nat, i ≤ r.es.length ∧ x = .int .i64 (i : Int) ∧ Hid (Below W6.heap.size W6 wr)) (fun x _ => r.es.length - (intOf x).toNat)
            case atStart => exact ⟨0, by omega, rfl, HB6.out⟩
            case round =>
              obtain ⟨i, hi, rfl, hh⟩ := hrel
              have HL := Lib.hid hh.out
              clear hh d0 d1
              obtain ⟨d0, d1⟩ := (H6'.out.2.below HL.out).box
              by_cases hil : i < r.es.length
              · have hili : (i : Int) < (r.es.length : Int) := by omega
                obtain ⟨p0, p1⟩ := (HRR.out.2 i hil).2 wr HL.out
                have j1 := HRR.out.1 (i : Int) (by omega) (by omega)
                rw [Int.toNat_natCast] at j1
                have hdn := HV.out.2.2.2 _ (nth_mem r.es i hil)
                obtain ⟨e, he⟩ : ∃ e, e = nth r.es i := ⟨_, rfl⟩
                rw [← he] at p0 p1 hdn
                obtain ⟨e1, e2⟩ := e
                dsimp only at p0 p1 hdn
                have w1 : decide (e1 ≤ e2) = false := decide_eq_false (by omega)
                have HQ9 := Lib.hid (fun q : Nat => below_drewN HL.out q)
                clear hdn he
                go_upto_region 17 with fail
                go_quiet (fail)
                go_wp2_with fail
                go_roundw
                case rel => exact ⟨i + 1, by omega, by go_num, HQ9.out _⟩
                case measure => simp [intOf]; omega
              · obtain rfl : i = r.es.length := by omega
                have H7 := Lib.hid (bel_trans H6'.out.1 HL.out)
                clear hil
                go_wp2_with fail
                refine (awake_any _).mono ?_
                rintro e Z ⟨rfl, b⟩
                have HB := Lib.hid (bel_trans H7.out b)
                go_wp2_with fail
                go_ret
                exact ⟨rfl, HB.out⟩
      · have hcf : code = gCode g := by
          rcases HCD.out with h9 | h9
          · exact h9.2.2
          · exact absurd h9.1 hg
        have hof : of = [] := by
          rcases HCM.out with h9 | h9
          · exact h9.2.2
          · exact absurd h9.1 hg
        subst hcf hof
        have q0 : (gCode g != 0) = true := by simpa using hg
        clear hg
        go_wp2_with fail
        have hi := rCheck_any g (.slice ca g.es.length cc) _ H3.out.1.es
        unfold GV at hi
        refine hi.mono ?_
        rintro e W4 ⟨rfl, b4⟩
        have H4 := Lib.hid (bel_trans H3.out.2.1 b4)
        clear hi b4 c0 c1
        have q1 : (gCode g == gCode g) = true := by simp
        go_wp2_with fail
        refine (awake_any _).mono ?_
        rintro e Z ⟨rfl, b⟩
        have HB := Lib.hid (bel_trans H4.out b)
        go_wp2_with fail
        go_ret
        exact ⟨rfl, HB.out⟩
    · have w1 : decide ((400 : Int) < g.n) = true := decide_eq_true (by omega)
      clear h4 h5
      go_wp2_with fail
      refine (awake_any _).mono ?_
      rintro e Z ⟨rfl, b⟩
      have HB := Lib.hid (bel_trans H0.out.2 b)
      go_wp2_with fail
      go_ret
      exact ⟨rfl, HB.out⟩
  · have w0 : decide ((400 : Int) < (g.es.length : Int)) = true := decide_eq_true (by omega)
    clear h4
    go_wp2_with fail
    refine (awake_any _).mono ?_
    rintro e Z ⟨rfl, b⟩
    have HB := Lib.hid (bel_trans H0.out.2 b)
    go_wp2_with fail
    go_ret
    exact ⟨rfl, HB.out⟩
set_option maxRecDepth 100000 in
theorem SccOrder_lifted (os : Os) (started : os.Started) (H : Type) (enc : TypeId × Value → H) :
    ReturnsInHanded {} Try.checked os 8 .any (Rows.sccOrderSpec.pre6 enc Try.prog Try.f8 Rows.sccOrderRow.domain false) (Rows.sccOrderSpec.post enc Try.prog Try.f8 false true false false) := by
  refine returnsInHanded_of_change (C := Try.checked) own started (by kernel_rfl) Try.func8
    (ChangeSpec.witness6 (enc := enc) (C := Try.checked) false ⟨#[], #[.agg #[.int .i64 0, .slice none 0 0]], []⟩ 8 (by kernel_rfl) (by kernel_rfl) (by kernel_rfl) (by kernel_rfl)) ?_
  intro W base args ds gs before hval0 hW hcnd _
  have hval : ∀ (j : Nat) t v, Try.f8.params[j]? = some t → args[j]? = some v → Value.okWide Try.prog W .any base t v := hval0
  have hW' := hW
  obtain ⟨p, q, hA0, hV, rfl, hfz, hnd⟩ := hW
  have hA : DataW.TrodAll enc Try.prog W 0 (fun _ => true) true Try.f8.params.toList args.toList ds p := hA0
  rw [Try.params8] at hA hval
  obtain ⟨v0, vs0, d0, ds0, p0, q0, hargs, rfl, rfl, h0, r0⟩ := trodAll_cons hA
  obtain ⟨rfl, rfl, rfl⟩ := trodAll_nil r0
  obtain rfl : args = #[v0] := by cases args; simp_all
  obtain ⟨rfl, rfl⟩ := trodVars_none hV
  obtain ⟨c0, rfl, sz0⟩ := okWide_struct Try.underlying24 (hval 0 24 v0 rfl rfl)
  have k0 := h0
  obtain ⟨g0, cv0, eq0, hC0⟩ := graph_of_trod sz0 h0
  obtain rfl : c0 = #[.int .i64 g0.n, cv0] := by simpa [GV] using eq0
  have lt0 : ∀ x ∈ p0, x.block < W.heap.size := by obtain ⟨m, hm⟩ := k0; exact DataW.trod_lt m _ _ _ hm
  clear hA0 hval0
  refine (SccOrder_walk g0 cv0 W hC0).mono fun e W' ⟨he, bel⟩ => ?_
  subst he
  exact ⟨_, rfl, _, _, _, [], _, [], hW', trodAll_mk1 (shut_bool Try.underlying4 _), (trodAll_cons_mk (Below.trod laidOut (by kernel_rfl) (of_decide_eq_true (by kernel_rfl)) k0 bel lt0) trodAll_mk0), rfl, bel.frame _, fun h => by cases h⟩

/-- The given statement. -/
theorem SccOrder_holds : Rows.SccOrderSaid :=
  OpenClaim.holds_of_wide 8 Try.f8 rfl rfl rfl rfl rfl rfl rfl ⟨rfl, rfl, rfl, rfl, rfl⟩ rfl rfl rfl rfl rfl (by kernel_rfl) Try.func8 (by kernel_rfl)
    (of_decide_eq_true (by kernel_rfl)) (by unfold Func.isWrapper; first | (rw [if_pos (by decide +kernel)]; kernel_rfl) | (rw [if_neg (by decide +kernel)]; exact ⟨rfl, rfl⟩))
    (fun os started H enc _ => SccOrder_lifted os started H enc)

end Go.Proofs.Ytchmjgjagaaomaa
