/- SccCovers: for any graph, each node is in one component, and the components are ascending. -/
import Derived.Test.YtchmjgjagaaomaaScb
import Derived.Test.YtchmjgjagaaomaaGrc
namespace Go.Proofs.Ytchmjgjagaaomaa
open Go.ChangeShapes Go.WideShapes Go.ChangeAt Go.RowKit Go.Dfl Go.Gra Go.Tj
set_option maxHeartbeats 3200000 in
set_option maxRecDepth 100000 in
theorem SccCovers_walk (g : G) (cv : Value) (W : World) (h : Pairs W cv g.es) : Calls Try.prog 3 #[GV g cv] W (TruePost W) := by
  obtain ⟨ca, cc, rfl, -, -, -⟩ := pairs_rd h
  have hal := (Below.refl W.heap.size W).alloc (Nat.le_refl _) (.cells #[.int .i64 g.n, .slice ca g.es.length cc] 24)
  have H0 := Lib.hid (And.intro (GB.new h 24) hal)
  clear h hal
  obtain ⟨c0, c1⟩ := H0.out.1.box
  unfold GV
  go_enter Try.func3, Try.ntmps3
  by_cases h4 : g.es.length ≤ 400
  · have w0 : decide ((400 : Int) < (g.es.length : Int)) = false := decide_eq_false (by omega)
    by_cases h5 : g.n ≤ 400
    · have w1 : decide ((400 : Int) < g.n) = false := decide_eq_false (by omega)
      go_wp2_with fail
      have hc := rCheck_any g (.slice ca g.es.length cc) _ H0.out.1.es
      unfold GV at hc
      refine hc.mono ?_
      rintro e W1 ⟨rfl, b1⟩
      have H1 := Lib.hid (And.intro (H0.out.1.below b1) (bel_trans H0.out.2 b1))
      clear hc b1 c0 c1 w0 w1
      obtain ⟨c0, c1⟩ := H1.out.1.box
      by_cases hg : gCode g = 0
      · have q0 : (gCode g != 0) = false := by simpa using hg
        have hvg := gCode_ok.1 hg
        obtain ⟨n, hn⟩ : ∃ n : Nat, g.n = n := ⟨g.n.toNat, by have := hvg.n0; omega⟩
        have HV := Lib.hid (And.intro hvg (And.intro hg hn))
        have hn4 : n ≤ 400 := by omega
        rw [hn] at c0
        go_wp2_with fail
        have hc := gComps_any g (.slice ca g.es.length cc) _ H1.out.1.es
        unfold GV at hc
        rw [hn] at hc
        refine hc.mono ?_
        rintro e W2 ⟨ls, of, v, vs, rfl, hcm, hG, b2⟩
        obtain ⟨la, lc, rfl, hlm, -, -⟩ := rows_rd hG
        have hcov : Cov g ls := by
          rcases hcm with h9 | h9
          · exact absurd hg h9.1
          · exact h9.2.cov hvg
        have H2 := Lib.hid (And.intro (H1.out.1.below b2) (And.intro (bel_trans H1.out.2 b2) (And.intro hG hcov)))
        rw [HV.out.2.1]
        clear hc hcm hG b2 c0 c1 q0 hg hvg hcov h4 h5
        obtain ⟨c0, c1⟩ := H2.out.1.box
        rw [hn] at c0
        clear hn
        go_wp2_with (at_make; refine wp_make (f := Value.bool) false sBoolS rfl _ rfl _ _ rfl .i64 .i64 _ _ n rfl rfl rfl rfl (by omega) (by unfold maxLen; omega) ?_)
        intro sa sc W3 hrow hb3
        rw [← marksF_zero ls.flatten n] at hrow
        have H3 := Lib.hid (And.intro hrow hb3)
        clear hrow hb3 c0 c1
        go_wp2_with fail
        go_loopw [6, 7] (fun c x wr => ∃ i m : Nat, i ≤ ls.length ∧ x = .int .i64 (i : Int) ∧ c = .int .i64 (m : Int) ∧ Hid (m = offs ls i ∧ OwnB wr W2.heap.size (.slice sa n sc) (marksF ls.flatten n m) ∧ Below W2.heap.size W2 wr)) (fun _ x _ => ls.length - (intOf x).toNat)
        case atStart => exact ⟨0, 0, by omega, rfl, rfl, rfl, H3.out⟩
        case round =>
          obtain ⟨i, m, hi, rfl, rfl, hh⟩ := hrel
          have HL := Lib.hid hh.out
          clear hh
          by_cases hil : i < ls.length
          · have hili : (i : Int) < (ls.length : Int) := by omega
            go_wp2_with fail
            go_loopw [6, 8] (fun c x wr => ∃ k m : Nat, k ≤ (nth ls i).length ∧ x = .int .i64 (k : Int) ∧ c = .int .i64 (m : Int) ∧ Hid (m = offs ls i + k ∧ OwnB wr W2.heap.size (.slice sa n sc) (marksF ls.flatten n m) ∧ Below W2.heap.size W2 wr)) (fun _ x _ => (nth ls i).length - (intOf x).toNat)
            case atStart => exact ⟨0, m, by omega, rfl, rfl, by rw [HL.out.1]; rfl, HL.out.2⟩
            case round =>
              obtain ⟨k, m, hk, rfl, rfl, hh⟩ := hrel
              have HI := Lib.hid hh.out
              clear hh
              obtain ⟨la', lc', he, -, -, hr⟩ := rows_rd (H2.out.2.2.1.below HI.out.2.2)
              simp only [Value.slice.injEq] at he
              obtain ⟨rfl, -, rfl⟩ := he
              obtain ⟨i1, -, r1, hI⟩ := hr i hil
              obtain ⟨ra, rc, he1, hm1, hi1, hc1, -⟩ := hI.out1 sIntG
              rw [he1] at r1
              obtain ⟨c0, c1⟩ := (H2.out.1.below HI.out.2.2).box
              rw [HV.out.2.2] at c0
              obtain ⟨R, hR⟩ : ∃ R, R = nth ls i := ⟨_, rfl⟩
              rw [← hR] at r1 hm1 hi1 hc1 hk ⊢
              clear hr hI he1
              by_cases hkl : k < R.length
              · have hkli : (k : Int) < (R.length : Int) := by omega
                have x1 := hc1 k hkl
                have j1 := hi1 .i64 (k : Int) (by omega) (by omega)
                rw [Int.toNat_natCast] at j1
                obtain ⟨f1, f2⟩ := nth_flat hil (k := k) (by rw [← hR]; exact hkl)
                rw [← HI.out.1] at f1 f2
                have hmem := (H2.out.2.2.2.mem _).1 (nth_mem _ _ f1)
                obtain ⟨u, hu⟩ : ∃ u : Nat, nth R k = (u : Int) := ⟨(nth R k).toNat, by rw [hR, ← f2]; omega⟩
                have hun : u < n := by have := HV.out.2.2; rw [f2, ← hR, hu] at hmem; omega
                rw [← hR, hu] at f2
                obtain ⟨s0, s1, s2, s3⟩ := own_boolS HI.out.2.1 (marksF_len _ _ _) hun
                have hnm : ¬ (u : Int) ∈ ls.flatten.take m := fun h9 => by
                  obtain ⟨t, ht, he⟩ := mem_nth h9
                  rw [List.length_take] at ht
                  rw [nth_eq _ _ (by rw [List.length_take]; omega), List.getElem_take, ← f2, nth_eq _ _ f1] at he
                  have := (List.getElem_inj H2.out.2.2.2.nd).1 he
                  omega
                rw [marksF_nth hun, decide_eq_false hnm] at s0
                have hst := HI.out.2.1.set u true
                rw [marksF_step f1 f2 hun] at hst
                have hb4 := HI.out.2.2.setCell (p := ⟨blk sa, ofs sa + u, none⟩) s3 (.bool true)
                have HS := Lib.hid (And.intro (by rw [HI.out.1]; omega : m + 1 = offs ls i + (k + 1)) (And.intro hst hb4))
                have hml : m < 9223372036854775807 := by have := H2.out.2.2.2.len; have := HV.out.2.2; omega
                have hwm : wrap64 ((m : Int) + 1) = (m : Int) + 1 := by unfold wrap64; omega
                have y1 : decide ((u : Int) ≥ (n : Int)) = false := decide_eq_false (by omega)
                rw [hu] at x1
                clear f1 f2 hmem hnm hst hb4 s3 hml
                by_cases hk0 : 0 < k
                · have y0 : decide ((0 : Int) < (k : Int)) = true := decide_eq_true (by omega)
                  obtain ⟨j, hj⟩ : ∃ j, j = k - 1 := ⟨_, rfl⟩
                  have x2 := hc1 j (by omega)
                  have j2 := hi1 .i64 ((k : Int) - 1) (by omega) (by omega)
                  rw [show ((k : Int) - 1).toNat = j by omega] at j2
                  have hlt : nth R j < nth R k := by
                    have h9 := H2.out.2.2.2.asc i hil
                    rw [← hR] at h9
                    rw [nth_eq _ _ hkl, nth_eq _ _ (by omega)]
                    exact List.pairwise_iff_getElem.1 h9 j k (by omega) hkl (by omega)
                  rw [hu] at hlt
                  obtain ⟨y, hy⟩ : ∃ y, y = nth R j := ⟨_, rfl⟩
                  rw [← hy] at x2 hlt
                  have y3 : decide (y ≥ (u : Int)) = false := decide_eq_false (by omega)
                  clear hy hlt hj hc1 hi1 hu hR
                  go_wp2_with fail
                  go_roundw
                  case rel => exact ⟨k + 1, m + 1, by omega, by go_num, by go_num, HS.out⟩
                  case measure => simp [intOf]; omega
                · have y0 : decide ((0 : Int) < (k : Int)) = false := decide_eq_false (by omega)
                  clear hc1 hi1 hu hR
                  go_wp2_with fail
                  go_roundw
                  case rel => exact ⟨k + 1, m + 1, by omega, by go_num, by go_num, HS.out⟩
                  case measure => simp [intOf]; omega
              · obtain rfl : k = R.length := by omega
                have HS := Lib.hid (by rw [HI.out.1, offs_succ hil, hR] : m = offs ls (i + 1))
                clear hkl hc1 hi1 hR
                go_wp2_with fail
                go_roundw
                case rel => exact ⟨i + 1, m, by omega, by go_num, rfl, HS.out, HI.out.2⟩
                case measure => simp [intOf]; omega
          · obtain rfl : i = ls.length := by omega
            obtain rfl : m = n := by
              rw [HL.out.1, offs_all, H2.out.2.2.2.len]; have := HV.out.2.2; omega
            obtain ⟨c0, c1⟩ := (H2.out.1.below HL.out.2.2).box
            rw [HV.out.2.2] at c0
            have H9 := Lib.hid (bel_trans H2.out.2.1 HL.out.2.2)
            clear hil
            go_wp2_with fail
            refine (awake_any _).mono ?_
            rintro e Z ⟨rfl, b⟩
            have HB := Lib.hid (bel_trans H9.out b)
            go_wp2_with fail
            go_ret
            exact ⟨rfl, HB.out⟩
      · have q0 : (gCode g != 0) = true := by simpa using hg
        clear h4 h5 hg
        go_wp2_with fail
        refine (awake_any _).mono ?_
        rintro e Z ⟨rfl, b⟩
        have HB := Lib.hid (bel_trans H1.out.2 b)
        go_wp2_with fail
        go_ret
        exact ⟨rfl, HB.out⟩
    · have w1 : decide ((400 : Int) < g.n) = true := decide_eq_true (by omega)
      clear h4 h5
      go_wp2_with fail
      refine (awake_any _).mono ?_
      rintro e Z ⟨rfl, b⟩
      have HB := Lib.hid (bel_trans H0.out.2 b)
      go_wp2_with fail
      go_ret
      exact ⟨rfl, HB.out⟩
  · have w0 : decide ((400 : Int) < (g.es.length : Int)) = true := decide_eq_true (by omega)
    clear h4
    go_wp2_with fail
    refine (awake_any _).mono ?_
    rintro e Z ⟨rfl, b⟩
    have HB := Lib.hid (bel_trans H0.out.2 b)
    go_wp2_with fail
    go_ret
    exact ⟨rfl, HB.out⟩
set_option maxRecDepth 100000 in
theorem SccCovers_lifted (os : Os) (started : os.Started) (H : Type) (enc : TypeId × Value → H) :
    ReturnsInHanded {} Try.checked os 3 .any (Rows.sccCoversSpec.pre6 enc Try.prog Try.f3 Rows.sccCoversRow.domain false) (Rows.sccCoversSpec.post enc Try.prog Try.f3 false true false false) := by
  refine returnsInHanded_of_change (C := Try.checked) own started (by kernel_rfl) Try.func3
    (ChangeSpec.witness6 (enc := enc) (C := Try.checked) false ⟨#[], #[.agg #[.int .i64 0, .slice none 0 0]], []⟩ 8 (by kernel_rfl) (by kernel_rfl) (by kernel_rfl) (by kernel_rfl)) ?_
  intro W base args ds gs before hval0 hW hcnd _
  have hval : ∀ (j : Nat) t v, Try.f3.params[j]? = some t → args[j]? = some v → Value.okWide Try.prog W .any base t v := hval0
  have hW' := hW
  obtain ⟨p, q, hA0, hV, rfl, hfz, hnd⟩ := hW
  have hA : DataW.TrodAll enc Try.prog W 0 (fun _ => true) true Try.f3.params.toList args.toList ds p := hA0
  rw [Try.params3] at hA hval
  obtain ⟨v0, vs0, d0, ds0, p0, q0, hargs, rfl, rfl, h0, r0⟩ := trodAll_cons hA
  obtain ⟨rfl, rfl, rfl⟩ := trodAll_nil r0
  obtain rfl : args = #[v0] := by cases args; simp_all
  obtain ⟨rfl, rfl⟩ := trodVars_none hV
  obtain ⟨c0, rfl, sz0⟩ := okWide_struct Try.underlying24 (hval 0 24 v0 rfl rfl)
  have k0 := h0
  obtain ⟨g0, cv0, eq0, hC0⟩ := graph_of_trod sz0 h0
  obtain rfl : c0 = #[.int .i64 g0.n, cv0] := by simpa [GV] using eq0
  have lt0 : ∀ x ∈ p0, x.block < W.heap.size := by obtain ⟨m, hm⟩ := k0; exact DataW.trod_lt m _ _ _ hm
  clear hA0 hval0
  refine (SccCovers_walk g0 cv0 W hC0).mono fun e W' ⟨he, bel⟩ => ?_
  subst he
  exact ⟨_, rfl, _, _, _, [], _, [], hW', trodAll_mk1 (shut_bool Try.underlying4 _), (trodAll_cons_mk (Below.trod laidOut (by kernel_rfl) (of_decide_eq_true (by kernel_rfl)) k0 bel lt0) trodAll_mk0), rfl, bel.frame _, fun h => by cases h⟩

/-- The given statement. -/
theorem SccCovers_holds : Rows.SccCoversSaid :=
  OpenClaim.holds_of_wide 3 Try.f3 rfl rfl rfl rfl rfl rfl rfl ⟨rfl, rfl, rfl, rfl, rfl⟩ rfl rfl rfl rfl rfl (by kernel_rfl) Try.func3 (by kernel_rfl)
    (of_decide_eq_true (by kernel_rfl)) (by unfold Func.isWrapper; first | (rw [if_pos (by decide +kernel)]; kernel_rfl) | (rw [if_neg (by decide +kernel)]; exact ⟨rfl, rfl⟩))
    (fun os started H enc _ => SccCovers_lifted os started H enc)

end Go.Proofs.Ytchmjgjagaaomaa
