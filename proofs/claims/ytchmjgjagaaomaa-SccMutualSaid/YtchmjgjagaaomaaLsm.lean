/- SccMutual: for any graph and two nodes, they are in one component exactly if each is reachable from the other one. -/
import Derived.Test.YtchmjgjagaaomaaSck
namespace Go.Proofs.Ytchmjgjagaaomaa
open Go.ChangeShapes Go.WideShapes Go.ChangeAt Go.RowKit Go.Dfl Go.Gra Go.Tj
set_option maxHeartbeats 3200000 in
set_option maxRecDepth 100000 in
theorem SccMutual_walk (g : G) (cv : Value) (v w : Int) (W : World) (h : Pairs W cv g.es) (_hv : -9223372036854775808 ≤ v ∧ v ≤ 9223372036854775807) (_hw : -9223372036854775808 ≤ w ∧ w ≤ 9223372036854775807) : Calls Try.prog 5 #[GV g cv, .int .i64 v, .int .i64 w] W (TruePost W) := by
  obtain ⟨ca, cc, rfl, -, -, -⟩ := pairs_rd h
  have hal := (Below.refl W.heap.size W).alloc (Nat.le_refl _) (.cells #[.int .i64 g.n, .slice ca g.es.length cc] 24)
  have H0 := Lib.hid (And.intro (GB.new h 24) hal)
  clear h hal _hv _hw
  obtain ⟨c0, c1⟩ := H0.out.1.box
  unfold GV
  go_enter Try.func5, Try.ntmps5
  by_cases h4 : g.es.length ≤ 400
  · have w0 : decide ((400 : Int) < (g.es.length : Int)) = false := decide_eq_false (by omega)
    clear h4
    go_wp2_with fail
    have hn := rNode_any g (.slice ca g.es.length cc) v _ H0.out.1.es
    unfold GV at hn
    refine hn.mono ?_
    rintro e W1 ⟨rfl, b1⟩
    have H1 := Lib.hid (And.intro (H0.out.1.below b1) (bel_trans H0.out.2 b1))
    clear hn b1 c0 c1
    obtain ⟨c0, c1⟩ := H1.out.1.box
    cases hv : nodeG g v
    · clear hv
      go_wp2_with fail
      refine (awake_any _).mono ?_
      rintro e Z ⟨rfl, b⟩
      have HB := Lib.hid (bel_trans H1.out.2 b)
      go_wp2_with fail
      go_ret
      exact ⟨rfl, HB.out⟩
    · have HN1 := Lib.hid hv
      clear hv
      go_wp2_with fail
      have hn := rNode_any g (.slice ca g.es.length cc) w _ H1.out.1.es
      unfold GV at hn
      refine hn.mono ?_
      rintro e W2 ⟨rfl, b1⟩
      have H2 := Lib.hid (And.intro (H1.out.1.below b1) (bel_trans H1.out.2 b1))
      clear hn b1 c0 c1
      obtain ⟨c0, c1⟩ := H2.out.1.box
      cases hw : nodeG g w
      · clear hw
        go_wp2_with fail
        refine (awake_any _).mono ?_
        rintro e Z ⟨rfl, b⟩
        have HB := Lib.hid (bel_trans H2.out.2 b)
        go_wp2_with fail
        go_ret
        exact ⟨rfl, HB.out⟩
      · obtain ⟨hvg, v0, v1⟩ := nodeG_iff.1 HN1.out
        obtain ⟨-, w0', w1⟩ := nodeG_iff.1 hw
        obtain ⟨v, rfl⟩ : ∃ x : Nat, v = (x : Int) := ⟨v.toNat, by omega⟩
        obtain ⟨w, rfl⟩ : ∃ x : Nat, w = (x : Int) := ⟨w.toNat, by omega⟩
        have hvn : v < g.n.toNat := by omega
        have hwn : w < g.n.toNat := by omega
        have hc := gCode_ok.2 hvg
        have HV := Lib.hid (And.intro hvg (And.intro hc (And.intro hvn hwn)))
        clear hw hvg hc v0 v1 w0' w1
        go_wp2_with fail
        have ho := gOf_any g (.slice ca g.es.length cc) _ H2.out.1.es
        unfold GV at ho
        refine ho.mono ?_
        rintro e W3 ⟨ls, of, ov, rfl, hcm, hoi, b3⟩
        have hpa : PartsAre g ls of := by
          rcases hcm with h9 | h9
          · exact absurd HV.out.2.1 h9.1
          · exact h9.2
        obtain ⟨oa, oc, rfl, -, -, -⟩ := hoi.out1 sIntG
        have hol : (of.length : Int) = g.n := by have := hpa.len; have := HV.out.1.n0; omega
        rw [hpa.len, HV.out.2.1]
        have h3n : ((g.n.toNat : Nat) : Int) = g.n := by have := HV.out.1.n0; omega
        have w3 : (((g.n.toNat : Nat) : Int) != g.n) = false := by simp [h3n]
        have H3 := Lib.hid (And.intro (H2.out.1.below b3) (And.intro (bel_trans H2.out.2 b3) (And.intro hpa hoi)))
        clear ho hcm hoi b3 hpa c0 c1 hol h3n
        obtain ⟨c0, c1⟩ := H3.out.1.box
        go_wp2_with fail
        have hal3 : Below W3.heap.size W3 (W3.alloc (.cells #[.int .i64 (v : Int)] 3)) := (Below.refl _ _).alloc (Nat.le_refl _) _
        have hd := rDistances_any g (.slice ca g.es.length cc) _ [(v : Int)] _ (H3.out.1.below hal3).es (ints_one W3 (v : Int) 3) HV.out.1
        unfold GV at hd
        refine hd.mono ?_
        rintro e W4 ⟨da, dc, rfl, hD, b3⟩
        have hb4 : Below W3.heap.size W3 W4 := hal3.trans (b3.mono hal3.size)
        obtain ⟨x0, x1, -⟩ := own_int hD (distL_len HV.out.1 _) HV.out.2.2.2
        clear hal3 hd hD b3 c0 c1
        obtain ⟨z, hz⟩ : ∃ z, z = nth (distL g [(v : Int)]) w := ⟨_, rfl⟩
        rw [← hz] at x0
        obtain ⟨b1, ht⟩ : ∃ b, decide (z ≥ 0) = b := ⟨_, rfl⟩
        have H4 := Lib.hid (And.intro (H3.out.1.below hb4) (And.intro (bel_trans H3.out.2.1 hb4) (H3.out.2.2.2.below hb4)))
        have HT1 : Hid (b1 = true ↔ Rt (eG g) v w) := Lib.hid (by rw [← dist_rt HV.out.1 HV.out.2.2.1 HV.out.2.2.2, ← hz, ← ht, decide_eq_true_eq])
        clear hb4 hz
        obtain ⟨c0, c1⟩ := H4.out.1.box
        go_upto_region 7 with fail
        clear x0 x1 ht
        go_wp2_with fail
        have hal3 : Below W4.heap.size W4 (W4.alloc (.cells #[.int .i64 (w : Int)] 3)) := (Below.refl _ _).alloc (Nat.le_refl _) _
        have hd := rDistances_any g (.slice ca g.es.length cc) _ [(w : Int)] _ (H4.out.1.below hal3).es (ints_one W4 (w : Int) 3) HV.out.1
        unfold GV at hd
        refine hd.mono ?_
        rintro e W5 ⟨da, dc, rfl, hD, b3⟩
        have hb4 : Below W4.heap.size W4 W5 := hal3.trans (b3.mono hal3.size)
        obtain ⟨x0, x1, -⟩ := own_int hD (distL_len HV.out.1 _) HV.out.2.2.1
        clear hal3 hd hD b3 c0 c1
        obtain ⟨z, hz⟩ : ∃ z, z = nth (distL g [(w : Int)]) v := ⟨_, rfl⟩
        rw [← hz] at x0
        obtain ⟨b2, ht⟩ : ∃ b, decide (z ≥ 0) = b := ⟨_, rfl⟩
        have H5 := Lib.hid (And.intro (H4.out.1.below hb4) (And.intro (bel_trans H4.out.2.1 hb4) (H4.out.2.2.below hb4)))
        have HT2 : Hid (b2 = true ↔ Rt (eG g) w v) := Lib.hid (by rw [← dist_rt HV.out.1 HV.out.2.2.2 HV.out.2.2.1, ← hz, ← ht, decide_eq_true_eq])
        clear hb4 hz
        go_upto_region 8 with fail
        clear x0 x1 ht
        obtain ⟨oa', oc', he, hom, hoi, hoc, hob⟩ := H5.out.2.2.out1 sIntG
        have hol := H3.out.2.2.1.len
        rw [hol] at he hom hoi hoc hob
        simp only [Value.slice.injEq] at he
        obtain ⟨rfl, -, rfl⟩ := he
        have iv := hoi .i64 (v : Int) (by omega) (by have := HV.out.2.2.1; omega)
        have iw := hoi .i64 (w : Int) (by omega) (by have := HV.out.2.2.2; omega)
        rw [Int.toNat_natCast] at iv iw
        have rv := hoc v HV.out.2.2.1
        have rw' := hoc w HV.out.2.2.2
        have hbl := hob v HV.out.2.2.1
        have hmu := H3.out.2.2.1.mut HV.out.2.2.1 HV.out.2.2.2
        generalize nth of v = x at *
        generalize nth of w = y at *
        have hxy : (x == y) = (b1 && b2) := by
          rw [Bool.eq_iff_iff, beq_iff_eq, hmu, Bool.and_eq_true, HT1.out, HT2.out]; rfl
        obtain ⟨Cls, hCls⟩ : ∃ Cls : World → Prop, ∀ Z', Cls Z' ↔ Below W5.heap.size W5 Z' := ⟨_, fun _ => Iff.rfl⟩
        have hC : Cls W5.drew := (hCls _).2 ((Below.refl _ _).drew)
        have k0 : ∀ q : Wd Cls, Below W5.heap.size W5 q.val := fun q => (hCls _).1 q.ok
        have e0 : ∀ q : Wd Cls, q.val.cell? ⟨blk oa, ofs oa + v, none⟩ = some (.int .i64 x) := fun q => ((k0 q).cell (p := ⟨blk oa, ofs oa + v, none⟩) hbl).trans rv
        have e1 : ∀ q : Wd Cls, q.val.cell? ⟨blk oa, ofs oa + w, none⟩ = some (.int .i64 y) := fun q => ((k0 q).cell (p := ⟨blk oa, ofs oa + w, none⟩) hbl).trans rw'
        have hB : ∀ q : Wd Cls, ∀ Z', Below q.val.heap.size q.val Z' → Cls Z' := fun q Z' hb => (hCls _).2 (bel_trans ((hCls _).1 q.ok) hb)
        have f4 : ∀ q : Wd Cls, Calls Try.prog 10 #[] q.val fun e w'' => e = .returned (.bool true) ∧ ∃ q : Wd Cls, w'' = q.val := fun q => (awake_any q.val).mono fun _ w' ⟨h1, h2⟩ => ⟨h1, ⟨w', hB q w' h2⟩, rfl⟩
        have F4 := Lib.hid f4
        have HK := Lib.hid k0
        have HCC := Lib.hid hC
        haveI hne : Nonempty (Wd Cls) := ⟨⟨_, hC⟩⟩
        clear f4 k0 hB hCls hC hom hoi hoc hob hbl hmu hol HT1 HT2 rv rw' w0 w3
        cases b1 <;> cases b2
        · have hq : (x == y) = false := hxy
          clear hxy
          refine wp_region_class Cls (by kernel_rfl) (by kernel_rfl) HCC.out ?_
          repeat (go_big_quiet_step ((go_at_call 10; exact F4.out _)))
          refine wpQuiet_nil ?_
          rintro _ ⟨q9, rfl⟩
          have H9 := Lib.hid (bel_trans H5.out.2.1 (HK.out q9))
          go_wp2_with fail
          go_ret
          exact ⟨rfl, H9.out⟩
        · have hq : (x == y) = false := hxy
          clear hxy
          refine wp_region_class Cls (by kernel_rfl) (by kernel_rfl) HCC.out ?_
          repeat (go_big_quiet_step ((go_at_call 10; exact F4.out _)))
          refine wpQuiet_nil ?_
          rintro _ ⟨q9, rfl⟩
          have H9 := Lib.hid (bel_trans H5.out.2.1 (HK.out q9))
          go_wp2_with fail
          go_ret
          exact ⟨rfl, H9.out⟩
        · have hq : (x == y) = false := hxy
          clear hxy
          refine wp_region_class Cls (by kernel_rfl) (by kernel_rfl) HCC.out ?_
          repeat (go_big_quiet_step ((go_at_call 10; exact F4.out _)))
          refine wpQuiet_nil ?_
          rintro _ ⟨q9, rfl⟩
          have H9 := Lib.hid (bel_trans H5.out.2.1 (HK.out q9))
          go_wp2_with fail
          go_ret
          exact ⟨rfl, H9.out⟩
        · have hq : (x == y) = true := hxy
          clear hxy
          refine wp_region_class Cls (by kernel_rfl) (by kernel_rfl) HCC.out ?_
          repeat (go_big_quiet_step ((go_at_call 10; exact F4.out _)))
          refine wpQuiet_nil ?_
          rintro _ ⟨q9, rfl⟩
          have H9 := Lib.hid (bel_trans H5.out.2.1 (HK.out q9))
          go_wp2_with fail
          go_ret
          exact ⟨rfl, H9.out⟩
  · have w0 : decide ((400 : Int) < (g.es.length : Int)) = true := decide_eq_true (by omega)
    clear h4
    go_wp2_with fail
    refine (awake_any _).mono ?_
    rintro e Z ⟨rfl, b⟩
    have HB := Lib.hid (bel_trans H0.out.2 b)
    go_wp2_with fail
    go_ret
    exact ⟨rfl, HB.out⟩
set_option maxRecDepth 100000 in
theorem SccMutual_lifted (os : Os) (started : os.Started) (H : Type) (enc : TypeId × Value → H) :
    ReturnsInHanded {} Try.checked os 5 .any (Rows.sccMutualSpec.pre6 enc Try.prog Try.f5 Rows.sccMutualRow.domain false) (Rows.sccMutualSpec.post enc Try.prog Try.f5 false true false false) := by
  refine returnsInHanded_of_change (C := Try.checked) own started (by kernel_rfl) Try.func5
    (ChangeSpec.witness6 (enc := enc) (C := Try.checked) false ⟨#[], #[.agg #[.int .i64 0, .slice none 0 0], .int .i64 0, .int .i64 0], []⟩ 8 (by kernel_rfl) (by kernel_rfl) (by kernel_rfl) (by kernel_rfl)) ?_
  intro W base args ds gs before hval0 hW hcnd _
  have hval : ∀ (j : Nat) t v, Try.f5.params[j]? = some t → args[j]? = some v → Value.okWide Try.prog W .any base t v := hval0
  have hW' := hW
  obtain ⟨p, q, hA0, hV, rfl, hfz, hnd⟩ := hW
  have hA : DataW.TrodAll enc Try.prog W 0 (fun _ => true) true Try.f5.params.toList args.toList ds p := hA0
  rw [Try.params5] at hA hval
  obtain ⟨v0, vs0, d0, ds0, p0, q0, hargs, rfl, rfl, h0, r0⟩ := trodAll_cons hA
  obtain ⟨v1, vs1, d1, ds1, p1, q1, rfl, rfl, rfl, h1, r1⟩ := trodAll_cons r0
  obtain ⟨v2, vs2, d2, ds2, p2, q2, rfl, rfl, rfl, h2, r2⟩ := trodAll_cons r1
  obtain ⟨rfl, rfl, rfl⟩ := trodAll_nil r2
  obtain rfl : args = #[v0, v1, v2] := by cases args; simp_all
  obtain ⟨rfl, rfl⟩ := trodVars_none hV
  obtain ⟨c0, rfl, sz0⟩ := okWide_struct Try.underlying24 (hval 0 24 v0 rfl rfl)
  have k0 := h0
  obtain ⟨g0, cv0, eq0, hC0⟩ := graph_of_trod sz0 h0
  obtain rfl : c0 = #[.int .i64 g0.n, cv0] := by simpa [GV] using eq0
  have lt0 : ∀ x ∈ p0, x.block < W.heap.size := by obtain ⟨m, hm⟩ := k0; exact DataW.trod_lt m _ _ _ hm
  obtain ⟨a1, rfl, rfl, rfl, w1⟩ := open_int Try.underlying3 (hval 1 3 v1 rfl rfl) h1
  have b1 := bounds_i64 w1
  obtain ⟨a2, rfl, rfl, rfl, w2⟩ := open_int Try.underlying3 (hval 2 3 v2 rfl rfl) h2
  have b2 := bounds_i64 w2
  clear hA0 hval0
  refine (SccMutual_walk g0 cv0 a1 a2 W hC0 b1 b2).mono fun e W' ⟨he, bel⟩ => ?_
  subst he
  exact ⟨_, rfl, _, _, _, [], _, [], hW', trodAll_mk1 (shut_bool Try.underlying4 _), (trodAll_cons_mk (Below.trod laidOut (by kernel_rfl) (of_decide_eq_true (by kernel_rfl)) k0 bel lt0) (trodAll_cons_mk (shut_int Try.underlying3 w1) (trodAll_cons_mk (shut_int Try.underlying3 w2) trodAll_mk0))), rfl, bel.frame _, fun h => by cases h⟩

/-- The given statement. -/
theorem SccMutual_holds : Rows.SccMutualSaid :=
  OpenClaim.holds_of_wide 5 Try.f5 rfl rfl rfl rfl rfl rfl rfl ⟨rfl, rfl, rfl, rfl, rfl⟩ rfl rfl rfl rfl rfl (by kernel_rfl) Try.func5 (by kernel_rfl)
    (of_decide_eq_true (by kernel_rfl)) (by unfold Func.isWrapper; first | (rw [if_pos (by decide +kernel)]; kernel_rfl) | (rw [if_neg (by decide +kernel)]; exact ⟨rfl, rfl⟩))
    (fun os started H enc _ => SccMutual_lifted os started H enc)

end Go.Proofs.Ytchmjgjagaaomaa
