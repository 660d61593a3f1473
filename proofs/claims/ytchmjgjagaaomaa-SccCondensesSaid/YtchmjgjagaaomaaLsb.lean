/- SccCondenses: for any small graph and any number, Condense, Recursive and Acyclic are as by definition. -/
import Derived.Test.YtchmjgjagaaomaaLsw
import Derived.Test.YtchmjgjagaaomaaSce
import Derived.Test.YtchmjgjagaaomaaRce
import Derived.Test.YtchmjgjagaaomaaRcf
import Derived.Test.YtchmjgjagaaomaaGsm
namespace Go.Proofs.Ytchmjgjagaaomaa
open Go.ChangeShapes Go.WideShapes Go.ChangeAt Go.RowKit Go.Dfl Go.Gra Go.Tj
set_option maxHeartbeats 3200000 in
set_option maxRecDepth 100000 in
theorem SccCondenses_walk (g : G) (cv : Value) (v : Int) (W : World) (h : Pairs W cv g.es) (_hv : -9223372036854775808 ≤ v ∧ v ≤ 9223372036854775807) : Calls Try.prog 7 #[GV g cv, .int .i64 v] W (TruePost W) := by
  obtain ⟨ca, cc, rfl, -, -, -⟩ := pairs_rd h
  have hal := (Below.refl W.heap.size W).alloc (Nat.le_refl _) (.cells #[.int .i64 g.n, .slice ca g.es.length cc] 24)
  have H0 := Lib.hid (And.intro (GB.new h 24) hal)
  clear h hal _hv
  obtain ⟨c0, c1⟩ := H0.out.1.box
  unfold GV
  go_enter Try.func7, Try.ntmps7
  go_wp2_with fail
  have hsm := small_any g (.slice ca g.es.length cc) _ H0.out.1.es
  unfold GV at hsm
  refine hsm.mono ?_
  rintro e W1 ⟨rfl, b1⟩
  have H1 := Lib.hid (And.intro (H0.out.1.below b1) (bel_trans H0.out.2 b1))
  clear hsm b1 c0 c1
  obtain ⟨c0, c1⟩ := H1.out.1.box
  cases hs : smS g
  · clear hs c0 c1
    go_wp2_with fail
    refine (awake_any _).mono ?_
    rintro e Z ⟨rfl, b⟩
    have HB := Lib.hid (bel_trans H1.out.2 b)
    go_wp2_with fail
    go_ret
    exact ⟨rfl, HB.out⟩
  clear hs
  go_wp2_with fail
  have hi := gCond_any g (.slice ca g.es.length cc) _ H1.out.1.es
  unfold GV at hi
  refine hi.mono ?_
  rintro e W2 ⟨ra, rc, r, code, rfl, hpr, hcd, b2⟩
  unfold GV
  have hal2 := (Below.refl W2.heap.size W2).alloc (Nat.le_refl _) (.cells #[.int .i64 r.n, .slice ra r.es.length rc] 24)
  have H2 := Lib.hid (And.intro ((H1.out.1.below b2).below hal2) (And.intro (bel_trans (bel_trans H1.out.2 b2) hal2) (And.intro (GB.new hpr 24) (And.intro hal2.size hcd))))
  clear hi hpr hcd hal2 b2 c0 c1
  go_upto_region 4 with fail
  refine gen_code (fun Z => GB W.heap.size g (.slice ca g.es.length cc) Z ∧ Below W.heap.size W Z ∧ GB W2.heap.size r (.slice ra r.es.length rc) Z ∧ W2.heap.size ≤ Z.heap.size) ⟨H2.out.1, H2.out.2.1, H2.out.2.2.1, H2.out.2.2.2.1⟩ ?_
  intro Z1 hz
  have HZ := Lib.hid hz
  have HC1 := Lib.hid H2.out.2.2.2.2
  clear hz H2
  obtain ⟨b1, hb1⟩ : ∃ b1, b1 = W2.heap.size := ⟨_, rfl⟩
  rw [← hb1] at HZ ⊢
  clear hb1
  obtain ⟨c0, c1⟩ := HZ.out.1.box
  go_wp2_with fail
  have hi := rCond_any g (.slice ca g.es.length cc) _ HZ.out.1.es
  unfold GV at hi
  refine hi.mono ?_
  rintro e W3 ⟨sa, sc, s, code2, rfl, hpr, hcd, b2⟩
  obtain ⟨rfl, rfl⟩ := hcd.unique HC1.out
  unfold GV
  have hal2 := (Below.refl W3.heap.size W3).alloc (Nat.le_refl _) (.cells #[.int .i64 s.n, .slice sa s.es.length sc] 24)
  have H3 := Lib.hid (And.intro ((HZ.out.1.below b2).below hal2) (And.intro ((HZ.out.2.2.1.below b2).below hal2) (And.intro (GB.new hpr 24) (bel_trans (bel_trans HZ.out.2.1 b2) hal2))))
  clear hi hpr hcd hal2 b2 c0 c1 HC1 HZ
  go_upto_region 5 with fail
  refine gen_code (fun Z => GB W.heap.size g (.slice ca g.es.length cc) Z ∧ GB b1 s (.slice ra s.es.length rc) Z ∧ GB W3.heap.size s (.slice sa s.es.length sc) Z ∧ Below W.heap.size W Z) ⟨H3.out.1, H3.out.2.1, H3.out.2.2.1, H3.out.2.2.2⟩ ?_
  intro Z2 hz
  clear H3
  obtain ⟨b2, hb2⟩ : ∃ b2, b2 = W3.heap.size := ⟨_, rfl⟩
  rw [← hb2] at hz ⊢
  clear hb2
  have H3 : Hid (GB W.heap.size g (.slice ca g.es.length cc) Z2 ∧ GB b1 s (.slice ra s.es.length rc) Z2 ∧ GB b2 s (.slice sa s.es.length sc) Z2 ∧ Below W.heap.size W Z2 ∧ True) := Lib.hid ⟨hz.1, hz.2.1, hz.2.2.1, hz.2.2.2, trivial⟩
  clear hz
  have w0 : (code2 == code2) = true := by simp
  obtain ⟨Cls, hCls⟩ : ∃ Cls : World → Prop, ∀ Z', Cls Z' ↔ Below Z2.heap.size Z2 Z' := ⟨_, fun _ => Iff.rfl⟩
  have hC : Cls Z2.drew := (hCls _).2 ((Below.refl _ _).drew)
  have k0 : ∀ q : Wd Cls, Below Z2.heap.size Z2 q.val := fun q => (hCls _).1 q.ok
  have e0 : ∀ q : Wd Cls, q.val.cell? ⟨W.heap.size, 0, none⟩ = some (.int .i64 g.n) := fun q => ((H3.out.1.below (k0 q)).box).1
  have e1 : ∀ q : Wd Cls, q.val.cell? ⟨W.heap.size, 1, none⟩ = some (.slice ca g.es.length cc) := fun q => ((H3.out.1.below (k0 q)).box).2
  have e2 : ∀ q : Wd Cls, q.val.cell? ⟨b1, 0, none⟩ = some (.int .i64 s.n) := fun q => ((H3.out.2.1.below (k0 q)).box).1
  have e3 : ∀ q : Wd Cls, q.val.cell? ⟨b1, 1, none⟩ = some (.slice ra s.es.length rc) := fun q => ((H3.out.2.1.below (k0 q)).box).2
  have e4 : ∀ q : Wd Cls, q.val.cell? ⟨b2, 0, none⟩ = some (.int .i64 s.n) := fun q => ((H3.out.2.2.1.below (k0 q)).box).1
  have e5 : ∀ q : Wd Cls, q.val.cell? ⟨b2, 1, none⟩ = some (.slice sa s.es.length sc) := fun q => ((H3.out.2.2.1.below (k0 q)).box).2
  have hB : ∀ q : Wd Cls, ∀ Z', Below q.val.heap.size q.val Z' → Cls Z' := fun q Z' hb => (hCls _).2 (bel_trans ((hCls _).1 q.ok) hb)
  obtain ⟨rb, hrb⟩ : ∃ rb, rb = recB g v := ⟨_, rfl⟩
  obtain ⟨ab, hab⟩ : ∃ b : Bool, (b = true ↔ Acy g) := by
    by_cases h9 : Acy g
    · exact ⟨true, by simp [h9]⟩
    · exact ⟨false, by simp [h9]⟩
  have hacy : ∀ b : Bool, (b = true ↔ Acy g) → b = ab := fun b hb => by rw [Bool.eq_iff_iff, hb, hab]
  have f1 : ∀ q : Wd Cls, Calls Try.prog 25 #[.agg #[.int .i64 s.n, .slice ra s.es.length rc], .agg #[.int .i64 s.n, .slice sa s.es.length sc]] q.val fun e w'' => e = .returned (.bool true) ∧ ∃ q : Wd Cls, w'' = q.val := fun q => class_bel (hB q) ((rSame_any s s (.slice ra s.es.length rc) (.slice sa s.es.length sc) q.val (H3.out.2.1.below (k0 q)).es (H3.out.2.2.1.below (k0 q)).es).mono fun _ _ ⟨h1, h2⟩ => ⟨by rw [h1]; simp [sameB], h2⟩)
  have f2 : ∀ q : Wd Cls, Calls Try.prog 26 #[.agg #[.int .i64 g.n, .slice ca g.es.length cc], .int .i64 v] q.val fun e w'' => e = .returned (.bool rb) ∧ ∃ q : Wd Cls, w'' = q.val := fun q => class_bel (hB q) (by have h9 := gRecursive_any g (.slice ca g.es.length cc) v q.val (H3.out.1.below (k0 q)).es; rw [← hrb] at h9; exact h9)
  have f3 : ∀ q : Wd Cls, Calls Try.prog 27 #[.agg #[.int .i64 g.n, .slice ca g.es.length cc], .int .i64 v] q.val fun e w'' => e = .returned (.bool rb) ∧ ∃ q : Wd Cls, w'' = q.val := fun q => class_bel (hB q) (by have h9 := rRecursive_any g (.slice ca g.es.length cc) v q.val (H3.out.1.below (k0 q)).es; rw [← hrb] at h9; exact h9)
  have f4 : ∀ q : Wd Cls, Calls Try.prog 12 #[.agg #[.int .i64 g.n, .slice ca g.es.length cc]] q.val fun e w'' => e = .returned (.bool ab) ∧ ∃ q : Wd Cls, w'' = q.val := fun q => class_bel (hB q) ((gAcyclic_any g (.slice ca g.es.length cc) q.val (H3.out.1.below (k0 q)).es).mono fun _ _ ⟨b, h1, h2, h3⟩ => ⟨by rw [h1, hacy b h2], h3⟩)
  have f5 : ∀ q : Wd Cls, Calls Try.prog 28 #[.agg #[.int .i64 g.n, .slice ca g.es.length cc]] q.val fun e w'' => e = .returned (.bool ab) ∧ ∃ q : Wd Cls, w'' = q.val := fun q => class_bel (hB q) ((rAcyclic_any g (.slice ca g.es.length cc) q.val (H3.out.1.below (k0 q)).es).mono fun _ _ ⟨b, h1, h2, h3⟩ => ⟨by rw [h1, hacy b h2], h3⟩)
  have f6 : ∀ q : Wd Cls, Calls Try.prog 10 #[] q.val fun e w'' => e = .returned (.bool true) ∧ ∃ q : Wd Cls, w'' = q.val := fun q => (awake_any q.val).mono fun _ w' ⟨h1, h2⟩ => ⟨h1, ⟨w', hB q w' h2⟩, rfl⟩
  have F1 := Lib.hid f1
  have F2 := Lib.hid f2
  have F3 := Lib.hid f3
  have F4 := Lib.hid f4
  have F5 := Lib.hid f5
  have F6 := Lib.hid f6
  have HK := Lib.hid k0
  have HCC := Lib.hid hC
  haveI hne : Nonempty (Wd Cls) := ⟨⟨_, hC⟩⟩
  clear f1 f2 f3 f4 f5 f6 k0 hB hCls hC hrb hab hacy
  cases rb <;> cases ab
  · refine wp_region_class Cls (by kernel_rfl) (by kernel_rfl) HCC.out ?_
    repeat (go_big_quiet_step (first | (go_at_call 25; exact F1.out _) | (go_at_call 26; exact F2.out _) | (go_at_call 27; exact F3.out _) | (go_at_call 12; exact F4.out _) | (go_at_call 28; exact F5.out _) | (go_at_call 10; exact F6.out _)))
    refine wpQuiet_nil ?_
    rintro _ ⟨q9, rfl⟩
    have H9 := Lib.hid (bel_trans H3.out.2.2.2.1 (HK.out q9))
    go_wp2_with fail
    go_ret
    exact ⟨rfl, H9.out⟩
  · refine wp_region_class Cls (by kernel_rfl) (by kernel_rfl) HCC.out ?_
    repeat (go_big_quiet_step (first | (go_at_call 25; exact F1.out _) | (go_at_call 26; exact F2.out _) | (go_at_call 27; exact F3.out _) | (go_at_call 12; exact F4.out _) | (go_at_call 28; exact F5.out _) | (go_at_call 10; exact F6.out _)))
    refine wpQuiet_nil ?_
    rintro _ ⟨q9, rfl⟩
    have H9 := Lib.hid (bel_trans H3.out.2.2.2.1 (HK.out q9))
    go_wp2_with fail
    go_ret
    exact ⟨rfl, H9.out⟩
  · refine wp_region_class Cls (by kernel_rfl) (by kernel_rfl) HCC.out ?_
    repeat (go_big_quiet_step (first | (go_at_call 25; exact F1.out _) | (go_at_call 26; exact F2.out _) | (go_at_call 27; exact F3.out _) | (go_at_call 12; exact F4.out _) | (go_at_call 28; exact F5.out _) | (go_at_call 10; exact F6.out _)))
    refine wpQuiet_nil ?_
    rintro _ ⟨q9, rfl⟩
    have H9 := Lib.hid (bel_trans H3.out.2.2.2.1 (HK.out q9))
    go_wp2_with fail
    go_ret
    exact ⟨rfl, H9.out⟩
  · refine wp_region_class Cls (by kernel_rfl) (by kernel_rfl) HCC.out ?_
    repeat (go_big_quiet_step (first | (go_at_call 25; exact F1.out _) | (go_at_call 26; exact F2.out _) | (go_at_call 27; exact F3.out _) | (go_at_call 12; exact F4.out _) | (go_at_call 28; exact F5.out _) | (go_at_call 10; exact F6.out _)))
    refine wpQuiet_nil ?_
    rintro _ ⟨q9, rfl⟩
    have H9 := Lib.hid (bel_trans H3.out.2.2.2.1 (HK.out q9))
    go_wp2_with fail
    go_ret
    exact ⟨rfl, H9.out⟩
set_option maxRecDepth 100000 in
theorem SccCondenses_lifted (os : Os) (started : os.Started) (H : Type) (enc : TypeId × Value → H) :
    ReturnsInHanded {} Try.checked os 7 .any (Rows.sccCondensesSpec.pre6 enc Try.prog Try.f7 Rows.sccCondensesRow.domain false) (Rows.sccCondensesSpec.post enc Try.prog Try.f7 false true false false) := by
  refine returnsInHanded_of_change (C := Try.checked) own started (by kernel_rfl) Try.func7
    (ChangeSpec.witness6 (enc := enc) (C := Try.checked) false ⟨#[], #[.agg #[.int .i64 0, .slice none 0 0], .int .i64 0], []⟩ 8 (by kernel_rfl) (by kernel_rfl) (by kernel_rfl) (by kernel_rfl)) ?_
  intro W base args ds gs before hval0 hW hcnd _
  have hval : ∀ (j : Nat) t v, Try.f7.params[j]? = some t → args[j]? = some v → Value.okWide Try.prog W .any base t v := hval0
  have hW' := hW
  obtain ⟨p, q, hA0, hV, rfl, hfz, hnd⟩ := hW
  have hA : DataW.TrodAll enc Try.prog W 0 (fun _ => true) true Try.f7.params.toList args.toList ds p := hA0
  rw [Try.params7] at hA hval
  obtain ⟨v0, vs0, d0, ds0, p0, q0, hargs, rfl, rfl, h0, r0⟩ := trodAll_cons hA
  obtain ⟨v1, vs1, d1, ds1, p1, q1, rfl, rfl, rfl, h1, r1⟩ := trodAll_cons r0
  obtain ⟨rfl, rfl, rfl⟩ := trodAll_nil r1
  obtain rfl : args = #[v0, v1] := by cases args; simp_all
  obtain ⟨rfl, rfl⟩ := trodVars_none hV
  obtain ⟨c0, rfl, sz0⟩ := okWide_struct Try.underlying24 (hval 0 24 v0 rfl rfl)
  have k0 := h0
  obtain ⟨g0, cv0, eq0, hC0⟩ := graph_of_trod sz0 h0
  obtain rfl : c0 = #[.int .i64 g0.n, cv0] := by simpa [GV] using eq0
  have lt0 : ∀ x ∈ p0, x.block < W.heap.size := by obtain ⟨m, hm⟩ := k0; exact DataW.trod_lt m _ _ _ hm
  obtain ⟨a1, rfl, rfl, rfl, w1⟩ := open_int Try.underlying3 (hval 1 3 v1 rfl rfl) h1
  have b1 := bounds_i64 w1
  clear hA0 hval0
  refine (SccCondenses_walk g0 cv0 a1 W hC0 b1).mono fun e W' ⟨he, bel⟩ => ?_
  subst he
  exact ⟨_, rfl, _, _, _, [], _, [], hW', trodAll_mk1 (shut_bool Try.underlying4 _), (trodAll_cons_mk (Below.trod laidOut (by kernel_rfl) (of_decide_eq_true (by kernel_rfl)) k0 bel lt0) (trodAll_cons_mk (shut_int Try.underlying3 w1) trodAll_mk0)), rfl, bel.frame _, fun h => by cases h⟩

/-- The given statement. -/
theorem SccCondenses_holds : Rows.SccCondensesSaid :=
  OpenClaim.holds_of_wide 7 Try.f7 rfl rfl rfl rfl rfl rfl rfl ⟨rfl, rfl, rfl, rfl, rfl⟩ rfl rfl rfl rfl rfl (by kernel_rfl) Try.func7 (by kernel_rfl)
    (of_decide_eq_true (by kernel_rfl)) (by unfold Func.isWrapper; first | (rw [if_pos (by decide +kernel)]; kernel_rfl) | (rw [if_neg (by decide +kernel)]; exact ⟨rfl, rfl⟩))
    (fun os started H enc _ => SccCondenses_lifted os started H enc)

end Go.Proofs.Ytchmjgjagaaomaa
