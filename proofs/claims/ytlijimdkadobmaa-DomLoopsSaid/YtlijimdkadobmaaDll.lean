/- DomLoops: for any small graph and root, the natural loops and reducibility are those of the definition. -/
import Derived.Test.YtlijimdkadobmaaDnw
import Derived.Test.YtlijimdkadobmaaDlw
import Derived.Test.YtlijimdkadobmaaDsm
import Derived.Test.YtlijimdkadobmaaDrr
import Derived.Test.YtlijimdkadobmaaDrw
namespace Go.Proofs.Ytlijimdkadobmaa
open Go.ChangeShapes Go.WideShapes Go.ChangeAt Go.RowKit Go.Dfl Go.Gra

def smB (g : G) : Bool := decide (g.n ≤ 24) && decide (g.es.length ≤ 120)
set_option maxHeartbeats 800000 in
set_option maxRecDepth 100000 in
theorem small_any (g : G) (cv : Value) (W : World) (h : Pairs W cv g.es) : Calls Try.prog 15 #[GV g cv] W (BoolR (smB g) W) := by
  obtain ⟨ca, cc, rfl, -, -, -⟩ := pairs_rd h
  have hal := (Below.refl W.heap.size W).alloc (Nat.le_refl _) (.cells #[.int .i64 g.n, .slice ca g.es.length cc] 24)
  have H0 := Lib.hid hal
  obtain ⟨c0, c1⟩ := BoxG.new W g.n (.slice ca g.es.length cc) 24
  clear h hal
  unfold GV
  go_enter Try.func15, Try.ntmps15
  by_cases h1 : g.n ≤ 24
  · by_cases h2 : g.es.length ≤ 120
    · have h2' : (g.es.length : Int) ≤ 120 := by omega
      have HD : Hid (smB g = true) := Lib.hid (by unfold smB; rw [decide_eq_true h1, decide_eq_true h2]; rfl)
      go_wp2_with fail
      go_ret
      exact ⟨by rw [HD.out]; rfl, H0.out⟩
    · have h2' : ¬ (g.es.length : Int) ≤ 120 := by omega
      have HD : Hid (smB g = false) := Lib.hid (by unfold smB; rw [decide_eq_true h1, decide_eq_false h2]; rfl)
      go_wp2_with fail
      go_ret
      exact ⟨by rw [HD.out]; rfl, H0.out⟩
  · have HD : Hid (smB g = false) := Lib.hid (by unfold smB; rw [decide_eq_false h1]; rfl)
    go_wp2_with fail
    go_ret
    exact ⟨by rw [HD.out]; rfl, H0.out⟩
set_option maxHeartbeats 3200000 in
set_option maxRecDepth 100000 in
theorem DomLoops_walk (g : G) (cv : Value) (r : Int) (W : World) (h : Pairs W cv g.es) (_hr : -9223372036854775808 ≤ r ∧ r ≤ 9223372036854775807) : Calls Try.prog 5 #[GV g cv, .int .i64 r] W (TruePost W) := by
  obtain ⟨ca, cc, rfl, -, -, -⟩ := pairs_rd h
  have hal := (Below.refl W.heap.size W).alloc (Nat.le_refl _) (.cells #[.int .i64 g.n, .slice ca g.es.length cc] 24)
  have H0 := Lib.hid (And.intro (GB.new h 24) hal)
  clear h hal _hr
  obtain ⟨c0, c1⟩ := H0.out.1.box
  unfold GV
  go_enter Try.func5, Try.ntmps5
  go_wp2_with fail
  have hsm := small_any g (.slice ca g.es.length cc) _ H0.out.1.es
  unfold GV at hsm
  refine hsm.mono ?_
  rintro e W1 ⟨rfl, b1⟩
  have H1 := Lib.hid (And.intro (H0.out.1.below b1) (bel_trans H0.out.2 b1))
  clear hsm b1 c0 c1
  obtain ⟨c0, c1⟩ := H1.out.1.box
  cases hs : smB g
  · clear c0 c1
    go_wp2_with fail
    refine (awake_any _).mono ?_
    rintro e Z ⟨rfl, b⟩
    have HB := Lib.hid (bel_trans H1.out.2 b)
    go_wp2_with fail
    go_ret
    exact ⟨rfl, HB.out⟩
  clear hs
  go_wp2_with fail
  have hi := dLoops_any g (.slice ca g.es.length cc) r W1 H1.out.1.es
  unfold GV at hi
  refine hi.mono ?_
  rintro e W2 ⟨ia, ic, ls, rfl, iI, hI, b2⟩
  have H2 := Lib.hid (And.intro (H1.out.1.below b2) (And.intro (bel_trans H1.out.2 b2) (And.intro iI hI)))
  clear hi iI hI b2 c0 c1
  obtain ⟨c0, c1⟩ := H2.out.1.box
  go_wp2_with fail
  have hi := rLoops_any g (.slice ca g.es.length cc) r W2 H2.out.1.es
  unfold GV at hi
  refine hi.mono ?_
  rintro e W3 ⟨ja, jc, ms, rfl, jI, hJ, b3⟩
  have hsame : eqPB ls ms = true := decide_eq_true (H2.out.2.2.2.unique hJ)
  have H3 := Lib.hid (And.intro (H2.out.1.below b3) (And.intro (bel_trans H2.out.2.1 b3) (And.intro (H2.out.2.2.1.below b3) (And.intro jI hsame))))
  clear hi jI hJ b3 c0 c1 hsame
  go_upto_region 5 with fail
  obtain ⟨Cls, hCls⟩ : ∃ Cls : World → Prop, ∀ Z', Cls Z' ↔ Below W3.heap.size W3 Z' := ⟨_, fun _ => Iff.rfl⟩
  have hC : Cls W3.drew := (hCls _).2 ((Below.refl _ _).drew)
  have k0 : ∀ q : Wd Cls, Below W3.heap.size W3 q.val := fun q => (hCls _).1 q.ok
  have e0 : ∀ q : Wd Cls, q.val.cell? ⟨W.heap.size, 0, none⟩ = some (.int .i64 g.n) := fun q => ((H3.out.1.below (k0 q)).box).1
  have e1 : ∀ q : Wd Cls, q.val.cell? ⟨W.heap.size, 1, none⟩ = some (.slice ca g.es.length cc) := fun q => ((H3.out.1.below (k0 q)).box).2
  obtain ⟨rb, hrb⟩ : ∃ rb, rb = (decide (dcode g r = 0) && redB g r.toNat) := ⟨_, rfl⟩
  have hB : ∀ q : Wd Cls, ∀ Z', Below q.val.heap.size q.val Z' → Cls Z' := fun q Z' hb => (hCls _).2 (bel_trans ((hCls _).1 q.ok) hb)
  have f1 : ∀ q : Wd Cls, Calls Try.prog 21 #[.agg #[.int .i64 g.n, .slice ca g.es.length cc], .int .i64 r] q.val fun e w'' => e = .returned (.bool rb) ∧ ∃ q : Wd Cls, w'' = q.val := fun q => class_bel (hB q) (by have h9 := gReducible_any g (.slice ca g.es.length cc) r q.val (H3.out.1.below (k0 q)).es; rw [← hrb] at h9; exact h9)
  have f2 : ∀ q : Wd Cls, Calls Try.prog 22 #[.agg #[.int .i64 g.n, .slice ca g.es.length cc], .int .i64 r] q.val fun e w'' => e = .returned (.bool rb) ∧ ∃ q : Wd Cls, w'' = q.val := fun q => class_bel (hB q) (by have h9 := rReducible_any g (.slice ca g.es.length cc) r q.val (H3.out.1.below (k0 q)).es; rw [← hrb] at h9; exact h9)
  have f3 : ∀ q : Wd Cls, Calls Try.prog 20 #[.slice ia ls.length ic, .slice ja ms.length jc] q.val fun e w'' => e = .returned (.bool true) ∧ ∃ q : Wd Cls, w'' = q.val := fun q => (sameLoops_any _ _ ls ms q.val (H3.out.2.2.1.below (k0 q)) (H3.out.2.2.2.1.below (k0 q))).mono fun _ w' ⟨h1, h2⟩ => ⟨by rw [h1, H3.out.2.2.2.2], ⟨w', hB q w' (qt_below h2)⟩, rfl⟩
  have f4 : ∀ q : Wd Cls, Calls Try.prog 10 #[] q.val fun e w'' => e = .returned (.bool true) ∧ ∃ q : Wd Cls, w'' = q.val := fun q => (awake_any q.val).mono fun _ w' ⟨h1, h2⟩ => ⟨h1, ⟨w', hB q w' h2⟩, rfl⟩
  have F1 := Lib.hid f1
  have F2 := Lib.hid f2
  have F3 := Lib.hid f3
  have F4 := Lib.hid f4
  have HK := Lib.hid k0
  have HCC := Lib.hid hC
  haveI hne : Nonempty (Wd Cls) := ⟨⟨_, hC⟩⟩
  clear f1 f2 f3 f4 k0 hB hCls hC hrb
  cases rb
  · refine wp_region_class Cls (by kernel_rfl) (by kernel_rfl) HCC.out ?_
    repeat (go_big_quiet_step (first | (go_at_call 21; exact F1.out _) | (go_at_call 22; exact F2.out _) | (go_at_call 20; exact F3.out _) | (go_at_call 10; exact F4.out _)))
    refine wpQuiet_nil ?_
    rintro _ ⟨q9, rfl⟩
    have H9 := Lib.hid (bel_trans H3.out.2.1 (HK.out q9))
    go_wp2_with fail
    go_ret
    exact ⟨rfl, H9.out⟩
  · refine wp_region_class Cls (by kernel_rfl) (by kernel_rfl) HCC.out ?_
    repeat (go_big_quiet_step (first | (go_at_call 21; exact F1.out _) | (go_at_call 22; exact F2.out _) | (go_at_call 20; exact F3.out _) | (go_at_call 10; exact F4.out _)))
    refine wpQuiet_nil ?_
    rintro _ ⟨q9, rfl⟩
    have H9 := Lib.hid (bel_trans H3.out.2.1 (HK.out q9))
    go_wp2_with fail
    go_ret
    exact ⟨rfl, H9.out⟩
set_option maxRecDepth 100000 in
theorem DomLoops_lifted (os : Os) (started : os.Started) (H : Type) (enc : TypeId × Value → H) :
    ReturnsInHanded {} Try.checked os 5 .any (Rows.domLoopsSpec.pre6 enc Try.prog Try.f5 Rows.domLoopsRow.domain false) (Rows.domLoopsSpec.post enc Try.prog Try.f5 false true false false) := by
  refine returnsInHanded_of_change (C := Try.checked) own started (by kernel_rfl) Try.func5
    (ChangeSpec.witness6 (enc := enc) (C := Try.checked) false ⟨#[], #[.agg #[.int .i64 0, .slice none 0 0], .int .i64 0], []⟩ 8 (by kernel_rfl) (by kernel_rfl) (by kernel_rfl) (by kernel_rfl)) ?_
  intro W base args ds gs before hval0 hW hcnd _
  have hval : ∀ (j : Nat) t v, Try.f5.params[j]? = some t → args[j]? = some v → Value.okWide Try.prog W .any base t v := hval0
  have hW' := hW
  obtain ⟨p, q, hA0, hV, rfl, hfz, hnd⟩ := hW
  have hA : DataW.TrodAll enc Try.prog W 0 (fun _ => true) true Try.f5.params.toList args.toList ds p := hA0
  rw [Try.params5] at hA hval
  obtain ⟨v0, vs0, d0, ds0, p0, q0, hargs, rfl, rfl, h0, r0⟩ := trodAll_cons hA
  obtain ⟨v1, vs1, d1, ds1, p1, q1, rfl, rfl, rfl, h1, r1⟩ := trodAll_cons r0
  obtain ⟨rfl, rfl, rfl⟩ := trodAll_nil r1
  obtain rfl : args = #[v0, v1] := by cases args; simp_all
  obtain ⟨rfl, rfl⟩ := trodVars_none hV
  obtain ⟨c0, rfl, sz0⟩ := okWide_struct Try.underlying24 (hval 0 24 v0 rfl rfl)
  have k0 := h0
  obtain ⟨g0, cv0, eq0, hC0⟩ := graph_of_trod sz0 h0
  obtain rfl : c0 = #[.int .i64 g0.n, cv0] := by simpa [GV] using eq0
  have lt0 : ∀ x ∈ p0, x.block < W.heap.size := by obtain ⟨m, hm⟩ := k0; exact DataW.trod_lt m _ _ _ hm
  obtain ⟨a1, rfl, rfl, rfl, w1⟩ := open_int Try.underlying3 (hval 1 3 v1 rfl rfl) h1
  have b1 := bounds_i64 w1
  clear hA0 hval0
  refine (DomLoops_walk g0 cv0 a1 W hC0 b1).mono fun e W' ⟨he, bel⟩ => ?_
  subst he
  exact ⟨_, rfl, _, _, _, [], _, [], hW', trodAll_mk1 (shut_bool Try.underlying4 _), (trodAll_cons_mk (Below.trod laidOut (by kernel_rfl) (of_decide_eq_true (by kernel_rfl)) k0 bel lt0) (trodAll_cons_mk (shut_int Try.underlying3 w1) trodAll_mk0)), rfl, bel.frame _, fun h => by cases h⟩

/-- The given statement. -/
theorem DomLoops_holds : Rows.DomLoopsSaid :=
  OpenClaim.holds_of_wide 5 Try.f5 rfl rfl rfl rfl rfl rfl rfl ⟨rfl, rfl, rfl, rfl, rfl⟩ rfl rfl rfl rfl rfl (by kernel_rfl) Try.func5 (by kernel_rfl)
    (of_decide_eq_true (by kernel_rfl)) (by unfold Func.isWrapper; first | (rw [if_pos (by decide +kernel)]; kernel_rfl) | (rw [if_neg (by decide +kernel)]; exact ⟨rfl, rfl⟩))
    (fun os started H enc _ => DomLoops_lifted os started H enc)

end Go.Proofs.Ytlijimdkadobmaa
