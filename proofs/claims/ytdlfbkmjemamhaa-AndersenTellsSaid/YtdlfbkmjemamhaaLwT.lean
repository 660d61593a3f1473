/- AndersenTells: for any system with at most 40 variables, 12 sites and 5 fields and any two assignments with few lists, Closed, Within and Derive are as the reference says. Conditions: none. -/
import Derived.Test.YtdlfbkmjemamhaaRfj
namespace Go.Proofs.Ytdlfbkmjemamhaa
open Go.ChangeShapes Go.WideShapes Go.ChangeAt Go.RowKit Go.Dfl Go.And

/-- The worlds of the statement's last test. -/
structure TelC (bs bp bq : Nat) (s : Sy) (cv u1 u2 v1 v2 : Value) (a b c d : List (List Int)) (W Z : World) : Prop where
  sys : SysB bs s cv Z
  p : PtsB bp u1 u2 a b Z
  q : PtsB bq v1 v2 c d Z
  bel : Below W.heap.size W Z
theorem TelC.below {bs bp bq : Nat} {s : Sy} {cv u1 u2 v1 v2 : Value} {a b c d : List (List Int)} {W Z Z' : World} (h : TelC bs bp bq s cv u1 u2 v1 v2 a b c d W Z) (hb : Below Z.heap.size Z Z') : TelC bs bp bq s cv u1 u2 v1 v2 a b c d W Z' :=
  ⟨h.sys.below hb, h.p.below hb, h.q.below hb, h.bel.trans (hb.mono h.bel.size)⟩
theorem tell_bool {P : Prop} {b c : Bool} (h : b = true ↔ P) (k : c = true ↔ P) : b = c := by rw [Bool.eq_iff_iff, h, k]
theorem ex_bool (P : Prop) : ∃ b : Bool, b = true ↔ P := by
  by_cases h : P
  · exact ⟨true, by simp [h]⟩
  · exact ⟨false, by simp [h]⟩
theorem class_tell {P : Program} {f : FuncId} {args : Array Value} {Z : World} {b : Bool} {R : Prop} {Cls : World → Prop} (hb : b = true ↔ R) (hC : ∀ Z', Below Z.heap.size Z Z' → Cls Z')
    (h : Calls P f args Z fun e Z' => ∃ b, e = .returned (.bool b) ∧ (b = true ↔ R) ∧ Below Z.heap.size Z Z') : Calls P f args Z fun e w'' => e = .returned (.bool b) ∧ ∃ q : Wd Cls, w'' = q.val :=
  class_of (h.mono fun _ Z' ⟨c, he, hc, hb'⟩ => ⟨by rw [he, tell_bool hc hb], hC Z' hb'⟩)
theorem class_bel {P : Program} {f : FuncId} {args : Array Value} {Z : World} {v : Value} {Cls : World → Prop} (hC : ∀ Z', Below Z.heap.size Z Z' → Cls Z')
    (h : Calls P f args Z fun e Z' => e = .returned v ∧ Below Z.heap.size Z Z') : Calls P f args Z fun e w'' => e = .returned v ∧ ∃ q : Wd Cls, w'' = q.val :=
  class_of (h.mono fun _ Z' ⟨he, hb'⟩ => ⟨he, hC Z' hb'⟩)

set_option maxHeartbeats 6400000 in
set_option maxRecDepth 100000 in
theorem AndersenTells_walk (s : Sy) (cv : Value) (u1 u2 : Value) (a b : List (List Int)) (v1 v2 : Value) (c d : List (List Int)) (W : World) (hc : ConsIn W cv s.cons) (hp : PtsIn W u1 u2 a b) (ra : InR a) (rb : InR b) (hq : PtsIn W v1 v2 c d) (rc : InR c) (rd : InR d) :
    Calls Try.prog 4 #[SysV s cv, .agg #[u1, u2], .agg #[v1, v2]] W (TruePost W) := by
  obtain ⟨ua1, uc1, ua2, uc2, rfl, rfl⟩ := hp.shape
  obtain ⟨va1, vc1, va2, vc2, rfl, rfl⟩ := hq.shape
  obtain ⟨ca, cc, rfl, -⟩ := hc.out
  have HC := Lib.hid (And.intro hc (And.intro hp hq))
  have HR := Lib.hid (And.intro (And.intro ra rb) (And.intro rc rd))
  clear hc hp hq ra rb rc rd
  unfold SysV
  go_enter Try.func4, Try.ntmps4
  go_wp2_with fail
  refine calls_gen (fun Z => TelC W.heap.size (W.heap.size + 1) (W.heap.size + 2) s (.slice ca s.cons.length cc) (.slice ua1 a.length uc1) (.slice ua2 b.length uc2) (.slice va1 c.length vc1) (.slice va2 d.length vc2) a b c d W Z) ?_ ?_
  · have b1 := (Below.refl W.heap.size W).alloc (Nat.le_refl _) (.cells #[.int .i64 s.vars, .int .i64 s.sites, .int .i64 s.fields, .slice ca s.cons.length cc] 24)
    have b2 := b1.alloc b1.size (.cells #[.slice ua1 a.length uc1, .slice ua2 b.length uc2] 29)
    have n2 := PtsB.new (HC.out.2.1.below b1) 29
    have n3 := PtsB.new (HC.out.2.2.below b2) 29
    simp only [World.size_alloc] at n2 n3
    exact ⟨((SysB.new HC.out.1 24).below ((Below.refl _ _).alloc (Nat.le_refl _) _)).below ((Below.refl _ _).alloc (Nat.le_refl _) _), n2.below ((Below.refl _ _).alloc (Nat.le_refl _) _), n3, b2.alloc b2.size _⟩
  rintro Z0 h0
  obtain ⟨bs, hbs⟩ : ∃ bs, bs = W.heap.size := ⟨_, rfl⟩
  obtain ⟨bp, hbp⟩ : ∃ bp, bp = W.heap.size + 1 := ⟨_, rfl⟩
  obtain ⟨bq, hbq⟩ : ∃ bq, bq = W.heap.size + 2 := ⟨_, rfl⟩
  have H0 : Hid (TelC bs bp bq s (.slice ca s.cons.length cc) (.slice ua1 a.length uc1) (.slice ua2 b.length uc2) (.slice va1 c.length vc1) (.slice va2 d.length vc2) a b c d W Z0) := by rw [hbs, hbp, hbq]; exact h0
  rw [← hbq, ← hbp, ← hbs]
  clear h0 hbs hbp hbq HC
  refine (Small_any s (.slice ca s.cons.length cc) _ H0.out.sys.cons).mono ?_
  rintro e W1 ⟨b1, rfl, hb1, r1⟩
  have H1 := Lib.hid (H0.out.below r1)
  obtain ⟨⟨⟨d0, d1, d2, d3⟩, -⟩, ⟨p0, p1, -⟩, ⟨q0, q1, -⟩, -⟩ := H1.out
  clear H0 r1
  cases b1
  · clear hb1
    go_wp2_with fail
    clear d0 d1 d2 d3 p0 p1 q0 q1
    refine (awake_any _).mono ?_
    rintro e W9 ⟨rfl, r9⟩
    have H9 := Lib.hid (H1.out.below r9).bel
    clear r9
    go_wp2_with fail
    go_ret
    exact ⟨rfl, H9.out⟩
  · have hsm := (hb1.1 rfl).sm
    have HSM := Lib.hid hsm
    clear hsm hb1
    go_wp2_with fail
    refine (Few_any _ _ a b _ H1.out.p.pts).mono ?_
    rintro e W2 ⟨b2, rfl, hb2, r2⟩
    clear d0 d1 d2 d3 p0 p1 q0 q1
    have H2 := Lib.hid (H1.out.below r2)
    obtain ⟨⟨⟨d0, d1, d2, d3⟩, -⟩, ⟨p0, p1, -⟩, ⟨q0, q1, -⟩, -⟩ := H2.out
    clear H1 r2
    cases b2
    · clear hb2
      go_wp2_with fail
      clear d0 d1 d2 d3 p0 p1 q0 q1
      refine (awake_any _).mono ?_
      rintro e W9 ⟨rfl, r9⟩
      have H9 := Lib.hid (H2.out.below r9).bel
      clear r9
      go_wp2_with fail
      go_ret
      exact ⟨rfl, H9.out⟩
    · have HF := Lib.hid (hb2.1 rfl)
      clear hb2
      go_wp2_with fail
      refine (Few_any _ _ c d _ H2.out.q.pts).mono ?_
      rintro e W3 ⟨b3, rfl, hb3, r3⟩
      clear d0 d1 d2 d3 p0 p1 q0 q1
      have H3 := Lib.hid (H2.out.below r3)
      obtain ⟨⟨⟨d0, d1, d2, d3⟩, -⟩, ⟨p0, p1, -⟩, ⟨q0, q1, -⟩, -⟩ := H3.out
      clear H2 r3
      cases b3
      · clear hb3
        go_wp2_with fail
        clear d0 d1 d2 d3 p0 p1 q0 q1
        refine (awake_any _).mono ?_
        rintro e W9 ⟨rfl, r9⟩
        have H9 := Lib.hid (H3.out.below r9).bel
        clear r9
        go_wp2_with fail
        go_ret
        exact ⟨rfl, H9.out⟩
      · have HG := Lib.hid (hb3.1 rfl)
        clear hb3
        clear d0 d1 d2 d3 p0 p1 q0 q1
        obtain ⟨tc, htc⟩ := ex_bool (ClosedP s a b)
        obtain ⟨td, htd⟩ := ex_bool (DeriveP s a b)
        obtain ⟨tw, htw⟩ : ∃ t, t = (winB a c && winB b d) := ⟨_, rfl⟩
        have HT := Lib.hid (And.intro htc (And.intro htd htw))
        clear htc htd htw
        go_wp2_with fail
        have hC : TelC bs bp bq s (.slice ca s.cons.length cc) (.slice ua1 a.length uc1) (.slice ua2 b.length uc2) (.slice va1 c.length vc1) (.slice va2 d.length vc2) a b c d W W3.drew := H3.out.below (below_drewN (Below.refl _ _) 1)
        have HC := Lib.hid hC
        obtain ⟨Cls, hCls⟩ : ∃ Cls : World → Prop, ∀ Z, Cls Z ↔ TelC bs bp bq s (.slice ca s.cons.length cc) (.slice ua1 a.length uc1) (.slice ua2 b.length uc2) (.slice va1 c.length vc1) (.slice va2 d.length vc2) a b c d W Z := ⟨_, fun _ => Iff.rfl⟩
        replace hC := (hCls _).2 hC
        have k0 : ∀ q : Wd Cls, TelC bs bp bq s (.slice ca s.cons.length cc) (.slice ua1 a.length uc1) (.slice ua2 b.length uc2) (.slice va1 c.length vc1) (.slice va2 d.length vc2) a b c d W q.val := fun q => (hCls _).1 q.ok
        have e0 : ∀ q : Wd Cls, q.val.cell? ⟨bs, 0, none⟩ = some (.int .i64 s.vars) := fun q => (k0 q).sys.box.1
        have e1 : ∀ q : Wd Cls, q.val.cell? ⟨bs, 1, none⟩ = some (.int .i64 s.sites) := fun q => (k0 q).sys.box.2.1
        have e2 : ∀ q : Wd Cls, q.val.cell? ⟨bs, 2, none⟩ = some (.int .i64 s.fields) := fun q => (k0 q).sys.box.2.2.1
        have e3 : ∀ q : Wd Cls, q.val.cell? ⟨bs, 3, none⟩ = some (.slice ca s.cons.length cc) := fun q => (k0 q).sys.box.2.2.2
        have e4 : ∀ q : Wd Cls, q.val.cell? ⟨bp, 0, none⟩ = some (.slice ua1 a.length uc1) := fun q => (k0 q).p.p0
        have e5 : ∀ q : Wd Cls, q.val.cell? ⟨bp, 1, none⟩ = some (.slice ua2 b.length uc2) := fun q => (k0 q).p.p1
        have e6 : ∀ q : Wd Cls, q.val.cell? ⟨bq, 0, none⟩ = some (.slice va1 c.length vc1) := fun q => (k0 q).q.p0
        have e7 : ∀ q : Wd Cls, q.val.cell? ⟨bq, 1, none⟩ = some (.slice va2 d.length vc2) := fun q => (k0 q).q.p1
        have hB : ∀ q : Wd Cls, ∀ Z', Below q.val.heap.size q.val Z' → Cls Z' := fun q Z' hb => (hCls _).2 ((k0 q).below hb)
        have f1 : ∀ q : Wd Cls, Calls Try.prog 9 #[] q.val fun e w'' => e = .returned (.bool true) ∧ ∃ q : Wd Cls, w'' = q.val := fun q => class_bel (hB q) (awake_any _)
        have f2 : ∀ q : Wd Cls, Calls Try.prog 15 #[.agg #[.int .i64 s.vars, .int .i64 s.sites, .int .i64 s.fields, .slice ca s.cons.length cc], .agg #[.slice ua1 a.length uc1, .slice ua2 b.length uc2]] q.val fun e w'' => e = .returned (.bool tc) ∧ ∃ q : Wd Cls, w'' = q.val := fun q => class_tell HT.out.1 (hB q) (Closed_any s _ _ _ a b _ (k0 q).sys.cons HSM.out (k0 q).p.pts (by have := HF.out.1; omega) (by have := HF.out.2.1; omega))
        have f3 : ∀ q : Wd Cls, Calls Try.prog 14 #[.agg #[.int .i64 s.vars, .int .i64 s.sites, .int .i64 s.fields, .slice ca s.cons.length cc], .agg #[.slice ua1 a.length uc1, .slice ua2 b.length uc2]] q.val fun e w'' => e = .returned (.bool tc) ∧ ∃ q : Wd Cls, w'' = q.val := fun q => class_tell HT.out.1 (hB q) (rClosed_any s _ _ _ a b _ (k0 q).sys.cons HSM.out (k0 q).p.pts (by have := HF.out.1; omega) (by have := HF.out.2.1; omega))
        have f4 : ∀ q : Wd Cls, Calls Try.prog 16 #[.agg #[.slice ua1 a.length uc1, .slice ua2 b.length uc2], .agg #[.slice va1 c.length vc1, .slice va2 d.length vc2]] q.val fun e w'' => e = .returned (.bool tw) ∧ ∃ q : Wd Cls, w'' = q.val := fun q => by rw [HT.out.2.2]; exact class_bel (hB q) (WithinP_any _ _ _ _ a b c d _ (k0 q).p.pts (k0 q).q.pts HR.out.1.1 HR.out.1.2 HR.out.2.1 HR.out.2.2 (fun i hi => Nat.le_trans (HG.out.2.2.1 i hi) (by omega)) (fun i hi => Nat.le_trans (HG.out.2.2.2 i hi) (by omega)))
        have f5 : ∀ q : Wd Cls, Calls Try.prog 17 #[.agg #[.slice ua1 a.length uc1, .slice ua2 b.length uc2], .agg #[.slice va1 c.length vc1, .slice va2 d.length vc2]] q.val fun e w'' => e = .returned (.bool tw) ∧ ∃ q : Wd Cls, w'' = q.val := fun q => by rw [HT.out.2.2]; exact class_bel (hB q) (rWithin_any _ _ _ _ a b c d _ (k0 q).p.pts (k0 q).q.pts)
        have f6 : ∀ q : Wd Cls, Calls Try.prog 18 #[.agg #[.int .i64 s.vars, .int .i64 s.sites, .int .i64 s.fields, .slice ca s.cons.length cc], .agg #[.slice ua1 a.length uc1, .slice ua2 b.length uc2]] q.val fun e w'' => e = .returned (.bool td) ∧ ∃ q : Wd Cls, w'' = q.val := fun q => class_tell HT.out.2.1 (hB q) (Derive_any s _ _ _ a b _ (k0 q).sys.cons HSM.out (k0 q).p.pts (by have := HF.out.1; omega) (by have := HF.out.2.1; omega) HR.out.1.1 HR.out.1.2)
        have f7 : ∀ q : Wd Cls, Calls Try.prog 19 #[.agg #[.int .i64 s.vars, .int .i64 s.sites, .int .i64 s.fields, .slice ca s.cons.length cc], .agg #[.slice ua1 a.length uc1, .slice ua2 b.length uc2]] q.val fun e w'' => e = .returned (.bool td) ∧ ∃ q : Wd Cls, w'' = q.val := fun q => class_tell HT.out.2.1 (hB q) (rDerive_any s _ _ _ a b _ (k0 q).sys.cons HSM.out (k0 q).p.pts (by have := HF.out.1; omega) (by have := HF.out.2.1; omega))
        have F1 := Lib.hid f1
        have F2 := Lib.hid f2
        have F3 := Lib.hid f3
        have F4 := Lib.hid f4
        have F5 := Lib.hid f5
        have F6 := Lib.hid f6
        have F7 := Lib.hid f7
        have HK := Lib.hid k0
        have HCC := Lib.hid hC
        haveI hne : Nonempty (Wd Cls) := ⟨⟨_, hC⟩⟩
        clear f1 f2 f3 f4 f5 f6 f7 k0 hB hCls hC HC
        refine wp_region_class Cls (by kernel_rfl) (by kernel_rfl) HCC.out ?_
        repeat (go_big_quiet_step ((first | (go_at_call 9; exact F1.out _) | (go_at_call 15; exact F2.out _) | (go_at_call 14; exact F3.out _) | (go_at_call 16; exact F4.out _) | (go_at_call 17; exact F5.out _) | (go_at_call 18; exact F6.out _) | (go_at_call 19; exact F7.out _))))
        refine wpQuiet_nil ?_
        rintro _ ⟨q9, rfl⟩
        have H9 := Lib.hid (HK.out q9).bel
        clear e0 e1 e2 e3 e4 e5 e6 e7
        go_wp2_with fail
        go_ret
        exact ⟨rfl, H9.out⟩

set_option maxRecDepth 100000 in
theorem AndersenTells_lifted (os : Os) (started : os.Started) (H : Type) (enc : TypeId × Value → H) :
    ReturnsInHanded {} Try.checked os 4 .any (Rows.andersenTellsSpec.pre6 enc Try.prog Try.f4 Rows.andersenTellsRow.domain false) (Rows.andersenTellsSpec.post enc Try.prog Try.f4 false true false false) := by
  refine returnsInHanded_of_change (C := Try.checked) own started (by kernel_rfl) Try.func4
    (ChangeSpec.witness6 (enc := enc) (C := Try.checked) false ⟨#[], #[.agg #[.int .i64 0, .int .i64 0, .int .i64 0, .slice none 0 0], .agg #[.slice none 0 0, .slice none 0 0], .agg #[.slice none 0 0, .slice none 0 0]], []⟩ 8 (by kernel_rfl) (by kernel_rfl) (by kernel_rfl) (by kernel_rfl)) ?_
  intro W base args ds gs before hval0 hW hcnd _
  have hval : ∀ (j : Nat) t v, Try.f4.params[j]? = some t → args[j]? = some v → Value.okWide Try.prog W .any base t v := hval0
  have hW' := hW
  obtain ⟨p, q, hA0, hV, rfl, hfz, hnd⟩ := hW
  have hA : DataW.TrodAll enc Try.prog W 0 (fun _ => true) true Try.f4.params.toList args.toList ds p := hA0
  rw [Try.params4] at hA hval
  obtain ⟨v0, vs0, d0, ds0, p0, q0, hargs, rfl, rfl, h0, r0⟩ := trodAll_cons hA
  obtain ⟨v1, vs1, d1, ds1, p1, q1, rfl, rfl, rfl, h1, r1⟩ := trodAll_cons r0
  obtain ⟨v2, vs2, d2, ds2, p2, q2, rfl, rfl, rfl, h2, r2⟩ := trodAll_cons r1
  obtain ⟨rfl, rfl, rfl⟩ := trodAll_nil r2
  obtain rfl : args = #[v0, v1, v2] := by cases args; simp_all
  obtain ⟨rfl, rfl⟩ := trodVars_none hV
  obtain ⟨c0, rfl, sz0⟩ := okWide_struct Try.underlying24 (hval 0 24 v0 rfl rfl)
  have k0 := h0
  obtain ⟨sy0, cv0, eq0, hC0⟩ := sys_of_trod sz0 h0
  obtain rfl : c0 = #[.int .i64 sy0.vars, .int .i64 sy0.sites, .int .i64 sy0.fields, cv0] := by simpa [SysV] using eq0
  have lt0 : ∀ x ∈ p0, x.block < W.heap.size := by obtain ⟨m, hm⟩ := k0; exact DataW.trod_lt m _ _ _ hm
  obtain ⟨c1, rfl, sz1⟩ := okWide_struct Try.underlying29 (hval 1 29 v1 rfl rfl)
  have k1 := h1
  obtain ⟨pu1, pv1, pa1, pb1, pus1, pvs1, eq1, g1, gg1, r11, r21⟩ := pts_of_trod sz1 h1
  obtain rfl : c1 = #[pu1, pv1] := by simpa using eq1
  have lt1 : ∀ x ∈ p1, x.block < W.heap.size := by obtain ⟨m, hm⟩ := k1; exact DataW.trod_lt m _ _ _ hm
  obtain ⟨c2, rfl, sz2⟩ := okWide_struct Try.underlying29 (hval 2 29 v2 rfl rfl)
  have k2 := h2
  obtain ⟨pu2, pv2, pa2, pb2, pus2, pvs2, eq2, g2, gg2, r12, r22⟩ := pts_of_trod sz2 h2
  obtain rfl : c2 = #[pu2, pv2] := by simpa using eq2
  have lt2 : ∀ x ∈ p2, x.block < W.heap.size := by obtain ⟨m, hm⟩ := k2; exact DataW.trod_lt m _ _ _ hm
  clear hA0 hval0
  refine (AndersenTells_walk sy0 cv0 pu1 pv1 pa1 pb1 pu2 pv2 pa2 pb2 W hC0 ⟨⟨pus1, g1⟩, pvs1, gg1⟩ r11 r21 ⟨⟨pus2, g2⟩, pvs2, gg2⟩ r12 r22).mono fun e W' ⟨he, bel⟩ => ?_
  subst he
  exact ⟨_, rfl, _, _, _, [], _, [], hW', trodAll_mk1 (shut_bool Try.underlying4 _), (trodAll_cons_mk (Below.trod laidOut (by kernel_rfl) (of_decide_eq_true (by kernel_rfl)) k0 bel lt0) (trodAll_cons_mk (Below.trod laidOut (by kernel_rfl) (of_decide_eq_true (by kernel_rfl)) k1 bel lt1) (trodAll_cons_mk (Below.trod laidOut (by kernel_rfl) (of_decide_eq_true (by kernel_rfl)) k2 bel lt2) trodAll_mk0))), rfl, bel.frame _, fun h => by cases h⟩

/-- The given statement. -/
theorem AndersenTells_holds : Rows.AndersenTellsSaid :=
  OpenClaim.holds_of_wide 4 Try.f4 rfl rfl rfl rfl rfl rfl rfl ⟨rfl, rfl, rfl, rfl, rfl⟩ rfl rfl rfl rfl rfl (by kernel_rfl) Try.func4 (by kernel_rfl)
    (of_decide_eq_true (by kernel_rfl)) (by unfold Func.isWrapper; first | (rw [if_pos (by decide +kernel)]; kernel_rfl) | (rw [if_neg (by decide +kernel)]; exact ⟨rfl, rfl⟩))
    (fun os started H enc _ => AndersenTells_lifted os started H enc)

end Go.Proofs.Ytdlfbkmjemamhaa
