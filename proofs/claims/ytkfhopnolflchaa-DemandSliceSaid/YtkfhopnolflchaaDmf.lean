/- DemandSlice: for any system with at most 40 variables, 12 sites and 5 fields and any variable, the slice is that of the reference. Conditions: none. -/
import Derived.Test.YtkfhopnolflchaaDme
import Derived.Test.YtkfhopnolflchaaRvs
namespace Go.Proofs.Ytkfhopnolflchaa
open Go.ChangeShapes Go.WideShapes Go.ChangeAt Go.RowKit Go.Dfl Go.And

theorem slL_unique {s : Sy} {v : Int} {t u : Sy} (h : SlL s v t) (k : SlL s v u) : t = u := by
  rcases h with ⟨h0, rfl⟩ | ⟨h0, vl, fl, hv, hl, hf, rfl⟩
  · rcases k with ⟨-, rfl⟩ | ⟨k0, -⟩
    · rfl
    · exact absurd k0 h0
  · rcases k with ⟨k0, -⟩ | ⟨-, vl', fl', hv', hl', hf', rfl⟩
    · exact absurd h0 k0
    · rw [hv.unique hv']
      have : fl = fl' := nth_ext (by rw [hl, hl']) fun i _ => by rw [Bool.eq_iff_iff, hf, hf']
      rw [this]
/-- The two slices in memory, each in a box. -/
structure TwoS (ba bb : Nat) (t : Sy) (va vb : Value) (W Z : World) : Prop where
  a : SysB ba t va Z
  b : SysB bb t vb Z
  bel : Below W.heap.size W Z
theorem TwoS.below {ba bb : Nat} {t : Sy} {va vb : Value} {W Z Z' : World} (h : TwoS ba bb t va vb W Z) (hb : Below Z.heap.size Z Z') : TwoS ba bb t va vb W Z' := ⟨h.a.below hb, h.b.below hb, h.bel.trans (hb.mono h.bel.size)⟩
/-- What the two boxes of a round hold. -/
def TwoC (bc bd : Nat) (c : R) (va vb : Value) (Z : World) : Prop :=
  (Z.cell? ⟨bc, 0, none⟩ = some (.int .i64 c.k) ∧ Z.cell? ⟨bc, 1, none⟩ = some (.int .i64 c.a) ∧ Z.cell? ⟨bc, 2, none⟩ = some (.int .i64 c.b) ∧ Z.cell? ⟨bc, 3, none⟩ = some (.int .i64 c.f) ∧ Z.cell? ⟨bc, 4, none⟩ = some va) ∧
  (Z.cell? ⟨bd, 0, none⟩ = some (.int .i64 c.k) ∧ Z.cell? ⟨bd, 1, none⟩ = some (.int .i64 c.a) ∧ Z.cell? ⟨bd, 2, none⟩ = some (.int .i64 c.b) ∧ Z.cell? ⟨bd, 3, none⟩ = some (.int .i64 c.f) ∧ Z.cell? ⟨bd, 4, none⟩ = some vb)

set_option maxHeartbeats 6400000 in
set_option maxRecDepth 100000 in
theorem DemandSlice_walk (s : Sy) (cv : Value) (v : Int) (W : World) (hc : ConsIn W cv s.cons) (_hv : -9223372036854775808 ≤ v ∧ v ≤ 9223372036854775807) :
    Calls Try.prog 4 #[SysV s cv, .int .i64 v] W (TruePost W) := by
  obtain ⟨ca, cc, rfl, -⟩ := hc.out
  have HC := Lib.hid hc
  clear hc
  unfold SysV
  go_enter Try.func4, Try.ntmps4
  go_wp2_with fail
  refine calls_gen (fun Z => SysB W.heap.size s (.slice ca s.cons.length cc) Z ∧ Below W.heap.size W Z) ⟨SysB.new HC.out 24, (Below.refl _ _).alloc (Nat.le_refl _) _⟩ ?_
  rintro Z0 h0
  obtain ⟨bs, hbs⟩ : ∃ bs, bs = W.heap.size := ⟨_, rfl⟩
  have H0 : Hid (SysB bs s (.slice ca s.cons.length cc) Z0 ∧ Below W.heap.size W Z0) := by rw [hbs]; exact h0
  rw [← hbs]
  clear h0 hbs HC
  refine (Small_any s (.slice ca s.cons.length cc) _ H0.out.1.cons).mono ?_
  rintro e W1 ⟨b1, rfl, hb1, r1⟩
  have hb1 := H0.out.2.trans (r1.mono H0.out.2.size)
  have H1 := Lib.hid (And.intro (H0.out.1.below r1) hb1)
  obtain ⟨⟨d0, d1, d2, d3⟩, -⟩ := H1.out.1
  clear hb1 H0 r1
  cases b1
  · go_wp2_with fail
    refine (awake_any _).mono ?_
    rintro e W2 ⟨rfl, r2⟩
    clear d0 d1 d2 d3
    have H2 := Lib.hid (H1.out.2.trans (r2.mono H1.out.2.size))
    clear r2 hb1
    go_wp2_with fail
    go_ret
    exact ⟨rfl, H2.out⟩
  · have HSM := Lib.hid (hb1.1 rfl).sm
    clear hb1
    go_wp2_with fail
    clear d0 d1 d2 d3
    refine (Slice_any s (.slice ca s.cons.length cc) v _ H1.out.1.cons HSM.out).mono ?_
    rintro e W2 ⟨xa, xc, t, rfl, hX2, hS2, r2⟩
    have hal2 : Below W2.heap.size W2 (W2.alloc (.cells #[.int .i64 t.vars, .int .i64 t.sites, .int .i64 t.fields, .slice xa t.cons.length xc] 24)) := (Below.refl _ _).alloc (Nat.le_refl _) _
    have hn2 := SysB.new hX2 24
    have r2' := r2.trans (hal2.mono r2.size)
    have HX := Lib.hid (And.intro (H1.out.1.below r2') (And.intro hn2 (And.intro (H1.out.2.trans (r2'.mono H1.out.2.size)) hS2)))
    obtain ⟨⟨d0, d1, d2, d3⟩, -⟩ := HX.out.1
    clear hal2 hn2 r2' r2 hX2 hS2 H1
    unfold SysV
    go_wp2_with fail
    clear d0 d1 d2 d3
    refine calls_gen (fun Z => SysB bs s (.slice ca s.cons.length cc) Z ∧ SysB W2.heap.size t (.slice xa t.cons.length xc) Z ∧ Below W.heap.size W Z ∧ SlL s v t) HX.out ?_
    rintro Z2 hz2
    obtain ⟨ba, hba⟩ : ∃ b, b = W2.heap.size := ⟨_, rfl⟩
    rw [← hba] at hz2 ⊢
    have H2 := Lib.hid hz2
    clear hz2 HX hba
    refine (rSlice_any s (.slice ca s.cons.length cc) v _ H2.out.1.cons HSM.out).mono ?_
    rintro e W3 ⟨ya, yc, u, rfl, hX3, hS3, r3⟩
    obtain rfl := slL_unique H2.out.2.2.2 hS3
    have hal3 : Below W3.heap.size W3 (W3.alloc (.cells #[.int .i64 t.vars, .int .i64 t.sites, .int .i64 t.fields, .slice ya t.cons.length yc] 24)) := (Below.refl _ _).alloc (Nat.le_refl _) _
    have r3' := r3.trans (hal3.mono r3.size)
    have hT : TwoS ba W3.heap.size t (.slice xa t.cons.length xc) (.slice ya t.cons.length yc) W (W3.alloc (.cells #[.int .i64 t.vars, .int .i64 t.sites, .int .i64 t.fields, .slice ya t.cons.length yc] 24)) := ⟨H2.out.2.1.below r3', SysB.new hX3 24, H2.out.2.2.1.trans (r3'.mono H2.out.2.2.1.size)⟩
    have HT := Lib.hid hT
    have htl : t.cons.length ≤ 101 := by
      have h2 := HSM.out.cons
      rcases hS3 with ⟨-, rfl⟩ | ⟨-, vl, fl, -, -, -, rfl⟩
      · simp
      · exact Nat.le_trans (List.length_filter_le _ _) h2
    obtain ⟨y0, y1, y2, y3⟩ := hT.a.box
    obtain ⟨z0, z1, z2, z3⟩ := hT.b.box
    obtain ⟨dc, hdc⟩ : ∃ c, c = dCode s v := ⟨_, rfl⟩
    rw [← hdc]
    have w0 : (dc != dc) = false := by simp
    have w1 : (t.vars != t.vars) = false := by simp
    have w2 : (t.sites != t.sites) = false := by simp
    have w3 : (t.fields != t.fields) = false := by simp
    have w4 : ((t.cons.length : Int) != (t.cons.length : Int)) = false := by simp
    clear hal3 r3' r3 hX3 hS3 hT H2 hdc
    unfold SysV
    go_wp2_with fail
    clear w0 w1 w2 w3 w4 y0 y1 y2 y3 z0 z1 z2 z3
    refine wp_gen (fun Z => TwoS ba W3.heap.size t (.slice xa t.cons.length xc) (.slice ya t.cons.length yc) W Z) HT.out ?_
    rintro Z4 h4
    obtain ⟨bb, hbb⟩ : ∃ b, b = W3.heap.size := ⟨_, rfl⟩
    rw [← hbb] at h4 ⊢
    have H4 := Lib.hid h4
    clear h4 HT hbb
    go_loopw [9, 10, 11, 64] (fun _ _ _ x wr => ∃ i : Nat, i ≤ t.cons.length ∧ x = .int .i64 i ∧ Hid (TwoS ba bb t (.slice xa t.cons.length xc) (.slice ya t.cons.length yc) W wr)) (fun _ _ _ x _ => t.cons.length - (intOf x).toNat)
    case atStart => exact ⟨0, by omega, rfl, H4.out⟩
    case round =>
      clear H4
      obtain ⟨i, hi, rfl, hh⟩ := hrel
      by_cases hil : i < t.cons.length
      · obtain ⟨a1, c1, e1, hm1, i1, hc1⟩ := hh.out.a.cons.out
        obtain ⟨a2, c2, e2, -, i2, hc2⟩ := hh.out.b.cons.out
        simp only [Value.slice.injEq] at e1 e2
        obtain ⟨rfl, -, rfl⟩ := e1
        obtain ⟨rfl, -, rfl⟩ := e2
        obtain ⟨sa, sn, sc, p0, p1, p2, p3, p4, hI1, -⟩ := hc1 i hil
        obtain ⟨sa2, sn2, sc2, q0, q1, q2, q3, q4, hI2, -⟩ := hc2 i hil
        obtain ⟨-, -, -, y3⟩ := hh.out.a.box
        obtain ⟨-, -, -, z3⟩ := hh.out.b.box
        obtain ⟨c, hc⟩ : ∃ c, c = nth t.cons i := ⟨_, rfl⟩
        rw [← hc] at p0 p1 p2 p3 q0 q1 q2 q3 hI1 hI2
        clear hc
        obtain ⟨ck, c_a, c_b, c_f, c_s⟩ := c
        dsimp only at p0 p1 p2 p3 q0 q1 q2 q3 hI1 hI2
        have HH := Lib.hid (And.intro hh.out (And.intro hI1 hI2))
        have w0 : (ck != ck) = false := by simp
        have w1 : (c_a != c_a) = false := by simp
        have w2 : (c_b != c_b) = false := by simp
        have w3 : (c_f != c_f) = false := by simp
        clear hc1 hc2 hI1 hI2 hh
        go_wp2_with fail
        refine wp_region_plan (.take 0 (.take 1 (.take 2 (.take 3 (.take 4 (.take 5 (.take 6 (.take 7 (.take 8 (.take 9 (.alt 10 (.alt 11 (.alt 12 (.alt 13 .done .stop) .stop) .stop) (.alt 11 (.alt 10 (.alt 12 (.alt 13 .done .stop) .stop) .stop) .stop))))))))))))
          (fun w' => Below wr.heap.size wr w') (by kernel_rfl) (by kernel_rfl) (by kernel_rfl) (by kernel_rfl) (below_drewN (Below.refl _ _) 1) ?_
        have gv := below_drewN (Below.refl wr.heap.size wr) 1
        rw [show wr.drewN 1 = wr.drew from rfl] at gv
        generalize wr.drew = V at *
        have GV := Lib.hid gv
        clear gv
        repeat (
          refine plan_take (v := ?_) rfl (Or.inl ⟨by rfl, ?_⟩) ?_
          rotate_left
          · (intro W' hW'; have a3 := (grownBy_below hW').cell y3 (by simp); have b3 := (grownBy_below hW').cell z3 (by simp); have c0 := (grownBy_below hW').cell p0 (by simp); have c1 := (grownBy_below hW').cell p1 (by simp); have c2 := (grownBy_below hW').cell p2 (by simp); have c3 := (grownBy_below hW').cell p3 (by simp); have c4 := (grownBy_below hW').cell p4 (by simp); have e0 := (grownBy_below hW').cell q0 (by simp); have e1 := (grownBy_below hW').cell q1 (by simp); have e2 := (grownBy_below hW').cell q2 (by simp); have e3 := (grownBy_below hW').cell q3 (by simp); have e4 := (grownBy_below hW').cell q4 (by simp); go_simp; try with_reducible rfl)
          simp only [Act.put, List.setIfInBounds_toArray])
        clear y3 z3 p0 p1 p2 p3 p4 q0 q1 q2 q3 q4
        refine plan_alt rfl ?_ ?_
        · go_wp2_with fail
          refine tail_mk (GV.out.alloc GV.out.size _) ?_
          refine plan_alt rfl ?_ plan_stop
          go_wp2_with fail
          refine tail_mk ((GV.out.alloc GV.out.size _).alloc (le_alloc _ GV.out.size) _) ?_
          refine plan_alt rfl ?_ plan_stop
          go_wp2_with fail
          refine tail_mk ((GV.out.alloc GV.out.size _).alloc (le_alloc _ GV.out.size) _) ?_
          refine plan_alt rfl ?_ plan_stop
          go_wp2_with fail
          refine tail_mk ((GV.out.alloc GV.out.size _).alloc (le_alloc _ GV.out.size) _) ?_
          refine plan_done ?_
          go_wp2_with fail
          have g4 := (GV.out.alloc GV.out.size (.cells #[.int .i64 ck, .int .i64 c_a, .int .i64 c_b, .int .i64 c_f, .slice sa sn sc] 37)).alloc (le_alloc _ GV.out.size) (.cells #[.int .i64 ck, .int .i64 c_a, .int .i64 c_b, .int .i64 c_f, .slice sa2 sn2 sc2] 37)
          refine (sameInts_eq _ _ c_s _ (HH.out.2.1.below g4) (HH.out.2.2.below g4)).mono ?_
          rintro e W9 ⟨rfl, n9, rfl⟩
          have G4 := Lib.hid g4
          clear g4
          go_wp2_with fail
          go_roundw
          case rel => exact ⟨i + 1, by omega, by go_num, HH.out.1.below (below_drewN G4.out _)⟩
          case measure => simp [intOf]; omega
        · refine plan_alt rfl ?_ plan_stop
          go_wp2_with fail
          refine tail_mk (GV.out.alloc GV.out.size _) ?_
          refine plan_alt rfl ?_ plan_stop
          go_wp2_with fail
          refine tail_mk ((GV.out.alloc GV.out.size _).alloc (le_alloc _ GV.out.size) _) ?_
          refine plan_alt rfl ?_ plan_stop
          go_wp2_with fail
          refine tail_mk ((GV.out.alloc GV.out.size _).alloc (le_alloc _ GV.out.size) _) ?_
          refine plan_alt rfl ?_ plan_stop
          go_wp2_with fail
          refine tail_mk ((GV.out.alloc GV.out.size _).alloc (le_alloc _ GV.out.size) _) ?_
          refine plan_done ?_
          go_wp2_with fail
          have g4 := (GV.out.alloc GV.out.size (.cells #[.int .i64 ck, .int .i64 c_a, .int .i64 c_b, .int .i64 c_f, .slice sa2 sn2 sc2] 37)).alloc (le_alloc _ GV.out.size) (.cells #[.int .i64 ck, .int .i64 c_a, .int .i64 c_b, .int .i64 c_f, .slice sa sn sc] 37)
          refine (sameInts_eq _ _ c_s _ (HH.out.2.1.below g4) (HH.out.2.2.below g4)).mono ?_
          rintro e W9 ⟨rfl, n9, rfl⟩
          have G4 := Lib.hid g4
          clear g4
          go_wp2_with fail
          go_roundw
          case rel => exact ⟨i + 1, by omega, by go_num, HH.out.1.below (below_drewN G4.out _)⟩
          case measure => simp [intOf]; omega
      · obtain rfl : i = t.cons.length := by omega
        have HH := Lib.hid hh.out.bel
        clear hh
        go_wp2_with fail
        refine (awake_any _).mono ?_
        rintro e W9 ⟨rfl, r9⟩
        have H9 := Lib.hid (HH.out.trans (r9.mono HH.out.size))
        clear r9
        go_wp2_with fail
        go_ret
        exact ⟨rfl, H9.out⟩

set_option maxRecDepth 100000 in
theorem DemandSlice_lifted (os : Os) (started : os.Started) (H : Type) (enc : TypeId × Value → H) :
    ReturnsInHanded {} Try.checked os 4 .any (Rows.demandSliceSpec.pre6 enc Try.prog Try.f4 Rows.demandSliceRow.domain false) (Rows.demandSliceSpec.post enc Try.prog Try.f4 false true false false) := by
  refine returnsInHanded_of_change (C := Try.checked) own started (by kernel_rfl) Try.func4
    (ChangeSpec.witness6 (enc := enc) (C := Try.checked) false ⟨#[], #[.agg #[.int .i64 0, .int .i64 0, .int .i64 0, .slice none 0 0], .int .i64 0], []⟩ 8 (by kernel_rfl) (by kernel_rfl) (by kernel_rfl) (by kernel_rfl)) ?_
  intro W base args ds gs before hval0 hW hcnd _
  have hval : ∀ (j : Nat) t v, Try.f4.params[j]? = some t → args[j]? = some v → Value.okWide Try.prog W .any base t v := hval0
  have hW' := hW
  obtain ⟨p, q, hA0, hV, rfl, hfz, hnd⟩ := hW
  have hA : DataW.TrodAll enc Try.prog W 0 (fun _ => true) true Try.f4.params.toList args.toList ds p := hA0
  rw [Try.params4] at hA hval
  obtain ⟨v0, vs0, d0, ds0, p0, q0, hargs, rfl, rfl, h0, r0⟩ := trodAll_cons hA
  obtain ⟨v1, vs1, d1, ds1, p1, q1, rfl, rfl, rfl, h1, r1⟩ := trodAll_cons r0
  obtain ⟨rfl, rfl, rfl⟩ := trodAll_nil r1
  obtain rfl : args = #[v0, v1] := by cases args; simp_all
  obtain ⟨rfl, rfl⟩ := trodVars_none hV
  obtain ⟨c0, rfl, sz0⟩ := okWide_struct Try.underlying24 (hval 0 24 v0 rfl rfl)
  have k0 := h0
  obtain ⟨sy0, cv0, eq0, hC0⟩ := sys_of_trod sz0 h0
  obtain rfl : c0 = #[.int .i64 sy0.vars, .int .i64 sy0.sites, .int .i64 sy0.fields, cv0] := by simpa [SysV] using eq0
  have lt0 : ∀ x ∈ p0, x.block < W.heap.size := by obtain ⟨m, hm⟩ := k0; exact DataW.trod_lt m _ _ _ hm
  obtain ⟨a1, rfl, rfl, rfl, w1⟩ := open_int Try.underlying3 (hval 1 3 v1 rfl rfl) h1
  have b1 := bounds_i64 w1
  clear hA0 hval0
  refine (DemandSlice_walk sy0 cv0 a1 W hC0 b1).mono fun e W' ⟨he, bel⟩ => ?_
  subst he
  exact ⟨_, rfl, _, _, _, [], _, [], hW', trodAll_mk1 (shut_bool Try.underlying4 _), (trodAll_cons_mk (Below.trod laidOut (by kernel_rfl) (of_decide_eq_true (by kernel_rfl)) k0 bel lt0) (trodAll_cons_mk (shut_int Try.underlying3 w1) trodAll_mk0)), rfl, bel.frame _, fun h => by cases h⟩

/-- The given statement. -/
theorem DemandSlice_holds : Rows.DemandSliceSaid :=
  OpenClaim.holds_of_wide 4 Try.f4 rfl rfl rfl rfl rfl rfl rfl ⟨rfl, rfl, rfl, rfl, rfl⟩ rfl rfl rfl rfl rfl (by kernel_rfl) Try.func4 (by kernel_rfl)
    (of_decide_eq_true (by kernel_rfl)) (by unfold Func.isWrapper; first | (rw [if_pos (by decide +kernel)]; kernel_rfl) | (rw [if_neg (by decide +kernel)]; exact ⟨rfl, rfl⟩))
    (fun os started H enc _ => DemandSlice_lifted os started H enc)

end Go.Proofs.Ytkfhopnolflchaa
