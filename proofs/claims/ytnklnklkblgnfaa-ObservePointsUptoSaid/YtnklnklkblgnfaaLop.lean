/- ObservePoints: for any record, the facts about references and integers are as the chapter says. Condition: the argument is of bulk at most 1048576. -/
import Derived.Test.YtnklnklkblgnfaaObi
import Derived.Test.YtnklnklkblgnfaaObw
import Derived.JoinedCond
namespace Go.Proofs.Ytnklnklkblgnfaa
open Go.ChangeShapes Go.WideShapes Go.ChangeAt Go.RowKit Go.Dfl Go.Gra Go.Obs
theorem sum_le9 {α : Type} (f g : α → Nat) (h : ∀ x, f x ≤ g x) : ∀ l : List α, (l.map f).sum ≤ (l.map g).sum
  | [] => by simp
  | x :: l => by have := sum_le9 f g h l; have := h x; simp; omega
theorem vs_sum : ∀ l : List Vl, l.length ≤ (l.map vVal.wt).sum
  | [] => by simp
  | x :: l => by
    have := vs_sum l
    have h : 1 ≤ vVal.wt x := by show 1 ≤ 4; omega
    simp; omega
theorem wt_val (x : Ex) : valN x ≤ vExec.wt x := by
  have h1 := sum_le9 (fun o : Ob => o.vs.length) vOb.wt (fun o => by
    have := vs_sum o.vs
    show o.vs.length ≤ ((o.vs.map vVal.wt).sum + 1) + 5
    omega) x.o
  show (x.o.map fun o => o.vs.length).sum ≤ (x.o.map vOb.wt).sum + 1 + 2
  omega
/-- The boxed execution. -/
def XB (W : World) (bx : Nat) (x : Ex) (ov : Value) (Z : World) : Prop := (Z.cell? ⟨bx, 1, none⟩ = some ov ∧ Z.cell? ⟨bx, 0, none⟩ = some (.int .i64 x.e)) ∧ ExIn Z ov x ∧ Below W.heap.size W Z
theorem XB.below {W : World} {bx : Nat} {x : Ex} {ov : Value} {Z Z' : World} (h : XB W bx x ov Z) (hb : Below Z.heap.size Z Z') : XB W bx x ov Z' :=
  ⟨⟨(hb.cell (World.block_lt_of_cell? _ _ h.1.1)).trans h.1.1, (hb.cell (World.block_lt_of_cell? _ _ h.1.2)).trans h.1.2⟩, h.2.1.below hb, bel_trans h.2.2 hb⟩
abbrev clP (l : List (Int × Int × Int)) (i j : Nat) : Value := ((elP.c (nth l i))[j]?).getD undef
abbrev clN (l : List (Int × Int × Int × Int)) (i j : Nat) : Value := ((elN.c (nth l i))[j]?).getD undef
set_option maxHeartbeats 3200000 in
set_option maxRecDepth 100000 in
theorem samePoints_any (a a' : Option Addr) (c c' : Nat) (l : List (Int × Int × Int)) (W : World) (h : Sliced W (.slice a l.length c) l.length 3 (clP l)) (h' : Sliced W (.slice a' l.length c') l.length 3 (clP l)) :
    Calls Try.prog 6 #[.slice a l.length c, .slice a' l.length c'] W fun e W' => e = .returned (.bool true) ∧ Below W.heap.size W W' := by
  obtain ⟨pa', pc', he1, hpm, pi, pcl, -⟩ := Sliced.outN h sPf (by decide)
  simp only [Value.slice.injEq] at he1
  obtain ⟨rfl, -, rfl⟩ := he1
  obtain ⟨na', nc', he2, -, ni, ncl, -⟩ := Sliced.outN h' sPf (by decide)
  simp only [Value.slice.injEq] at he2
  obtain ⟨rfl, -, rfl⟩ := he2
  have HC := Lib.hid (And.intro pi (And.intro pcl (And.intro ni ncl)))
  have w9 : ((l.length : Int) != (l.length : Int)) = false := by simp
  clear h h' pi pcl ni ncl
  go_enter Try.func6, Try.ntmps6
  go_wp2_with fail
  go_loopw [5] (fun y wr => ∃ i : Nat, i ≤ l.length ∧ y = .int .i64 (i : Int) ∧ Hid (∃ q, wr = W.drewN q)) (fun y _ => l.length - (intOf y).toNat)
  case atStart => exact ⟨0, by omega, rfl, 0, rfl⟩
  case round =>
    obtain ⟨i, hi, rfl, hh⟩ := hrel
    obtain ⟨q, rfl⟩ := hh.out
    clear hh
    by_cases hil : i < l.length
    · have hili : (i : Int) < (l.length : Int) := by omega
      have i1 := HC.out.1 .i64 (i : Int) (by omega) (by omega)
      have i2 := HC.out.2.2.1 .i64 (i : Int) (by omega) (by omega)
      have p0 := HC.out.2.1 i hil 0 (by decide)
      have p1 := HC.out.2.1 i hil 1 (by decide)
      have p2 := HC.out.2.1 i hil 2 (by decide)
      have n0 := HC.out.2.2.2 i hil 0 (by decide)
      have n1 := HC.out.2.2.2 i hil 1 (by decide)
      have n2 := HC.out.2.2.2 i hil 2 (by decide)
      rw [Int.toNat_natCast] at i1 i2
      obtain ⟨x, hx⟩ : ∃ x, x = nth l i := ⟨_, rfl⟩
      simp only [clP] at p0 p1 p2 n0 n1 n2
      rw [← hx] at p0 p1 p2 n0 n1 n2
      obtain ⟨x1, x2, x3⟩ := x
      simp [elP] at p0 p1 p2 n0 n1 n2 i1 i2
      clear hx
      go_upto_region 6 with fail
      go_quiet (fail)
      go_wp2_with fail
      go_roundw
      case rel => exact ⟨i + 1, by omega, by go_num, _, by first | rfl | (rw [World.drewN_drewN])⟩
      case measure => simp [intOf]; omega
    · obtain rfl : i = l.length := by omega
      have HE := Lib.hid (below_drewN (Below.refl W.heap.size W) q)
      clear hil
      go_wp2_with fail
      go_ret
      exact ⟨rfl, HE.out⟩
set_option maxHeartbeats 3200000 in
set_option maxRecDepth 100000 in
theorem ObservePoints_walk (c : Array Value) (x : Ex) (W : World) (h : vExec.ok W c.toList x) (hU : vExec.wt x ≤ 1048576) : Calls Try.prog 3 #[.agg c] W (TruePost W) := by
  obtain ⟨ov, he, hb, hO⟩ := h
  obtain rfl : c = #[.int .i64 x.e, ov] := by cases c; simp_all
  have hex : ExIn W ov x := ⟨hb, hO⟩
  have HN := Lib.hid (Nat.le_trans (wt_val x) hU)
  have H0 := Lib.hid (ExB.new hex)
  obtain ⟨oa, oc, rfl, hol, -, -⟩ := InS.ob H0.out.ex.2
  clear he hb hO hex hU
  go_enter Try.func3, Try.ntmps3
  go_upto_region 1 with fail
  refine gen_code (fun Z => ExB W x (.slice oa x.o.length oc) Z) H0.out ?_
  intro Z hz
  obtain ⟨bx, hbx⟩ : ∃ bx, bx = W.heap.size := ⟨_, rfl⟩
  have H1 : Hid (XB W bx x (.slice oa x.o.length oc) Z) := Lib.hid (by rw [hbx]; exact ⟨hz.box, hz.ex, hz.bel⟩)
  rw [← hbx]
  clear hz hbx H0
  by_cases h300 : 300 < x.o.length
  · have w1 : decide ((x.o.length : Int) > 300) = true := decide_eq_true (by omega)
    have w1n : decide (300 < x.o.length) = true := decide_eq_true h300
    obtain ⟨c1, c0⟩ := H1.out.1
    have HQ := Lib.hid (fun q : Nat => (H1.out.below (below_drewN (Below.refl Z.heap.size Z) q)).2.2)
    go_quiet (fail)
    go_wp2_with fail
    refine (awake_any _).mono ?_
    rintro e Z2 ⟨rfl, b⟩
    have HB := Lib.hid (bel_trans (HQ.out _) b)
    go_wp2_with fail
    go_ret
    exact ⟨rfl, HB.out⟩
  · have w1 : decide ((x.o.length : Int) > 300) = false := decide_eq_false (by omega)
    have w1n : decide (300 < x.o.length) = false := decide_eq_false h300
    have hdr : Below Z.heap.size Z Z.drew := (Below.refl _ _).drew
    have H2 := Lib.hid (H1.out.below hdr)
    refine wp_region_plan (.take 0 (.take 1 (.take 2 (.take 3 (.take 4 (.take 5 (.take 7 (.alt 6 (.alt 8 (.alt 9 (.take 10 (.take 11 .done)) .stop) .stop) .stop)))))))) (fun w' => w'.cell? ⟨bx, 1, none⟩ = some (.slice oa x.o.length oc) ∧ w'.cell? ⟨bx, 0, none⟩ = some (.int .i64 x.e)) (by kernel_rfl) (by kernel_rfl) (by kernel_rfl) (by kernel_rfl) H2.out.1 ?_
    clear hdr H1
    generalize Z.drew = V at *
    repeat (
      refine plan_take (v := ?_) rfl (Or.inl ⟨by rfl, ?_⟩) ?_
      rotate_left
      · (intro W hW; obtain ⟨q1, q2⟩ := hW; go_simp; try with_reducible rfl)
      simp only [Act.put, List.setIfInBounds_toArray, List.getElem_toArray, List.getElem_cons_zero, List.getElem_cons_succ, List.set_cons_succ, List.set_cons_zero])
    refine plan_alt rfl ?_ plan_stop
    have HP := Lib.hid (points_any x (.slice oa x.o.length oc) V H2.out.2.1 HN.out)
    go_wp2_with fail
    refine HP.out.mono ?_
    rintro e W2 ⟨pa, pc, L, rfl, ho, hp, hm, b2⟩
    have H3 := Lib.hid (And.intro (H2.out.below b2) (And.intro (OwnE.sliced ho) (And.intro hp hm)))
    clear ho hp hm b2 HP
    go_wp2_with fail
    refine tail_mk H3.out.1.1 ?_
    refine plan_alt rfl ?_ plan_stop
    have HP := Lib.hid (rPoints_any x (.slice oa x.o.length oc) W2 H3.out.1.2.1 HN.out)
    go_wp2_with fail
    refine HP.out.mono ?_
    rintro e W3 ⟨na, nc, M, rfl, ho, hp, hm, b2⟩
    obtain rfl : L = M := sto3.unique H3.out.2.2.1 hp (fun y => by rw [H3.out.2.2.2 y, hm y])
    have H4 := Lib.hid (And.intro (H3.out.1.below b2) (And.intro (Sliced.below H3.out.2.1 b2) (OwnE.sliced ho)))
    clear ho hp hm b2 HP
    go_wp2_with fail
    refine tail_mk H4.out.1.1 ?_
    refine plan_alt rfl ?_ plan_stop
    have HP := Lib.hid (samePoints_any pa na pc nc L W3 H4.out.2.1 H4.out.2.2)
    go_wp2_with fail
    refine HP.out.mono ?_
    rintro e W4 ⟨rfl, b2⟩
    have H5 := Lib.hid (H4.out.1.below b2)
    clear b2 HP
    go_wp2_with fail
    refine tail_mk H5.out.1 ?_
    repeat (
      refine plan_take (v := ?_) rfl (Or.inl ⟨by rfl, ?_⟩) ?_
      rotate_left
      · (intro W hW; obtain ⟨q1, q2⟩ := hW; go_simp; try with_reducible rfl)
      simp only [Act.put, List.setIfInBounds_toArray, List.getElem_toArray, List.getElem_cons_zero, List.getElem_cons_succ, List.set_cons_succ, List.set_cons_zero])
    refine plan_done ?_
    clear H2 H3 H4
    obtain ⟨c1, c0⟩ := H5.out.1
    go_upto_region 3 with fail
    have hdr : Below W4.heap.size W4 W4.drew := (Below.refl _ _).drew
    have H6 := Lib.hid (H5.out.below hdr)
    refine wp_region_plan (.take 0 (.take 2 (.alt 1 (.alt 3 (.take 4 (.take 5 .done)) .stop) .stop))) (fun w' => w'.cell? ⟨bx, 1, none⟩ = some (.slice oa x.o.length oc) ∧ w'.cell? ⟨bx, 0, none⟩ = some (.int .i64 x.e)) (by kernel_rfl) (by kernel_rfl) (by kernel_rfl) (by kernel_rfl) H6.out.1 ?_
    clear hdr H5 c0 c1
    generalize W4.drew = V4 at *
    repeat (
      refine plan_take (v := ?_) rfl (Or.inl ⟨by rfl, ?_⟩) ?_
      rotate_left
      · (intro W hW; obtain ⟨q1, q2⟩ := hW; go_simp; try with_reducible rfl)
      simp only [Act.put, List.setIfInBounds_toArray, List.getElem_toArray, List.getElem_cons_zero, List.getElem_cons_succ, List.set_cons_succ, List.set_cons_zero])
    refine plan_alt rfl ?_ plan_stop
    have HP := Lib.hid (ints_any x (.slice oa x.o.length oc) V4 H6.out.2.1 HN.out)
    go_wp2_with fail
    refine HP.out.mono ?_
    rintro e W5 ⟨pa, pc, l, rfl, ho, hp, hm, b2⟩
    have H7 := Lib.hid (And.intro (H6.out.below b2) (And.intro (OwnE.sliced ho) (And.intro hp hm)))
    clear ho hp hm b2 HP
    go_wp2_with fail
    refine tail_mk H7.out.1.1 ?_
    refine plan_alt rfl ?_ plan_stop
    have HP := Lib.hid (rInts_any x (.slice oa x.o.length oc) W5 H7.out.1.2.1 HN.out)
    go_wp2_with fail
    refine HP.out.mono ?_
    rintro e W6 ⟨na, nc, M, rfl, ho, hp, hm, b2⟩
    obtain rfl : l = M := sto4.unique H7.out.2.2.1 hp (fun y => by rw [H7.out.2.2.2 y, hm y])
    have H8 := Lib.hid (And.intro (H7.out.1.below b2) (And.intro (Sliced.below H7.out.2.1 b2) (OwnE.sliced ho)))
    clear ho hp hm b2 HP
    go_wp2_with fail
    refine tail_mk H8.out.1.1 ?_
    repeat (
      refine plan_take (v := ?_) rfl (Or.inl ⟨by rfl, ?_⟩) ?_
      rotate_left
      · (intro W hW; obtain ⟨q1, q2⟩ := hW; go_simp; try with_reducible rfl)
      simp only [Act.put, List.setIfInBounds_toArray, List.getElem_toArray, List.getElem_cons_zero, List.getElem_cons_succ, List.set_cons_succ, List.set_cons_zero])
    refine plan_done ?_
    have HH := Lib.hid (And.intro H8.out.1.2.2 H8.out.2)
    clear H6 H7 H8
    obtain ⟨pa', pc', he1, hpm, pi, pcl, -⟩ := Sliced.outN HH.out.2.1 sNf (by decide)
    simp only [Value.slice.injEq] at he1
    obtain ⟨rfl, -, rfl⟩ := he1
    obtain ⟨na', nc', he2, -, ni, ncl, -⟩ := Sliced.outN HH.out.2.2 sNf (by decide)
    simp only [Value.slice.injEq] at he2
    obtain ⟨rfl, -, rfl⟩ := he2
    have HC := Lib.hid (And.intro pi (And.intro pcl (And.intro ni ncl)))
    have w9 : ((l.length : Int) != (l.length : Int)) = false := by simp
    clear pi pcl ni ncl w1 w1n
    go_wp2_with fail
    go_loopw [5] (fun y wr => ∃ i : Nat, i ≤ l.length ∧ y = .int .i64 (i : Int) ∧ Hid (∃ q, wr = W6.drewN q)) (fun y _ => l.length - (intOf y).toNat)
    case atStart => exact ⟨0, by omega, rfl, 0, rfl⟩
    case round =>
      obtain ⟨i, hi, rfl, hh⟩ := hrel
      obtain ⟨q, rfl⟩ := hh.out
      clear hh
      by_cases hil : i < l.length
      · have hili : (i : Int) < (l.length : Int) := by omega
        have i1 := HC.out.1 .i64 (i : Int) (by omega) (by omega)
        have i2 := HC.out.2.2.1 .i64 (i : Int) (by omega) (by omega)
        have p0 := HC.out.2.1 i hil 0 (by decide)
        have p1 := HC.out.2.1 i hil 1 (by decide)
        have p2 := HC.out.2.1 i hil 2 (by decide)
        have p3 := HC.out.2.1 i hil 3 (by decide)
        have n0 := HC.out.2.2.2 i hil 0 (by decide)
        have n1 := HC.out.2.2.2 i hil 1 (by decide)
        have n2 := HC.out.2.2.2 i hil 2 (by decide)
        have n3 := HC.out.2.2.2 i hil 3 (by decide)
        rw [Int.toNat_natCast] at i1 i2
        obtain ⟨y, hy⟩ : ∃ y, y = nth l i := ⟨_, rfl⟩
        rw [← hy] at p0 p1 p2 p3 n0 n1 n2 n3
        obtain ⟨x1, x2, x3, x4⟩ := y
        simp [elN] at p0 p1 p2 p3 n0 n1 n2 n3 i1 i2
        clear hy
        go_upto_region 9 with fail
        go_quiet (fail)
        go_wp2_with fail
        go_roundw
        case rel => exact ⟨i + 1, by omega, by go_num, _, by first | rfl | (rw [World.drewN_drewN])⟩
        case measure => simp [intOf]; omega
      · obtain rfl : i = l.length := by omega
        have HE := Lib.hid (bel_trans HH.out.1 (below_drewN (Below.refl W6.heap.size W6) q))
        clear hil
        go_wp2_with fail
        refine (awake_any _).mono ?_
        rintro e Z2 ⟨rfl, b⟩
        have HB := Lib.hid (bel_trans HE.out b)
        go_wp2_with fail
        go_ret
        exact ⟨rfl, HB.out⟩
set_option maxRecDepth 100000 in
theorem ObservePoints_lifted (os : Os) (started : os.Started) (H : Type) (enc : TypeId × Value → H) (F : Stop.Interp) :
    ReturnsInHanded {} Try.checked os 3 .any ((Rows.OpenSpec.upto Rows.observePointsSpec).pre6 enc Try.prog Try.f3 Rows.observePointsUptoRow.domain false) (((Rows.OpenSpec.upto Rows.observePointsSpec).at F).post enc Try.prog Try.f3 false true false false) := by
  refine returnsInHanded_of_cond (C := Try.checked) (s := Rows.OpenSpec.upto Rows.observePointsSpec) (k := Rows.uptoSmall) rfl own started (by kernel_rfl) Try.func3
    (OpenSpec.witness (enc := enc) (C := Try.checked) (s := Rows.OpenSpec.upto Rows.observePointsSpec) (k := Rows.uptoSmall) rfl false ⟨#[], #[.agg #[.int .i64 0, .slice none 0 0]], []⟩ 8 (by kernel_rfl) (by kernel_rfl) (by kernel_rfl)
      (x := ([.agg [.lit (.int .i64 0), .nil]], [], [])) (by kernel_rfl) rfl (by kernel_rfl)) ?_
  intro W base args ds gs before hval0 hW _ hk _
  have hval : ∀ (j : Nat) t v, Try.f3.params[j]? = some t → args[j]? = some v → Value.okWide Try.prog W .any base t v := hval0
  have hW' := hW
  obtain ⟨p, q, hA0, hV, rfl, hfz, hnd⟩ := hW
  have hA : DataW.TrodAll enc Try.prog W 0 (fun _ => true) true Try.f3.params.toList args.toList ds p := hA0
  rw [Try.params3] at hA hval
  obtain ⟨v0, vs0, d0, ds0, p0, q0, hargs, rfl, rfl, h0, r0⟩ := trodAll_cons hA
  obtain ⟨rfl, rfl, rfl⟩ := trodAll_nil r0
  obtain rfl : args = #[v0] := by cases args; simp_all
  obtain ⟨rfl, rfl⟩ := trodVars_none hV
  obtain ⟨c0, rfl, sz0⟩ := okWide_struct Try.underlying24 (hval 0 24 v0 rfl rfl)
  have k0 := h0
  obtain ⟨x0, o0, u0⟩ := Opens.agg opens_exec h0
  have lt0 : ∀ x ∈ p0, x.block < W.heap.size := by obtain ⟨m, hm⟩ := k0; exact DataW.trod_lt m _ _ _ hm
  have hb : Rows.uptoBulkAll ([_] ++ []) ≤ 1048576 := of_decide_eq_true hk
  simp only [List.append_nil, Rows.uptoBulkAll] at hb
  clear hA0 hval0
  refine (ObservePoints_walk c0 x0 W o0 (by omega)).mono fun e W' ⟨he, bel⟩ => ?_
  subst he
  exact ⟨_, rfl, _, _, _, [], _, [], hW', trodAll_mk1 (shut_bool Try.underlying4 _), (trodAll_cons_mk (Below.trod laidOut (by kernel_rfl) (of_decide_eq_true (by kernel_rfl)) k0 bel lt0) trodAll_mk0), rfl, bel.frame _, fun h => by cases h⟩

/-- The given statement, in its second form. -/
theorem ObservePoints_holds : Rows.ObservePointsUptoSaid :=
  OpenClaim.holds_of_cond 3 Try.f3 rfl rfl rfl rfl rfl rfl rfl ⟨rfl, rfl, rfl, rfl, rfl⟩ rfl rfl rfl rfl rfl (by kernel_rfl) Try.func3 (by kernel_rfl)
    (of_decide_eq_true (by kernel_rfl)) (by unfold Func.isWrapper; first | (rw [if_pos (by decide +kernel)]; kernel_rfl) | (rw [if_neg (by decide +kernel)]; exact ⟨rfl, rfl⟩))
    (fun os started H enc _ F => ObservePoints_lifted os started H enc F)

end Go.Proofs.Ytnklnklkblgnfaa
