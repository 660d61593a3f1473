/- ObserveSites: the allocation sites of a unit are its INew instructions in order. Condition: the argument is of bulk at most 1048576. -/
import Derived.Test.YtnklnklkblgnfaaUns
import Derived.Test.YtnklnklkblgnfaaObw
import Derived.JoinedCond
namespace Go.Proofs.Ytnklnklkblgnfaa
open Go.ChangeShapes Go.WideShapes Go.ChangeAt Go.RowKit Go.Dfl Go.Gra Go.Obs
theorem sum_ge {α : Type} (f g : α → Nat) (h : ∀ x, f x ≤ g x) : ∀ l : List α, (l.map f).sum ≤ (l.map g).sum
  | [] => by simp
  | x :: l => by have := sum_ge f g h l; have := h x; simp; omega
theorem len_sum : ∀ l : List Is, l.length ≤ (l.map vIs.wt).sum
  | [] => by simp
  | x :: l => by
    have := len_sum l
    have h : 1 ≤ vIs.wt x := by show 1 ≤ _ + 1; omega
    simp; omega
theorem wt_cd (u : Un) : cdN u.fs ≤ vUnit.wt u := by
  have h1 := sum_ge (fun f : Fu => f.cd.length) vFu.wt (fun f => by
    have := len_sum f.cd
    show f.cd.length ≤ _ + ((f.cd.map vIs.wt).sum + 1) + 1
    omega) u.fs
  show (u.fs.map fun f => f.cd.length).sum ≤ vHier.wt u.cs + ((u.fs.map vFu.wt).sum + 1) + 1 + 1
  omega
set_option maxHeartbeats 3200000 in
set_option maxRecDepth 100000 in
theorem ObserveSites_walk (c : Array Value) (u : Un) (W : World) (h : vUnit.ok W c.toList u) (hU : vUnit.wt u ≤ 1048576) : Calls Try.prog 4 #[.agg c] W (TruePost W) := by
  obtain ⟨v0, v1, he, hb, hc, hf⟩ := h
  obtain rfl : c = #[v0, v1, .int .i64 u.mn] := by cases c; simp_all
  have hun : UnIn W v0 v1 u := ⟨hc, hf⟩
  have hn : cdN u.fs ≤ 1048576 := Nat.le_trans (wt_cd u) hU
  have hal := (Below.refl W.heap.size W).alloc (Nat.le_refl _) (.cells #[v0, v1, .int .i64 u.mn] 39)
  have H0 := Lib.hid (And.intro (UnB.new hun) hal)
  obtain ⟨a0, k0, rfl⟩ := hc.shape
  obtain ⟨a1, k1, rfl⟩ := hf.shape
  clear he hb hc hf hun hU hal
  obtain ⟨c0, c1, c2⟩ := H0.out.1.box
  go_enter Try.func4, Try.ntmps4
  go_upto_region 1 with fail
  refine gen_code (fun Z => UnB W.heap.size u (.slice a0 u.cs.length k0) (.slice a1 u.fs.length k1) Z ∧ Below W.heap.size W Z) H0.out ?_
  intro Z hz
  obtain ⟨bx, hbx⟩ : ∃ bx, bx = W.heap.size := ⟨_, rfl⟩
  have H1 : Hid (UnB bx u (.slice a0 u.cs.length k0) (.slice a1 u.fs.length k1) Z ∧ Below W.heap.size W Z) := Lib.hid (by rw [hbx]; exact hz)
  rw [← hbx]
  clear c0 c1 c2 hz hbx H0
  obtain ⟨x0, x1, x2⟩ := H1.out.1.box
  obtain ⟨v0, hv0⟩ : ∃ v, v = Value.slice a0 u.cs.length k0 := ⟨_, rfl⟩
  obtain ⟨v1, hv1⟩ : ∃ v, v = Value.slice a1 u.fs.length k1 := ⟨_, rfl⟩
  rw [← hv0] at x0
  rw [← hv1] at x1
  rw [← hv0, ← hv1] at H1
  rw [← hv0, ← hv1]
  clear hv0 hv1
  refine wp_region_plan (.take 0 (.take 2 (.alt 1 (.alt 3 (.take 4 (.take 5 .done)) .stop) .stop))) (fun w' => w'.cell? ⟨bx, 0, none⟩ = some v0 ∧ w'.cell? ⟨bx, 1, none⟩ = some v1 ∧ w'.cell? ⟨bx, 2, none⟩ = some (.int .i64 u.mn)) (by kernel_rfl) (by kernel_rfl) (by kernel_rfl) (by kernel_rfl) ⟨x0, x1, x2⟩ ?_
  have hdr : Below Z.heap.size Z Z.drew := (Below.refl _ _).drew
  have H2 := Lib.hid (And.intro (H1.out.1.below hdr) (bel_trans H1.out.2 hdr))
  clear hdr x0 x1 x2 H1
  generalize Z.drew = V at *
  repeat (
    refine plan_take (v := ?_) rfl (Or.inl ⟨by rfl, ?_⟩) ?_
    rotate_left
    · (intro W hW; obtain ⟨q1, q2, q3⟩ := hW; go_simp; try with_reducible rfl)
    simp only [Act.put, List.setIfInBounds_toArray, List.getElem_toArray, List.getElem_cons_zero, List.getElem_cons_succ, List.set_cons_succ, List.set_cons_zero])
  refine plan_alt rfl ?_ plan_stop
  have HP := Lib.hid (sites_any u v0 v1 V H2.out.1.un hn)
  go_wp2_with fail
  refine HP.out.mono ?_
  rintro e W2 ⟨pa, pc, rfl, ho, b2⟩
  have H3 := Lib.hid (And.intro (H2.out.1.below b2) (And.intro (bel_trans H2.out.2 b2) (OwnE.sliced ho)))
  clear ho b2 HP
  go_wp2_with fail
  refine tail_mk H3.out.1.box ?_
  refine plan_alt rfl ?_ plan_stop
  have HP := Lib.hid (rSites_any u v0 v1 W2 H3.out.1.un hn)
  go_wp2_with fail
  refine HP.out.mono ?_
  rintro e W3 ⟨na, nc, rfl, ho, b2⟩
  have H4 := Lib.hid (And.intro (H3.out.1.below b2) (And.intro (bel_trans H3.out.2.1 b2) (And.intro (Sliced.below H3.out.2.2 b2) (OwnE.sliced ho))))
  clear ho b2 HP
  go_wp2_with fail
  refine tail_mk H4.out.1.box ?_
  repeat (
    refine plan_take (v := ?_) rfl (Or.inl ⟨by rfl, ?_⟩) ?_
    rotate_left
    · (intro W hW; go_simp; try with_reducible rfl)
    simp only [Act.put, List.setIfInBounds_toArray, List.getElem_toArray, List.getElem_cons_zero, List.getElem_cons_succ, List.set_cons_succ, List.set_cons_zero])
  refine plan_done ?_
  obtain ⟨l, hl⟩ : ∃ l, l = sites u := ⟨_, rfl⟩
  rw [← hl] at H4 ⊢
  have HH := Lib.hid H4.out.2
  clear hl H2 H3 H4
  obtain ⟨pa', pc', he1, hpm, pi, pcl, -⟩ := Sliced.outN HH.out.2.1 sSf (by decide)
  simp only [Value.slice.injEq] at he1
  obtain ⟨rfl, -, rfl⟩ := he1
  obtain ⟨na', nc', he2, -, ni, ncl, -⟩ := Sliced.outN HH.out.2.2 sSf (by decide)
  simp only [Value.slice.injEq] at he2
  obtain ⟨rfl, -, rfl⟩ := he2
  have HC := Lib.hid (And.intro pi (And.intro pcl (And.intro ni ncl)))
  have w9 : ((l.length : Int) != (l.length : Int)) = false := by simp
  clear pi pcl ni ncl
  go_wp2_with fail
  go_loopw [5] (fun y wr => ∃ i : Nat, i ≤ l.length ∧ y = .int .i64 (i : Int) ∧ Hid (∃ q, wr = W3.drewN q)) (fun y _ => l.length - (intOf y).toNat)
  case atStart => exact ⟨0, by omega, rfl, 0, rfl⟩
  case round =>
    obtain ⟨i, hi, rfl, hh⟩ := hrel
    obtain ⟨q, rfl⟩ := hh.out
    clear hh
    by_cases hil : i < l.length
    · have hili : (i : Int) < (l.length : Int) := by omega
      have i1 := HC.out.1 .i64 (i : Int) (by omega) (by omega)
      have i2 := HC.out.2.2.1 .i64 (i : Int) (by omega) (by omega)
      have p0 := HC.out.2.1 i hil 0 (by decide)
      have p1 := HC.out.2.1 i hil 1 (by decide)
      have p2 := HC.out.2.1 i hil 2 (by decide)
      have n0 := HC.out.2.2.2 i hil 0 (by decide)
      have n1 := HC.out.2.2.2 i hil 1 (by decide)
      have n2 := HC.out.2.2.2 i hil 2 (by decide)
      rw [Int.toNat_natCast] at i1 i2
      obtain ⟨x, hx⟩ : ∃ x, x = nth l i := ⟨_, rfl⟩
      rw [← hx] at p0 p1 p2 n0 n1 n2
      obtain ⟨x1, x2, x3⟩ := x
      simp [elS] at p0 p1 p2 n0 n1 n2 i1 i2
      clear hx
      go_upto_region 7 with fail
      go_quiet (fail)
      go_wp2_with fail
      go_roundw
      case rel => exact ⟨i + 1, by omega, by go_num, _, by first | rfl | (rw [World.drewN_drewN])⟩
      case measure => simp [intOf]; omega
    · obtain rfl : i = l.length := by omega
      have HE := Lib.hid (bel_trans HH.out.1 (below_drewN (Below.refl W3.heap.size W3) q))
      clear hil
      go_wp2_with fail
      refine (awake_any _).mono ?_
      rintro e Z ⟨rfl, b⟩
      have HB := Lib.hid (bel_trans HE.out b)
      go_wp2_with fail
      go_ret
      exact ⟨rfl, HB.out⟩
set_option maxRecDepth 100000 in
theorem ObserveSites_lifted (os : Os) (started : os.Started) (H : Type) (enc : TypeId × Value → H) (F : Stop.Interp) :
    ReturnsInHanded {} Try.checked os 4 .any ((Rows.OpenSpec.upto Rows.observeSitesSpec).pre6 enc Try.prog Try.f4 Rows.observeSitesUptoRow.domain false) (((Rows.OpenSpec.upto Rows.observeSitesSpec).at F).post enc Try.prog Try.f4 false true false false) := by
  refine returnsInHanded_of_cond (C := Try.checked) (s := Rows.OpenSpec.upto Rows.observeSitesSpec) (k := Rows.uptoSmall) rfl own started (by kernel_rfl) Try.func4
    (OpenSpec.witness (enc := enc) (C := Try.checked) (s := Rows.OpenSpec.upto Rows.observeSitesSpec) (k := Rows.uptoSmall) rfl false ⟨#[], #[.agg #[.slice none 0 0, .slice none 0 0, .int .i64 0]], []⟩ 8 (by kernel_rfl) (by kernel_rfl) (by kernel_rfl)
      (x := ([.agg [.agg [.nil], .nil, .lit (.int .i64 0)]], [], [])) (by kernel_rfl) rfl (by kernel_rfl)) ?_
  intro W base args ds gs before hval0 hW _ hk _
  have hval : ∀ (j : Nat) t v, Try.f4.params[j]? = some t → args[j]? = some v → Value.okWide Try.prog W .any base t v := hval0
  have hW' := hW
  obtain ⟨p, q, hA0, hV, rfl, hfz, hnd⟩ := hW
  have hA : DataW.TrodAll enc Try.prog W 0 (fun _ => true) true Try.f4.params.toList args.toList ds p := hA0
  rw [Try.params4] at hA hval
  obtain ⟨v0, vs0, d0, ds0, p0, q0, hargs, rfl, rfl, h0, r0⟩ := trodAll_cons hA
  obtain ⟨rfl, rfl, rfl⟩ := trodAll_nil r0
  obtain rfl : args = #[v0] := by cases args; simp_all
  obtain ⟨rfl, rfl⟩ := trodVars_none hV
  obtain ⟨c0, rfl, sz0⟩ := okWide_struct Try.underlying39 (hval 0 39 v0 rfl rfl)
  have k0 := h0
  obtain ⟨x0, o0, u0⟩ := Opens.agg opens_unit h0
  have lt0 : ∀ x ∈ p0, x.block < W.heap.size := by obtain ⟨m, hm⟩ := k0; exact DataW.trod_lt m _ _ _ hm
  have hb : Rows.uptoBulkAll ([_] ++ []) ≤ 1048576 := of_decide_eq_true hk
  simp only [List.append_nil, Rows.uptoBulkAll] at hb
  clear hA0 hval0
  refine (ObserveSites_walk c0 x0 W o0 (by omega)).mono fun e W' ⟨he, bel⟩ => ?_
  subst he
  exact ⟨_, rfl, _, _, _, [], _, [], hW', trodAll_mk1 (shut_bool Try.underlying4 _), (trodAll_cons_mk (Below.trod laidOut (by kernel_rfl) (of_decide_eq_true (by kernel_rfl)) k0 bel lt0) trodAll_mk0), rfl, bel.frame _, fun h => by cases h⟩

/-- The given statement, in its second form. -/
theorem ObserveSites_holds : Rows.ObserveSitesUptoSaid :=
  OpenClaim.holds_of_cond 4 Try.f4 rfl rfl rfl rfl rfl rfl rfl ⟨rfl, rfl, rfl, rfl, rfl⟩ rfl rfl rfl rfl rfl (by kernel_rfl) Try.func4 (by kernel_rfl)
    (of_decide_eq_true (by kernel_rfl)) (by unfold Func.isWrapper; first | (rw [if_pos (by decide +kernel)]; kernel_rfl) | (rw [if_neg (by decide +kernel)]; exact ⟨rfl, rfl⟩))
    (fun os started H enc _ F => ObserveSites_lifted os started H enc F)

end Go.Proofs.Ytnklnklkblgnfaa
