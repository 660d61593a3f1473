/- DemandEqual: for any system with at most 40 variables, 12 sites and 5 fields, a query with a sufficient budget returns what the least solution gives, and any other query all sites. Conditions: none. -/
import Derived.Test.YtkfhopnolflchaaDmb
namespace Go.Proofs.Ytkfhopnolflchaa
open Go.ChangeShapes Go.WideShapes Go.ChangeAt Go.RowKit Go.Dfl Go.And

/-- What Solve's lists are. -/
def SolL (s : Sy) (lu lv : List (List Int)) : Prop := (chkCode s ≠ 0 ∧ lu = [] ∧ lv = []) ∨ (chkCode s = 0 ∧ Sol s.S lu lv)
theorem SolL.unique {s : Sy} {lu lv lu' lv' : List (List Int)} (h : SolL s lu lv) (k : SolL s lu' lv') : lu = lu' ∧ lv = lv' := by
  rcases h with ⟨h0, rfl, rfl⟩ | ⟨h0, h⟩
  · rcases k with ⟨-, rfl, rfl⟩ | ⟨k0, -⟩
    · exact ⟨rfl, rfl⟩
    · exact absurd k0 h0
  · rcases k with ⟨k0, -, -⟩ | ⟨-, k⟩
    · exact absurd h0 k0
    · exact h.unique k
def SolvU (s : Sy) (W : World) (e : Ending) (W' : World) : Prop := ∃ ua uc va vc lu lv, e = .returned (.tuple #[.agg #[.slice ua lu.length uc, .slice va lv.length vc], .int .i64 (chkCode s)]) ∧ PtsIn W' (.slice ua lu.length uc) (.slice va lv.length vc) lu lv ∧ SolL s lu lv ∧ Below W.heap.size W W'
theorem SolveR.uni {s : Sy} {W : World} {e : Ending} {W' : World} (h : SolveR s W e W') : SolvU s W e W' := by
  rcases h with ⟨h0, rfl, hb⟩ | ⟨h0, ua, uc, va, vc, lu, lv, rfl, hp, hs, hb⟩
  · exact ⟨none, 0, none, 0, [], [], rfl, ⟨⟨_, nilGrid _⟩, _, nilGrid _⟩, .inl ⟨h0, rfl, rfl⟩, hb⟩
  · refine ⟨ua, uc, va, vc, lu, lv, by rw [hs.1, hs.2.1, h0], ?_, .inr ⟨h0, hs⟩, hb⟩
    rw [hs.1, hs.2.1]; exact hp


theorem vis_pos {S : Syst} {v : Nat} {vl : List Bool} (h : IsVis S v vl) (hv : v < S.vars) : 1 ≤ vl.count true ∧ vl.count true ≤ S.vars := by
  have h1 := (h.iff v).2 .root
  have hl : v < vl.length := by rw [h.len]; exact hv
  have hm : true ∈ vl := by rw [← h1]; exact nth_mem _ _ hl
  have h2 : vl.count true ≤ vl.length := List.count_le_length
  rw [h.len] at h2
  exact ⟨List.count_pos_iff.2 hm, h2⟩
/-- A query with enough budget. -/
theorem QL.enough {s : Sy} {v b : Int} {L : List Int} {c : Int} {vl : List Bool} (h : QL s v b L c) (h0 : dCode s v = 0) (hv : IsVis s.S v.toNat vl) (h1 : (vl.count true : Int) ≤ b) (h2 : b ≤ 65536) : c = 0 ∧ IsSol s.S v.toNat L := by
  rcases h with ⟨k0, -⟩ | ⟨-, k1, -⟩ | ⟨-, -, -, vl', hv', k3⟩
  · exact absurd h0 k0
  · omega
  · obtain rfl := hv.unique hv'
    rcases k3 with ⟨b1, -⟩ | ⟨-, rfl, b2⟩
    · omega
    · exact ⟨rfl, b2⟩
/-- A system and an assignment in memory. -/
structure EqB (bs bp : Nat) (s : Sy) (cv : Value) (xa : Option Addr) (xc : Nat) (ya : Option Addr) (yc : Nat) (lu lv : List (List Int)) (W Z : World) : Prop where
  sys : SysB bs s cv Z
  p : PtsB bp (.slice xa lu.length xc) (.slice ya lv.length yc) lu lv Z
  bel : Below W.heap.size W Z
theorem EqB.below {bs bp : Nat} {s : Sy} {cv : Value} {xa : Option Addr} {xc : Nat} {ya : Option Addr} {yc : Nat} {lu lv : List (List Int)} {W Z Z' : World} (h : EqB bs bp s cv xa xc ya yc lu lv W Z) (hb : Below Z.heap.size Z Z') : EqB bs bp s cv xa xc ya yc lu lv W Z' := ⟨h.sys.below hb, h.p.below hb, h.bel.trans (hb.mono h.bel.size)⟩
set_option maxHeartbeats 6400000 in
set_option maxRecDepth 100000 in
theorem DemandEqual_walk (s : Sy) (cv : Value) (v b : Int) (W : World) (hc : ConsIn W cv s.cons) (_hv : -9223372036854775808 ≤ v ∧ v ≤ 9223372036854775807) (_hb : -9223372036854775808 ≤ b ∧ b ≤ 9223372036854775807) :
    Calls Try.prog 5 #[SysV s cv, .int .i64 v, .int .i64 b] W (TruePost W) := by
  obtain ⟨ca, cc, rfl, -⟩ := hc.out
  have HC := Lib.hid hc
  clear hc
  unfold SysV
  go_enter Try.func5, Try.ntmps5
  go_wp2_with fail
  refine calls_gen (fun Z => SysB W.heap.size s (.slice ca s.cons.length cc) Z ∧ Below W.heap.size W Z) ⟨SysB.new HC.out 24, (Below.refl _ _).alloc (Nat.le_refl _) _⟩ ?_
  rintro Z0 h0
  obtain ⟨bs, hbs⟩ : ∃ bs, bs = W.heap.size := ⟨_, rfl⟩
  have H0 : Hid (SysB bs s (.slice ca s.cons.length cc) Z0 ∧ Below W.heap.size W Z0) := by rw [hbs]; exact h0
  rw [← hbs]
  clear h0 hbs HC
  refine (Small_any s (.slice ca s.cons.length cc) _ H0.out.1.cons).mono ?_
  rintro e W1 ⟨b1, rfl, hb1, r1⟩
  have hb1 := H0.out.2.trans (r1.mono H0.out.2.size)
  have H1 := Lib.hid (And.intro (H0.out.1.below r1) hb1)
  obtain ⟨⟨d0, d1, d2, d3⟩, -⟩ := H1.out.1
  clear hb1 H0 r1
  cases b1
  · go_wp2_with fail
    refine (awake_any _).mono ?_
    rintro e W2 ⟨rfl, r2⟩
    clear d0 d1 d2 d3
    have H2 := Lib.hid (H1.out.2.trans (r2.mono H1.out.2.size))
    clear r2 hb1
    go_wp2_with fail
    go_ret
    exact ⟨rfl, H2.out⟩
  · have HSM := Lib.hid (hb1.1 rfl).sm
    clear hb1
    go_wp2_with fail
    clear d0 d1 d2 d3
    refine (awake_any _).mono ?_
    rintro e W2 ⟨rfl, r2⟩
    have hb2 := H1.out.2.trans (r2.mono H1.out.2.size)
    have H2 := Lib.hid (And.intro (H1.out.1.below r2) hb2)
    obtain ⟨⟨d0, d1, d2, d3⟩, -⟩ := H2.out.1
    clear hb2 H1 r2
    go_wp2_with fail
    clear d0 d1 d2 d3
    refine (Solve_any s (.slice ca s.cons.length cc) _ H2.out.1.cons HSM.out).mono ?_
    intro e W3 hr3
    obtain ⟨xa, xc, ya, yc, lu, lv, rfl, hp3, hs3, r3⟩ := hr3.uni
    clear hr3
    have hal : Below W3.heap.size W3 (W3.alloc (.cells #[.slice xa lu.length xc, .slice ya lv.length yc] 41)) := (Below.refl _ _).alloc (Nat.le_refl _) _
    have hbW : Below W.heap.size W W3 := H2.out.2.trans (r3.mono H2.out.2.size)
    have hE : EqB bs W3.heap.size s (.slice ca s.cons.length cc) xa xc ya yc lu lv W (W3.alloc (.cells #[.slice xa lu.length xc, .slice ya lv.length yc] 41)) := ⟨(H2.out.1.below r3).below hal, PtsB.new hp3 41, hbW.alloc hbW.size _⟩
    have HE := Lib.hid hE
    have HS3 := Lib.hid hs3
    obtain ⟨code, hcode⟩ : ∃ code, code = chkCode s := ⟨_, rfl⟩
    rw [← hcode]
    have HCODE := Lib.hid hcode
    obtain ⟨d0, d1, d2, d3⟩ := HE.out.sys.box
    clear hal hbW hp3 hs3 r3 hcode H2 hE
    go_wp2_with fail
    clear d0 d1 d2 d3
    refine calls_gen (fun Z => EqB bs W3.heap.size s (.slice ca s.cons.length cc) xa xc ya yc lu lv W Z) HE.out ?_
    rintro Z3 h3
    obtain ⟨bp, hbp⟩ : ∃ bp, bp = W3.heap.size := ⟨_, rfl⟩
    rw [← hbp] at h3 ⊢
    have H3 := Lib.hid h3
    clear h3 hbp HE
    refine (Needs_any s (.slice ca s.cons.length cc) v _ H3.out.sys.cons HSM.out).mono ?_
    rintro e W4 ⟨a4, c4, L4, rfl, hI4, hN4, r4⟩
    have H4 := Lib.hid (H3.out.below r4)
    clear H3 r4
    by_cases h0 : dCode s v = 0
    · obtain ⟨hck, hv0, hv1⟩ := dCode_zero h0
      have hcode0 : code = 0 := by rw [HCODE.out]; exact hck
      obtain ⟨vl, hvl, hLe⟩ : ∃ vl, IsVis s.S v.toNat vl ∧ L4 = NL vl := by
        rcases hN4 with ⟨h, -⟩ | ⟨-, h⟩
        · exact absurd h0 h
        · exact h
      have hsol : Sol s.S lu lv := by
        rcases HS3.out with ⟨h, -⟩ | ⟨-, h⟩
        · exact absurd hck h
        · exact h
      obtain ⟨n, rfl⟩ : ∃ n : Nat, v = n := ⟨v.toNat, by omega⟩
      rw [Int.toNat_natCast] at hvl
      have hn : n < s.S.vars := by show n < s.vars.toNat; omega
      have hcnt := vis_pos hvl hn
      have hsv : s.S.vars ≤ 40 := HSM.out.bnd.vars
      have hlu : lu.length = s.S.vars := hsol.1
      have hL4 : L4.length = vl.count true := by rw [hLe, NL_len]
      rw [hcode0, h0, hL4]
      obtain ⟨m, hm⟩ : ∃ m, m = vl.count true := ⟨_, rfl⟩
      rw [← hm] at hcnt ⊢
      have HN := Lib.hid (And.intro h0 (And.intro hvl (And.intro hsol (And.intro hm (And.intro hlu hck)))))
      have hnl : n < lu.length := by rw [hlu]; exact hn
      have hll : lu.length ≤ 40 := by rw [hlu]; exact hsv
      have hm40 : m ≤ 40 := by omega
      clear hN4 hLe hL4 hvl hsol hm h0 hck hcode0 hlu hI4 hv0 hv1 hn hsv
      obtain ⟨hc1, hc2⟩ := hcnt
      have hd1 : decide ((n : Int) < 0) = false := by simp
      have hd2 : decide ((lu.length : Int) ≤ (n : Int)) = false := by simp; omega
      have hd3 : decide ((m : Int) < 1) = false := by simp; omega
      obtain ⟨p0, p1, -⟩ := H4.out.p
      obtain ⟨d0, d1, d2, d3⟩ := H4.out.sys.box
      go_wp2_with fail
      clear d0 d1 d2 d3
      clear p0 p1 hd1 hd2 hd3
      refine (Query_any s (.slice ca s.cons.length cc) n m _ H4.out.sys.cons HSM.out).mono ?_
      rintro e W5 ⟨a5, c5, L5, code5, rfl, hI5, hQ5, r5⟩
      obtain ⟨rfl, hS5⟩ := hQ5.enough HN.out.1 (by simpa using HN.out.2.1) (by rw [HN.out.2.2.2.1]; omega) (by omega)
      rw [Int.toNat_natCast] at hS5
      have h5e : L5 = nth lu n := hS5.unique (HN.out.2.2.1.2.2.1 n (by rw [← HN.out.2.2.2.2.1]; exact hnl))
      have H5 := Lib.hid (And.intro (H4.out.below r5) (And.intro hI5 (And.intro h5e hS5)))
      obtain ⟨d0, d1, d2, d3⟩ := H5.out.1.sys.box
      clear hQ5 r5 hI5 h5e H4 hS5
      go_wp2_with fail
      clear d0 d1 d2 d3
      refine (Query_any s (.slice ca s.cons.length cc) n b _ H5.out.1.sys.cons HSM.out).mono ?_
      rintro e W6 ⟨a6, c6, L6, code6, rfl, hI6, hQ6, r6⟩
      have H6 := Lib.hid (And.intro (H5.out.1.below r6) (And.intro (H5.out.2.1.below r6) (And.intro hI6 (And.intro H5.out.2.2 hQ6))))
      clear r6 hI6 hQ6 H5
      obtain ⟨p0, p1, ⟨us, hg⟩, -⟩ := H6.out.1.p
      obtain ⟨ra, rc, hra, ii1, -, -, hcs⟩ := grid_rd hg rfl hnl
      have hrow := (hcs _ hg).1
      have hgi := hg.2.2 n hnl
      rw [hra] at hgi
      have HG := Lib.hid hgi
      clear hcs hg hra hgi
      go_wp2_with fail
      clear hrow ii1
      refine (sameInts_eq _ _ L5 _ H6.out.2.1 (by rw [H6.out.2.2.2.1.1]; exact HG.out)).mono ?_
      rintro e W7 ⟨rfl, n7, rfl⟩
      have H7 := Lib.hid (below_drewN H6.out.1.bel n7)
      rcases H6.out.2.2.2.2 with ⟨k0, -⟩ | ⟨-, k1, k2, k3⟩ | ⟨-, k1, k2, vl2, hv2, ⟨k4, k5, k6⟩ | ⟨k4, k5, k6⟩⟩
      · exact absurd HN.out.1 k0
      · subst k2 k3
        rw [show ([] : List Int).length = 0 from rfl]
        clear p0 p1
        rcases k1 with h | h
        · have hd4 : decide ((m : Int) ≤ b) = false := by simp; omega
          have hd5 : decide (0 ≤ b) = false := by simp; omega
          go_wp2_with fail
          go_ret
          exact ⟨rfl, H7.out⟩
        · have hd4 : decide ((m : Int) ≤ b) = true := by simp; omega
          have hd5 : decide (0 ≤ b) = true := by simp; omega
          have hd6 : decide (b ≤ 65536) = false := by simp; omega
          go_wp2_with fail
          go_ret
          exact ⟨rfl, H7.out⟩
      · obtain rfl := HN.out.2.1.unique (by simpa using hv2)
        rw [← HN.out.2.2.2.1] at k4
        subst k5 k6
        clear hv2 p0 p1
        obtain ⟨d0, d1, d2, d3⟩ := H6.out.1.sys.box
        have es : s.sites = (s.S.sites : Int) := (Int.toNat_of_nonneg (chkCode_ok.1 HN.out.2.2.2.2.2).sites).symm
        rw [es] at d1
        rw [show (rngL s.S.sites).length = s.S.sites by simp [rngL]]
        have hd4 : decide ((m : Int) ≤ b) = false := by simp; omega
        have hd5 : decide (0 ≤ b) = true := by simp; omega
        have hd6 : decide (b ≤ 65536) = true := by simp; omega
        generalize s.S.sites = ns at *
        clear es
        go_wp2_with fail
        go_ret
        exact ⟨rfl, H7.out⟩
      · obtain rfl := HN.out.2.1.unique (by simpa using hv2)
        rw [← HN.out.2.2.2.1] at k4
        subst k5
        rw [Int.toNat_natCast] at k6
        obtain rfl := H6.out.2.2.2.1.2.unique k6
        clear hv2 p0 p1 k6
        have hd4 : decide ((m : Int) ≤ b) = true := by simp; omega
        have hd6 : decide (b ≤ 65536) = true := by simp; omega
        go_wp2_with fail
        refine (sameInts_eq _ _ L5 _ (H6.out.2.1.qt (Qt.drewN _ _)) (H6.out.2.2.1.qt (Qt.drewN _ _))).mono ?_
        rintro e W8 ⟨rfl, n8, rfl⟩
        go_wp2_with fail
        go_ret
        exact ⟨rfl, by first | exact below_drewN H6.out.1.bel _ | exact below_drewN H7.out _⟩
    · have hz : (dCode s v != 0) = true := by simpa using h0
      generalize dCode s v = dc at *
      by_cases hz0 : code = 0
      · have hzc : (code != 0) = false := by simpa using hz0
        clear hz0 h0
        go_wp2_with fail
        go_ret
        exact ⟨rfl, H4.out.bel⟩
      · have hzc : (code != 0) = true := by simpa using hz0
        clear hz0 h0
        go_wp2_with fail
        go_ret
        exact ⟨rfl, H4.out.bel⟩

set_option maxRecDepth 100000 in
theorem DemandEqual_lifted (os : Os) (started : os.Started) (H : Type) (enc : TypeId × Value → H) :
    ReturnsInHanded {} Try.checked os 5 .any (Rows.demandEqualSpec.pre6 enc Try.prog Try.f5 Rows.demandEqualRow.domain false) (Rows.demandEqualSpec.post enc Try.prog Try.f5 false true false false) := by
  refine returnsInHanded_of_change (C := Try.checked) own started (by kernel_rfl) Try.func5
    (ChangeSpec.witness6 (enc := enc) (C := Try.checked) false ⟨#[], #[.agg #[.int .i64 0, .int .i64 0, .int .i64 0, .slice none 0 0], .int .i64 0, .int .i64 0], []⟩ 8 (by kernel_rfl) (by kernel_rfl) (by kernel_rfl) (by kernel_rfl)) ?_
  intro W base args ds gs before hval0 hW hcnd _
  have hval : ∀ (j : Nat) t v, Try.f5.params[j]? = some t → args[j]? = some v → Value.okWide Try.prog W .any base t v := hval0
  have hW' := hW
  obtain ⟨p, q, hA0, hV, rfl, hfz, hnd⟩ := hW
  have hA : DataW.TrodAll enc Try.prog W 0 (fun _ => true) true Try.f5.params.toList args.toList ds p := hA0
  rw [Try.params5] at hA hval
  obtain ⟨v0, vs0, d0, ds0, p0, q0, hargs, rfl, rfl, h0, r0⟩ := trodAll_cons hA
  obtain ⟨v1, vs1, d1, ds1, p1, q1, rfl, rfl, rfl, h1, r1⟩ := trodAll_cons r0
  obtain ⟨v2, vs2, d2, ds2, p2, q2, rfl, rfl, rfl, h2, r2⟩ := trodAll_cons r1
  obtain ⟨rfl, rfl, rfl⟩ := trodAll_nil r2
  obtain rfl : args = #[v0, v1, v2] := by cases args; simp_all
  obtain ⟨rfl, rfl⟩ := trodVars_none hV
  obtain ⟨c0, rfl, sz0⟩ := okWide_struct Try.underlying24 (hval 0 24 v0 rfl rfl)
  have k0 := h0
  obtain ⟨sy0, cv0, eq0, hC0⟩ := sys_of_trod sz0 h0
  obtain rfl : c0 = #[.int .i64 sy0.vars, .int .i64 sy0.sites, .int .i64 sy0.fields, cv0] := by simpa [SysV] using eq0
  have lt0 : ∀ x ∈ p0, x.block < W.heap.size := by obtain ⟨m, hm⟩ := k0; exact DataW.trod_lt m _ _ _ hm
  obtain ⟨a1, rfl, rfl, rfl, w1⟩ := open_int Try.underlying3 (hval 1 3 v1 rfl rfl) h1
  have b1 := bounds_i64 w1
  obtain ⟨a2, rfl, rfl, rfl, w2⟩ := open_int Try.underlying3 (hval 2 3 v2 rfl rfl) h2
  have b2 := bounds_i64 w2
  clear hA0 hval0
  refine (DemandEqual_walk sy0 cv0 a1 a2 W hC0 b1 b2).mono fun e W' ⟨he, bel⟩ => ?_
  subst he
  exact ⟨_, rfl, _, _, _, [], _, [], hW', trodAll_mk1 (shut_bool Try.underlying4 _), (trodAll_cons_mk (Below.trod laidOut (by kernel_rfl) (of_decide_eq_true (by kernel_rfl)) k0 bel lt0) (trodAll_cons_mk (shut_int Try.underlying3 w1) (trodAll_cons_mk (shut_int Try.underlying3 w2) trodAll_mk0))), rfl, bel.frame _, fun h => by cases h⟩

/-- The given statement. -/
theorem DemandEqual_holds : Rows.DemandEqualSaid :=
  OpenClaim.holds_of_wide 5 Try.f5 rfl rfl rfl rfl rfl rfl rfl ⟨rfl, rfl, rfl, rfl, rfl⟩ rfl rfl rfl rfl rfl (by kernel_rfl) Try.func5 (by kernel_rfl)
    (of_decide_eq_true (by kernel_rfl)) (by unfold Func.isWrapper; first | (rw [if_pos (by decide +kernel)]; kernel_rfl) | (rw [if_neg (by decide +kernel)]; exact ⟨rfl, rfl⟩))
    (fun os started H enc _ => DemandEqual_lifted os started H enc)

end Go.Proofs.Ytkfhopnolflchaa
