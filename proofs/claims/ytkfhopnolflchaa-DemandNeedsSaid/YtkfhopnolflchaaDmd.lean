/- DemandNeeds: for any system with at most 40 variables, 12 sites and 5 fields, the least solution of the slice gives every variable that a query visits the same sites as that of the system, and each of them needs no other variables. Conditions: none. -/
import Derived.Test.YtkfhopnolflchaaDmc
import Derived.Test.YtkfhopnolflchaaRfa
namespace Go.Proofs.Ytkfhopnolflchaa
open Go.ChangeShapes Go.WideShapes Go.ChangeAt Go.RowKit Go.Dfl Go.And

theorem sol_sub {S S' : Syst} {lu lv lu' lv' : List (List Int)} (h : Sol S lu lv) (k : Sol S' lu' lv') (e1 : S'.vars = S.vars) (e2 : S'.sites = S.sites) (e3 : S'.fields = S.fields) (hs : ∀ {i x}, Pts S' i x → Pts S i x) : winB lu' lu = true ∧ winB lv' lv = true := by
  rw [winB_iff, winB_iff]
  have h1 := h.1
  have h2 := h.2.1
  have k1 := k.1
  have k2 := k.2.1
  rw [e1] at k1
  rw [e2, e3] at k2
  refine ⟨⟨by omega, fun i hi x hx => ?_⟩, by omega, fun i hi x hx => ?_⟩
  · have := ((k.2.2.1 i (by omega)).mem x).1 hx
    exact ((h.2.2.1 i (by omega)).mem x).2 ⟨this.1, hs this.2⟩
  · have := ((k.2.2.2 i (by rw [e2, e3]; omega)).mem x).1 hx
    rw [e1] at this
    exact ((h.2.2.2 i (by omega)).mem x).2 ⟨this.1, hs this.2⟩
theorem mem_NL {vl : List Bool} {x : Int} : x ∈ NL vl ↔ 0 ≤ x ∧ nth vl x.toNat = true := by
  unfold NL
  simp only [List.mem_map, List.mem_filter, List.mem_range]
  constructor
  · rintro ⟨n, ⟨-, h⟩, rfl⟩
    exact ⟨by omega, by simpa using h⟩
  · rintro ⟨h0, h⟩
    refine ⟨x.toNat, ⟨?_, h⟩, Int.toNat_of_nonneg h0⟩
    rcases Nat.lt_or_ge x.toNat vl.length with h1 | h1
    · exact h1
    · rw [nth_out _ _ h1] at h; cases h
/-- What the loop keeps. -/
structure NdB (bs bp bq : Nat) (s : Sy) (cv : Value) (xa : Option Addr) (xc : Nat) (ya : Option Addr) (yc : Nat) (lu lv : List (List Int)) (xa2 : Option Addr) (xc2 : Nat) (ya2 : Option Addr) (yc2 : Nat) (lu2 lv2 : List (List Int)) (la : Option Addr) (lc : Nat) (L : List Int) (W Z : World) : Prop where
  sys : SysB bs s cv Z
  p : PtsB bp (.slice xa lu.length xc) (.slice ya lv.length yc) lu lv Z
  q : PtsB bq (.slice xa2 lu2.length xc2) (.slice ya2 lv2.length yc2) lu2 lv2 Z
  l : Ints Z (.slice la L.length lc) L
  bel : Below W.heap.size W Z
theorem NdB.below {bs bp bq : Nat} {s : Sy} {cv : Value} {xa : Option Addr} {xc : Nat} {ya : Option Addr} {yc : Nat} {lu lv : List (List Int)} {xa2 : Option Addr} {xc2 : Nat} {ya2 : Option Addr} {yc2 : Nat} {lu2 lv2 : List (List Int)} {la : Option Addr} {lc : Nat} {L : List Int} {W Z Z' : World}
    (h : NdB bs bp bq s cv xa xc ya yc lu lv xa2 xc2 ya2 yc2 lu2 lv2 la lc L W Z) (hb : Below Z.heap.size Z Z') : NdB bs bp bq s cv xa xc ya yc lu lv xa2 xc2 ya2 yc2 lu2 lv2 la lc L W Z' := ⟨h.sys.below hb, h.p.below hb, h.q.below hb, h.l.below hb, h.bel.trans (hb.mono h.bel.size)⟩
set_option maxHeartbeats 12800000 in
set_option maxRecDepth 100000 in
theorem DemandNeeds_walk (s : Sy) (cv : Value) (v : Int) (W : World) (hc : ConsIn W cv s.cons) (_hv : -9223372036854775808 ≤ v ∧ v ≤ 9223372036854775807) :
    Calls Try.prog 6 #[SysV s cv, .int .i64 v] W (TruePost W) := by
  obtain ⟨ca, cc, rfl, -⟩ := hc.out
  have HC := Lib.hid hc
  clear hc
  unfold SysV
  go_enter Try.func6, Try.ntmps6
  go_wp2_with fail
  refine calls_gen (fun Z => SysB W.heap.size s (.slice ca s.cons.length cc) Z ∧ Below W.heap.size W Z) ⟨SysB.new HC.out 24, (Below.refl _ _).alloc (Nat.le_refl _) _⟩ ?_
  rintro Z0 h0
  obtain ⟨bs, hbs⟩ : ∃ bs, bs = W.heap.size := ⟨_, rfl⟩
  have H0 : Hid (SysB bs s (.slice ca s.cons.length cc) Z0 ∧ Below W.heap.size W Z0) := by rw [hbs]; exact h0
  rw [← hbs]
  clear h0 hbs HC
  refine (Small_any s (.slice ca s.cons.length cc) _ H0.out.1.cons).mono ?_
  rintro e W1 ⟨b1, rfl, hb1, r1⟩
  have hb1 := H0.out.2.trans (r1.mono H0.out.2.size)
  have H1 := Lib.hid (And.intro (H0.out.1.below r1) hb1)
  obtain ⟨⟨d0, d1, d2, d3⟩, -⟩ := H1.out.1
  clear hb1 H0 r1
  cases b1
  · go_wp2_with fail
    refine (awake_any _).mono ?_
    rintro e W2 ⟨rfl, r2⟩
    clear d0 d1 d2 d3
    have H2 := Lib.hid (H1.out.2.trans (r2.mono H1.out.2.size))
    clear r2 hb1
    go_wp2_with fail
    go_ret
    exact ⟨rfl, H2.out⟩
  · have HSM := Lib.hid (hb1.1 rfl).sm
    clear hb1
    go_wp2_with fail
    clear d0 d1 d2 d3
    refine (awake_any _).mono ?_
    rintro e W2 ⟨rfl, r2⟩
    have hb2 := H1.out.2.trans (r2.mono H1.out.2.size)
    have H2 := Lib.hid (And.intro (H1.out.1.below r2) hb2)
    obtain ⟨⟨d0, d1, d2, d3⟩, -⟩ := H2.out.1
    clear hb2 H1 r2
    go_wp2_with fail
    clear d0 d1 d2 d3
    refine (Solve_any s (.slice ca s.cons.length cc) _ H2.out.1.cons HSM.out).mono ?_
    intro e W3 hr3
    obtain ⟨xa, xc, ya, yc, lu, lv, rfl, hp3, hs3, r3⟩ := hr3.uni
    clear hr3
    have hal : Below W3.heap.size W3 (W3.alloc (.cells #[.slice xa lu.length xc, .slice ya lv.length yc] 41)) := (Below.refl _ _).alloc (Nat.le_refl _) _
    have hbW : Below W.heap.size W W3 := H2.out.2.trans (r3.mono H2.out.2.size)
    have hE : EqB bs W3.heap.size s (.slice ca s.cons.length cc) xa xc ya yc lu lv W (W3.alloc (.cells #[.slice xa lu.length xc, .slice ya lv.length yc] 41)) := ⟨(H2.out.1.below r3).below hal, PtsB.new hp3 41, hbW.alloc hbW.size _⟩
    have HE := Lib.hid hE
    have HS3 := Lib.hid hs3
    obtain ⟨code, hcode⟩ : ∃ code, code = chkCode s := ⟨_, rfl⟩
    rw [← hcode]
    have HCODE := Lib.hid hcode
    obtain ⟨d0, d1, d2, d3⟩ := HE.out.sys.box
    clear hal hbW hp3 hs3 r3 hcode H2 hE
    go_wp2_with fail
    clear d0 d1 d2 d3
    refine calls_gen (fun Z => EqB bs W3.heap.size s (.slice ca s.cons.length cc) xa xc ya yc lu lv W Z) HE.out ?_
    rintro Z3 h3
    obtain ⟨bp, hbp⟩ : ∃ bp, bp = W3.heap.size := ⟨_, rfl⟩
    rw [← hbp] at h3 ⊢
    have H3 := Lib.hid h3
    clear h3 hbp HE
    refine (Slice_any s (.slice ca s.cons.length cc) v _ H3.out.sys.cons HSM.out).mono ?_
    rintro e W4 ⟨a4, c4, t4, rfl, hc4, hT4, r4⟩
    have hal : Below W4.heap.size W4 (W4.alloc (.cells #[.int .i64 t4.vars, .int .i64 t4.sites, .int .i64 t4.fields, .slice a4 t4.cons.length c4] 24)) := (Below.refl _ _).alloc (Nat.le_refl _) _
    have H4 := Lib.hid (And.intro ((H3.out.below r4).below hal) (SysB.new hc4 24))
    have HT4 := Lib.hid hT4
    obtain ⟨d0, d1, d2, d3⟩ := H4.out.1.sys.box
    clear hal r4 hc4 hT4 H3
    unfold SysV
    go_wp2_with fail
    clear d0 d1 d2 d3
    refine calls_gen (fun Z => EqB bs bp s (.slice ca s.cons.length cc) xa xc ya yc lu lv W Z ∧ SysB W4.heap.size t4 (.slice a4 t4.cons.length c4) Z) H4.out ?_
    rintro Z4 h4
    obtain ⟨bt, hbt⟩ : ∃ b, b = W4.heap.size := ⟨_, rfl⟩
    rw [← hbt] at h4 ⊢
    have H5 := Lib.hid h4
    clear h4 hbt H4
    refine (Needs_any s (.slice ca s.cons.length cc) v _ H5.out.1.sys.cons HSM.out).mono ?_
    rintro e W5 ⟨a5, c5, L5, rfl, hI5, hN5, r5⟩
    have H6 := Lib.hid (And.intro (H5.out.1.below r5) (And.intro (H5.out.2.below r5) hI5))
    clear H5 r5 hI5
    by_cases h0 : dCode s v = 0
    · obtain ⟨hck, hv0, hv1⟩ := dCode_zero h0
      have hcode0 : code = 0 := by rw [HCODE.out]; exact hck
      obtain ⟨vl, hvl, rfl⟩ : ∃ vl, IsVis s.S v.toNat vl ∧ L5 = NL vl := by
        rcases hN5 with ⟨h, -⟩ | ⟨-, h⟩
        · exact absurd h0 h
        · exact h
      have hsol : Sol s.S lu lv := by
        rcases HS3.out with ⟨h, -⟩ | ⟨-, h⟩
        · exact absurd hck h
        · exact h
      obtain ⟨n, rfl⟩ : ∃ n : Nat, v = n := ⟨v.toNat, by omega⟩
      rw [Int.toNat_natCast] at hvl
      have hn : n < s.S.vars := by show n < s.vars.toNat; omega
      have hslc : SliceOfS s.S t4.S n ∧ Sm t4 ∧ chkCode t4 = 0 := by
        rcases HT4.out with ⟨h, -⟩ | ⟨-, vl', fl', hv', -, hf', rfl⟩
        · exact absurd h0 h
        · rw [Int.toNat_natCast] at hv' hf'
          exact ⟨Sy.cut_slice hv'.iff hf', Sy.cut_sm HSM.out, chkCode_ok.2 (Sy.cut_vld (chkCode_ok.1 hck))⟩
      have HN := Lib.hid (And.intro h0 (And.intro hvl (And.intro hsol (And.intro hck (And.intro hslc hn)))))
      rw [hcode0, h0]
      clear hN5 hvl hsol hck hslc h0 hcode0 hv0 hv1
      obtain ⟨d0, d1, d2, d3⟩ := H6.out.2.1.box
      go_wp2_with fail
      clear d0 d1 d2 d3
      refine (Solve_any t4 (.slice a4 t4.cons.length c4) _ H6.out.2.1.cons HN.out.2.2.2.2.1.2.1).mono ?_
      intro e W7 hr7
      obtain ⟨xa2, xc2, ya2, yc2, lu2, lv2, rfl, hp7, hs7, r7⟩ := hr7.uni
      clear hr7
      have hsol2 : Sol t4.S lu2 lv2 := by
        rcases hs7 with ⟨h, -⟩ | ⟨-, h⟩
        · exact absurd HN.out.2.2.2.2.1.2.2 h
        · exact h
      have hal : Below W7.heap.size W7 (W7.alloc (.cells #[.slice xa2 lu2.length xc2, .slice ya2 lv2.length yc2] 41)) := (Below.refl _ _).alloc (Nat.le_refl _) _
      have hE7 := (H6.out.1.below r7).below hal
      have hnd : NdB bs bp W7.heap.size s (.slice ca s.cons.length cc) xa xc ya yc lu lv xa2 xc2 ya2 yc2 lu2 lv2 a5 c5 (NL vl) W (W7.alloc (.cells #[.slice xa2 lu2.length xc2, .slice ya2 lv2.length yc2] 41)) := ⟨hE7.sys, hE7.p, PtsB.new hp7 41, (H6.out.2.2.below r7).below hal, hE7.bel⟩
      have hne : bp < W7.heap.size := World.block_lt_of_cell? W7 _ (H6.out.1.below r7).p.p0
      have hne2 : bp ≠ W7.heap.size := by omega
      obtain ⟨p0, p1, -⟩ := (H6.out.1.below r7).p
      rw [HN.out.2.2.2.2.1.2.2]
      have HND := Lib.hid (And.intro hnd hsol2)
      clear hal hE7 hnd hp7 hs7 r7 hsol2 H6
      go_wp2_with fail
      clear p0 p1 hne hne2
      refine calls_gen (fun Z => NdB bs bp W7.heap.size s (.slice ca s.cons.length cc) xa xc ya yc lu lv xa2 xc2 ya2 yc2 lu2 lv2 a5 c5 (NL vl) W Z) HND.out.1 ?_
      rintro Z7 h7
      obtain ⟨bq, hbq⟩ : ∃ b, b = W7.heap.size := ⟨_, rfl⟩
      rw [← hbq] at h7 ⊢
      have H7 := Lib.hid h7
      have HS2 := Lib.hid HND.out.2
      clear h7 hbq HND
      have hR1 := HN.out.2.2.1.inR (chkCode_ok.1 HN.out.2.2.2.1).ok HSM.out.bnd.sites
      have hR2 := HS2.out.inR (chkCode_ok.1 HN.out.2.2.2.2.1.2.2).ok HN.out.2.2.2.2.1.2.1.bnd.sites
      have hw := sol_sub HN.out.2.2.1 HS2.out HN.out.2.2.2.2.1.1.vars HN.out.2.2.2.2.1.1.sites HN.out.2.2.2.2.1.1.fields HN.out.2.2.2.2.1.1.sub
      refine (WithinP_any _ _ _ _ lu2 lv2 lu lv _ H7.out.q.pts H7.out.p.pts hR2.1 hR2.2.1 hR1.1 hR1.2.1 (fun i hi => Nat.le_trans (hR1.2.2.1 i hi) (by omega)) (fun i hi => Nat.le_trans (hR1.2.2.2 i hi) (by omega))).mono ?_
      rintro e W8 ⟨rfl, r8⟩
      rw [hw.1, hw.2, Bool.and_true]
      have H8 := Lib.hid (H7.out.below r8)
      clear r8 H7 hR1 hR2 hw
      obtain ⟨N, hNN⟩ : ∃ N, N = (NL vl).length := ⟨_, rfl⟩
      have hNb : N ≤ 40 := by
        rw [hNN, NL_len]
        exact Nat.le_trans (vis_pos HN.out.2.1 HN.out.2.2.2.2.2).2 HSM.out.bnd.vars
      rw [← hNN]
      have HNN := Lib.hid hNN
      clear hNN
      go_wp2_with fail
      go_loopw [13, 14, 15, 69] (fun _ _ _ x wr => ∃ k : Nat, k ≤ N ∧ x = .int .i64 k ∧ Hid (NdB bs bp bq s (.slice ca s.cons.length cc) xa xc ya yc lu lv xa2 xc2 ya2 yc2 lu2 lv2 a5 c5 (NL vl) W wr)) (fun _ _ _ x _ => N - (intOf x).toNat)
      case atStart => exact ⟨0, by omega, rfl, H8.out⟩
      case round =>
        obtain ⟨k, hk, rfl, hh⟩ := hrel
        by_cases hlt : k < N
        · have hym := nth_mem (NL vl) k (by rw [← HNN.out]; exact hlt)
          obtain ⟨hy0, hy1⟩ := mem_NL.1 hym
          obtain ⟨y, hy⟩ : ∃ y : Nat, (y : Int) = nth (NL vl) k := ⟨(nth (NL vl) k).toNat, Int.toNat_of_nonneg hy0⟩
          have hyt : (nth (NL vl) k).toNat = y := by omega
          rw [hyt] at hy1
          have hvy : Vis s.S n y := (HN.out.2.1.iff y).1 hy1
          have hys : y < s.S.vars := hvy.lt (chkCode_ok.1 HN.out.2.2.2.1).ok HN.out.2.2.2.2.2
          have hlul : lu.length = s.S.vars := HN.out.2.2.1.1
          have hlul2 : lu2.length = s.S.vars := by rw [HS2.out.1]; exact HN.out.2.2.2.2.1.1.vars
          have heq : nth lu2 y = nth lu y := by
            have h1 := HN.out.2.2.1.2.2.1 y hys
            have h2 := HS2.out.2.2.1 y (by rw [HN.out.2.2.2.2.1.1.vars]; exact hys)
            obtain ⟨M, hM, hP, hm⟩ := h2
            have h3 : IsSol s.S y (nth lu2 y) := ⟨M, hM, hP, fun z => (hm z).trans (HN.out.2.2.2.2.1.1.pts (chkCode_ok.1 HN.out.2.2.2.1).ok HN.out.2.2.2.2.2 hvy).symm⟩
            exact h3.unique h1
          have hl := hh.out.l
          rw [← HNN.out] at hl
          obtain ⟨il, xl⟩ := ints_rd hl HNN.out.symm hlt
          rw [← hy] at xl
          obtain ⟨p0, p1, ⟨us, hg⟩, -⟩ := hh.out.p
          obtain ⟨q0, q1, ⟨us2, hg2⟩, -⟩ := hh.out.q
          have hyl : y < lu.length := by omega
          have hyl2 : y < lu2.length := by omega
          obtain ⟨ra, rc, hra, ii1, -, -, hcs⟩ := grid_rd hg rfl hyl
          obtain ⟨ra2, rc2, hra2, ii2, -, -, hcs2⟩ := grid_rd hg2 rfl hyl2
          have hrow := (hcs _ hg).1
          have hrow2 := (hcs2 _ hg2).1
          have hgi := hg.2.2 y hyl
          have hgi2 := hg2.2.2 y hyl2
          rw [hra] at hgi
          rw [hra2] at hgi2
          rw [heq] at hrow2 hgi2
          have hcall : ∀ m, Calls Try.prog 13 #[.slice ra (nth lu y).length rc, .slice ra2 (nth lu y).length rc2] (wr.drewN m) fun e w' => e = .returned (.bool true) ∧ Qt (wr.drewN m) w' := fun m => sameInts_eq _ _ (nth lu y) _ (hgi.qt (Qt.drewN _ _)) (hgi2.qt (Qt.drewN _ _))
          obtain ⟨lm, hlm⟩ : ∃ m, m = (nth lu y).length := ⟨_, rfl⟩
          rw [← hlm] at hrow hrow2 hcall
          have HCall := Lib.hid hcall
          have HY := Lib.hid (And.intro hvy (And.intro hys hy))
          have hd1 : decide ((y : Int) < 0) = false := by simp
          have hd2 : decide ((lu.length : Int) ≤ (y : Int)) = false := by simp; omega
          have hd3 : decide ((lu2.length : Int) ≤ (y : Int)) = false := by simp; omega
          have XL := Lib.hid xl
          clear hcall hlm hgi hgi2 hcs hcs2 hg hg2 hra hra2 hl hy hyt hvy heq hym hy0 hy1
          have hlb : lu.length ≤ 40 := by have := HSM.out.bnd.vars; omega
          have hlb2 : lu2.length ≤ 40 := by have := HSM.out.bnd.vars; omega
          clear hlul hlul2
          go_wp2_with fail
          go_quiet ((go_at_call 13; exact Qt.quiet (HCall.out _)))
          go_wp2_with fail
          refine wp_gen (fun Z => NdB bs bp bq s (.slice ca s.cons.length cc) xa xc ya yc lu lv xa2 xc2 ya2 yc2 lu2 lv2 a5 c5 (NL vl) W Z ∧ Z.cell? ⟨blk a5, ofs a5 + k, none⟩ = some (.int .i64 (y : Int))) ⟨hh.out.below (Qt.below (by first | exact Qt.refl _ | exact Qt.drewN _ _ | exact (Qt.drewN _ _).trans (Qt.drewN _ _) | exact ((Qt.drewN _ _).trans (Qt.drewN _ _)).trans (Qt.drewN _ _) | exact Qt.drew _ | exact (Qt.drewN _ _).trans (Qt.drew _)) _), (grownBy_qt (by first | exact Qt.refl _ | exact Qt.drewN _ _ | exact (Qt.drewN _ _).trans (Qt.drewN _ _) | exact ((Qt.drewN _ _).trans (Qt.drewN _ _)).trans (Qt.drewN _ _) | exact Qt.drew _ | exact (Qt.drewN _ _).trans (Qt.drew _))).cell XL.out (by simp)⟩ ?_
          rintro W9 h9
          have H9 := Lib.hid h9
          clear h9 hd1 hd2 hd3 hrow hrow2 p0 p1 q0 q1 xl ii1 ii2 hh
          refine wp_region_plan (.take 0 (.take 1 (.take 2 (.take 3 (.take 4 (.alt 5 (.take 6 (.take 7 (.take 8 (.take 9 (.take 10 .done))))) .stop)))))) (fun w' => BoxS w' bs s (.slice ca s.cons.length cc) ∧ w'.cell? ⟨blk a5, ofs a5 + k, none⟩ = some (.int .i64 (y : Int))) (by kernel_rfl) (by kernel_rfl) (by kernel_rfl) (by kernel_rfl) ⟨H9.out.1.sys.box.grown (grownBy_drew0 _) (by simp), (grownBy_drew0 _).cell H9.out.2 (by simp)⟩ ?_
          have hdr : Below W9.heap.size W9 W9.drew := below_drewN (Below.refl _ _) 1
          have H9' := Lib.hid (And.intro (H9.out.1.below hdr) ((grownBy_below hdr).cell H9.out.2 (by simp)))
          clear hdr H9
          generalize W9.drew = V9 at *
          repeat (
            refine plan_take (v := ?_) rfl (Or.inl ⟨by rfl, ?_⟩) ?_
            rotate_left
            · (intro W hW; obtain ⟨⟨q1, q2, q3, q4⟩, q5⟩ := hW; go_simp; try with_reducible rfl)
            simp only [Act.put, List.setIfInBounds_toArray])
          refine plan_alt rfl ?_ plan_stop
          go_wp2_with fail
          refine (Needs_any s (.slice ca s.cons.length cc) y _ H9'.out.1.sys.cons HSM.out).mono ?_
          rintro e W10 ⟨a10, c10, L10, rfl, hI10, hN10, r10⟩
          have h0y : dCode s (y : Int) = 0 := dCode_ok HN.out.2.2.2.1 (by have h1 := HY.out.2.1; have h2 : s.S.vars = s.vars.toNat := rfl; omega)
          rw [h0y]
          have hpt : partB L10 (NL vl) = true := by
            rcases hN10 with ⟨h, -⟩ | ⟨-, vl', hv', rfl⟩
            · exact absurd h0y h
            · rw [Int.toNat_natCast] at hv'
              rw [partB_iff]
              intro i hi
              obtain ⟨g0, g1⟩ := mem_NL.1 (nth_mem _ _ hi)
              exact mem_NL.2 ⟨g0, (HN.out.2.1.iff _).2 (HY.out.1.trans ((hv'.iff _).1 g1))⟩
          have H10 := Lib.hid (And.intro (H9'.out.1.below r10) (And.intro ((grownBy_below r10).cell H9'.out.2 (by simp)) (And.intro hI10 hpt)))
          obtain ⟨n10, hn10⟩ : ∃ m, m = L10.length := ⟨_, rfl⟩
          rw [← hn10]
          have HN10 := Lib.hid hn10
          clear hpt hI10 hN10 r10 h0y hn10 H9'
          go_wp2_with fail
          refine tail_mk ⟨H10.out.1.sys.box, H10.out.2.1⟩ ?_
          repeat (
            refine plan_take (v := ?_) rfl (Or.inl ⟨by rfl, ?_⟩) ?_
            rotate_left
            · (intro W hW; obtain ⟨⟨q1, q2, q3, q4⟩, q5⟩ := hW; go_simp; try with_reducible rfl)
            simp only [Act.put, List.setIfInBounds_toArray])
          refine plan_done ?_
          go_wp2_with fail
          refine (rPart_any _ _ L10 (NL vl) _ (by rw [HN10.out]; exact H10.out.2.2.1) (by have h := H10.out.1.l; rw [← HNN.out] at h; exact h)).mono ?_
          rintro e W11 ⟨rfl, hq11⟩
          rw [H10.out.2.2.2]
          have H11 := Lib.hid (H10.out.1.below (hq11.below _))
          clear hq11
          go_wp2_with fail
          go_roundw
          case rel => exact ⟨k + 1, by omega, by go_num, H11.out⟩
          case measure => simp [intOf]; omega
        · have HH := Lib.hid hh.out
          clear hh
          go_wp2_with fail
          refine (rHas_any _ (NL vl) (n : Int) _ (by have h := HH.out.l; rw [← HNN.out] at h; exact h)).mono ?_
          rintro e W9 ⟨rfl, hq9⟩
          have hcn : (NL vl).contains (n : Int) = true := by
            rw [List.contains_iff_mem, mem_NL]
            exact ⟨by omega, by rw [Int.toNat_natCast]; exact (HN.out.2.1.iff n).2 .root⟩
          rw [hcn]
          have H9 := Lib.hid (HH.out.below (hq9.below _)).bel
          clear hq9 hcn
          go_wp2_with fail
          go_ret
          exact ⟨rfl, H9.out⟩
    · have hz : (dCode s v != 0) = true := by simpa using h0
      have hzz : (dCode s v == dCode s v) = true := by simp
      generalize dCode s v = dc at *
      by_cases hz0 : code = 0
      · have hzc : (code != 0) = false := by simpa using hz0
        clear hz0 h0
        go_wp2_with fail
        go_ret
        exact ⟨rfl, H6.out.1.bel⟩
      · have hzc : (code != 0) = true := by simpa using hz0
        clear hz0 h0
        go_wp2_with fail
        go_ret
        exact ⟨rfl, H6.out.1.bel⟩

set_option maxRecDepth 100000 in
theorem DemandNeeds_lifted (os : Os) (started : os.Started) (H : Type) (enc : TypeId × Value → H) :
    ReturnsInHanded {} Try.checked os 6 .any (Rows.demandNeedsSpec.pre6 enc Try.prog Try.f6 Rows.demandNeedsRow.domain false) (Rows.demandNeedsSpec.post enc Try.prog Try.f6 false true false false) := by
  refine returnsInHanded_of_change (C := Try.checked) own started (by kernel_rfl) Try.func6
    (ChangeSpec.witness6 (enc := enc) (C := Try.checked) false ⟨#[], #[.agg #[.int .i64 0, .int .i64 0, .int .i64 0, .slice none 0 0], .int .i64 0], []⟩ 8 (by kernel_rfl) (by kernel_rfl) (by kernel_rfl) (by kernel_rfl)) ?_
  intro W base args ds gs before hval0 hW hcnd _
  have hval : ∀ (j : Nat) t v, Try.f6.params[j]? = some t → args[j]? = some v → Value.okWide Try.prog W .any base t v := hval0
  have hW' := hW
  obtain ⟨p, q, hA0, hV, rfl, hfz, hnd⟩ := hW
  have hA : DataW.TrodAll enc Try.prog W 0 (fun _ => true) true Try.f6.params.toList args.toList ds p := hA0
  rw [Try.params6] at hA hval
  obtain ⟨v0, vs0, d0, ds0, p0, q0, hargs, rfl, rfl, h0, r0⟩ := trodAll_cons hA
  obtain ⟨v1, vs1, d1, ds1, p1, q1, rfl, rfl, rfl, h1, r1⟩ := trodAll_cons r0
  obtain ⟨rfl, rfl, rfl⟩ := trodAll_nil r1
  obtain rfl : args = #[v0, v1] := by cases args; simp_all
  obtain ⟨rfl, rfl⟩ := trodVars_none hV
  obtain ⟨c0, rfl, sz0⟩ := okWide_struct Try.underlying24 (hval 0 24 v0 rfl rfl)
  have k0 := h0
  obtain ⟨sy0, cv0, eq0, hC0⟩ := sys_of_trod sz0 h0
  obtain rfl : c0 = #[.int .i64 sy0.vars, .int .i64 sy0.sites, .int .i64 sy0.fields, cv0] := by simpa [SysV] using eq0
  have lt0 : ∀ x ∈ p0, x.block < W.heap.size := by obtain ⟨m, hm⟩ := k0; exact DataW.trod_lt m _ _ _ hm
  obtain ⟨a1, rfl, rfl, rfl, w1⟩ := open_int Try.underlying3 (hval 1 3 v1 rfl rfl) h1
  have b1 := bounds_i64 w1
  clear hA0 hval0
  refine (DemandNeeds_walk sy0 cv0 a1 W hC0 b1).mono fun e W' ⟨he, bel⟩ => ?_
  subst he
  exact ⟨_, rfl, _, _, _, [], _, [], hW', trodAll_mk1 (shut_bool Try.underlying4 _), (trodAll_cons_mk (Below.trod laidOut (by kernel_rfl) (of_decide_eq_true (by kernel_rfl)) k0 bel lt0) (trodAll_cons_mk (shut_int Try.underlying3 w1) trodAll_mk0)), rfl, bel.frame _, fun h => by cases h⟩

/-- The given statement. -/
theorem DemandNeeds_holds : Rows.DemandNeedsSaid :=
  OpenClaim.holds_of_wide 6 Try.f6 rfl rfl rfl rfl rfl rfl rfl ⟨rfl, rfl, rfl, rfl, rfl⟩ rfl rfl rfl rfl rfl (by kernel_rfl) Try.func6 (by kernel_rfl)
    (of_decide_eq_true (by kernel_rfl)) (by unfold Func.isWrapper; first | (rw [if_pos (by decide +kernel)]; kernel_rfl) | (rw [if_neg (by decide +kernel)]; exact ⟨rfl, rfl⟩))
    (fun os started H enc _ => DemandNeeds_lifted os started H enc)

end Go.Proofs.Ytkfhopnolflchaa
