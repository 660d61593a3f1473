/- Contract of Frontier. -/
import Derived.Test.YtlijimdkadobmaaDfp
import Derived.Test.YtlijimdkadobmaaGh
namespace Go.Proofs.Ytlijimdkadobmaa
open Go.RowKit Go.Dfl Go.Gra
def frontZ (g : G) (r : Int) : List (List Int) := if dcode g r = 0 then frZ g r.toNat else []
def FrontR (g : G) (r : Int) (W : World) (e : Ending) (W' : World) : Prop := ∃ a c vs, e = .returned (.tuple #[.slice a (frontZ g r).length c, .int .i64 (dcode g r)]) ∧ Grid (Value.int .i64) W' (.slice a (frontZ g r).length c) vs (frontZ g r) ∧ Below W.heap.size W W'
/-- The state of the loops. -/
structure FrW (g : G) (r n cap : Nat) (s : Option Addr) (W1 : World) (y : Nat) (P : Nat → Bool) (vs : List Value) (W : World) : Prop where
  rows : OwnN IIg W W1.heap.size 31 (.slice s n cap) vs (rowsF g r y P)
  bel : Below W1.heap.size W1 W
theorem FrW.below {g : G} {r n cap : Nat} {s : Option Addr} {W1 : World} {y : Nat} {P : Nat → Bool} {vs : List Value} {W W' : World} (h : FrW g r n cap s W1 y P vs W) (hb : Below W.heap.size W W') : FrW g r n cap s W1 y P vs W' := ⟨h.rows.below kIIg hb, h.bel.trans (hb.mono h.bel.size)⟩
theorem FrW.to {g : G} {r n cap : Nat} {s : Option Addr} {W1 : World} {y y' : Nat} {P P' : Nat → Bool} {vs : List Value} {W : World} (h : FrW g r n cap s W1 y P vs W) (he : rowsF g r y P = rowsF g r y' P') : FrW g r n cap s W1 y' P' vs W := ⟨he ▸ h.rows, h.bel⟩
set_option maxHeartbeats 6400000 in
set_option maxRecDepth 100000 in
theorem gFrontier_any (g : G) (cv : Value) (r : Int) (W : World) (h : Pairs W cv g.es) : Calls Try.prog 16 #[GV g cv, .int .i64 r] W (FrontR g r W) := by
  obtain ⟨ca, cc, rfl, -, -, -⟩ := pairs_rd h
  have hal := (Below.refl W.heap.size W).alloc (Nat.le_refl _) (.cells #[.int .i64 g.n, .slice ca g.es.length cc] 24)
  have H0 := Lib.hid (And.intro (h.below hal) (And.intro hal (BoxG.new W g.n (.slice ca g.es.length cc) 24)))
  clear h hal
  unfold GV
  go_enter Try.func16, Try.ntmps16
  go_wp2_with fail
  have hck := dcheck_any g (.slice ca g.es.length cc) r _ H0.out.1
  unfold GV at hck
  refine hck.mono ?_
  rintro e W1 ⟨rfl, r1⟩
  have H1 := Lib.hid (And.intro (H0.out.1.below r1) (And.intro (H0.out.2.1.trans (r1.mono H0.out.2.1.size)) (H0.out.2.2.below r1)))
  clear r1 hck
  obtain ⟨c0, c1⟩ := H1.out.2.2
  by_cases hc : dcode g r = 0
  · obtain ⟨v1, v2, v3⟩ := dcode_ok hc
    obtain ⟨k, rfl⟩ : ∃ k : Nat, r = (k : Int) := ⟨r.toNat, by omega⟩
    rw [Int.toNat_natCast] at v3
    have HZ : Hid (frontZ g (k : Int) = frZ g k) := Lib.hid (by unfold frontZ; rw [if_pos hc, Int.toNat_natCast])
    have hq : (dcode g (k : Int) != 0) = false := by simpa using hc
    have hb := gBuild_tv g (.slice ca g.es.length cc) k W1 H1.out.1 v1 v3
    unfold GV at hb
    have hn8 : g.n.toNat ≤ 8192 := by have := v1.n1; omega
    have HB := Lib.hid hb
    have HV := Lib.hid (And.intro v1 (And.intro v3 hc))
    clear hb v1 v2 v3 hc
    go_wp2_with fail
    refine HB.out.mono ?_
    rintro e W2 ⟨su, so, sp, vs, rfl, ht, b2⟩
    obtain ⟨n, hn⟩ : ∃ n, n = g.n.toNat := ⟨_, rfl⟩
    have hal := (Below.refl W2.heap.size W2).alloc (Nat.le_refl _) (.cells #[.slice su g.n.toNat g.n.toNat, .slice so g.n.toNat g.n.toNat, .slice sp g.n.toNat g.n.toNat] 56)
    obtain ⟨e0, e1, e2⟩ := box3 W2 (.slice su g.n.toNat g.n.toNat) (.slice so g.n.toNat g.n.toNat) (.slice sp g.n.toNat g.n.toNat) 56
    have hWW := (H1.out.2.1.trans (b2.mono H1.out.2.1.size))
    have hlt := World.block_lt_of_cell? _ _ e0
    dsimp only at hlt
    have hbx := (H1.out.2.2.below b2).below hal
    have HT := Lib.hid (And.intro (ht.below hal) (And.intro (hWW.trans (hal.mono hWW.size)) (And.intro e0 (And.intro e1 (And.intro e2 (And.intro hlt hbx))))))
    rw [← hn] at HT hn8 ⊢
    have HN := Lib.hid hn
    clear ht b2 hal hWW hlt c0 c1 e0 e1 e2 hn hbx
    obtain ⟨c0, c1⟩ := HT.out.2.2.2.2.2.2
    have hgn : g.n = (n : Int) := by have := HV.out.1.n0; have := HN.out; omega
    rw [hgn] at c0
    clear hgn
    go_wp2_with (at_make; refine wp_make (f := fun x : Value => x) (.slice none 0 0) sRowsG rfl _ rfl _ _ rfl .i64 .i64 _ _ n rfl rfl rfl rfl (by omega) (by unfold maxLen; omega) ?_)
    intro s cap W4 hrow hb4
    obtain ⟨bt, hbt⟩ : ∃ bt, bt = W2.heap.size := ⟨_, rfl⟩
    rw [← hbt] at HT ⊢
    have hz1 : (W2.alloc (.cells #[.slice su n n, .slice so n n, .slice sp n n] 56)).heap.size = W2.heap.size + 1 := World.size_alloc _ _
    rw [← hz1] at hrow hb4
    clear hz1
    clear hbt
    clear c0 c1
    generalize W2.alloc (.cells #[.slice su n n, .slice so n n, .slice sp n n] 56) = W3 at *
    obtain ⟨sp', pc, he, hpm, hpi, hpc, hpb⟩ := HT.out.1.p.1.out1 sRowsG
    have hvl : vs.length = n := by rw [HT.out.1.p.2.1, preF_len, HN.out]
    rw [hvl] at he hpm hpi hpc hpb
    simp only [Value.slice.injEq] at he
    obtain ⟨rfl, -, rfl⟩ := he
    have HP := Lib.hid (And.intro hpi (And.intro hpc (And.intro hpb hvl)))
    clear hpi hpc hpb hvl
    have hu := HT.out.1.u.out1 sIntG
    rw [idomL_len, ← HN.out] at hu
    obtain ⟨su', uc, he, hum, hui, huc, hub⟩ := hu
    simp only [Value.slice.injEq] at he
    obtain ⟨rfl, -, rfl⟩ := he
    have HU := Lib.hid (And.intro hui (And.intro huc (And.intro hub hum)))
    clear hui huc hub hum
    have h4 : FrW g k n cap s W3 0 (preP g k 0 0) (List.replicate n (.slice none 0 0)) W4 := ⟨by rw [rowsF_zero, ← HN.out]; exact OwnN.made hrow (Go.Dfl.Own.nil _ _ _ _), hb4⟩
    have H4 := Lib.hid h4
    have hbx := HT.out.2.2.2.2.2.2.below hb4
    rw [show g.n = (n : Int) by have := HV.out.1.n0; have := HN.out; omega] at hbx
    obtain ⟨c0, c1⟩ := hbx
    clear h4 hrow hb4
    go_wp2_with fail
    clear c0 c1
    go_loopw [28] (fun x wr => ∃ (y : Nat) (vs : List Value), y ≤ n ∧ x = .int .i64 (y : Int) ∧ Hid (FrW g k n cap s W3 y (preP g k y 0) vs wr)) (fun x _ => n - (intOf x).toNat)
    case atStart => exact ⟨0, _, by omega, rfl, H4.out⟩
    case round =>
      obtain ⟨y, vs0, hyn, rfl, hh⟩ := hrel
      have HL := Lib.hid hh.out
      clear hh H4
      by_cases hlt : y < n
      · have hkl : (y : Int) < (n : Int) := by omega
        have hyn' : y < g.n.toNat := by rw [← HN.out]; exact hlt
        have hrow := HT.out.1.p.2.2 y (by rw [preF_len]; exact hyn')
        rw [preF_nth hyn'] at hrow
        obtain ⟨ra, rc, hrv, hrm, hri, hrc, hrb⟩ := hrow.out1 sIntG
        rw [List.length_map] at hrv hrm hri hrc hrb
        have r2 : wr.cell? ⟨blk sp, ofs sp + y, none⟩ = some (.slice ra (pre g.es y).length rc) := by
          rw [HL.out.bel.cell (p := ⟨blk sp, ofs sp + y, none⟩) (HP.out.2.2.1 y hlt), HP.out.2.1 y hlt, hrv]
        have i2 := HP.out.1 .i64 (y : Int) (by omega) (by omega)
        rw [Int.toNat_natCast] at i2
        have e2 : wr.cell? ⟨bt, 2, none⟩ = some (.slice sp n n) := by rw [HL.out.bel.cell (p := ⟨bt, 2, none⟩) HT.out.2.2.2.2.2.1]; exact HT.out.2.2.2.2.1
        have HR := Lib.hid (And.intro hrc hrb)
        have hpl : (pre g.es y).length ≤ 32768 := Nat.le_trans (pre_len _ _) HV.out.1.len
        clear hrow hrv hrc hrb
        go_wp2_with fail
        go_step3
        go_wp2_with fail
        go_step3
        go_wp2_with fail
        clear e2 r2 i2
        go_loopw [37] (fun x wr => ∃ (i : Nat) (vs : List Value), i ≤ (pre g.es y).length ∧ x = .int .i64 (i : Int) ∧ Hid (FrW g k n cap s W3 y (preP g k y i) vs wr)) (fun x _ => (pre g.es y).length - (intOf x).toNat)
        case atStart => exact ⟨0, _, by omega, rfl, HL.out⟩
        case round =>
          obtain ⟨i, vs1, hi, rfl, hh⟩ := hrel
          have HI := Lib.hid hh.out
          clear hh
          by_cases hit : i < (pre g.es y).length
          · have hil : (i : Int) < ((pre g.es y).length : Int) := by omega
            obtain ⟨x, hx⟩ : ∃ x, x = nth (pre g.es y) i := ⟨_, rfl⟩
            have hxn : x < g.n.toNat := pre_lt HV.out.1 (by rw [hx]; exact nth_mem _ _ hit)
            have r3 : wr.cell? ⟨blk ra, ofs ra + i, none⟩ = some (.int .i64 (x : Int)) := by
              rw [HI.out.bel.cell (p := ⟨blk ra, ofs ra + i, none⟩) (HR.out.2 i hit), HR.out.1 i hit, map_cast_nth0 hit, ← hx]
            have i3 := hri .i64 (i : Int) (by omega) (by omega)
            rw [Int.toNat_natCast] at i3
            have d0 : wr.cell? ⟨bt, 0, none⟩ = some (.slice su n n) := by rw [HI.out.bel.cell (p := ⟨bt, 0, none⟩) HT.out.2.2.2.2.2.1]; exact HT.out.2.2.1
            have d1 : wr.cell? ⟨bt, 1, none⟩ = some (.slice so n n) := by rw [HI.out.bel.cell (p := ⟨bt, 1, none⟩) HT.out.2.2.2.2.2.1]; exact HT.out.2.2.2.1
            have d2 : wr.cell? ⟨bt, 2, none⟩ = some (.slice sp n n) := by rw [HI.out.bel.cell (p := ⟨bt, 2, none⟩) HT.out.2.2.2.2.2.1]; exact HT.out.2.2.2.2.1
            have hre := reachable_any g k (.slice su n n) (.slice so n n) (.slice sp n n) vs (x : Int) wr (HT.out.1.below HI.out.bel)
            have hrb : reachB g k (x : Int) = decide (x ∈ postL g k) := by
              unfold reachB; rw [nodeB_nat hxn, Int.toNat_natCast]; simp
            rw [hrb] at hre
            have HD := Lib.hid hre
            have HX := Lib.hid (And.intro hx hxn)
            clear hre hx hxn hrb
            go_wp2_with fail
            refine HD.out.mono ?_
            rintro e W5 ⟨rfl, b5⟩
            have H5 := Lib.hid (HI.out.below b5)
            clear b5 d0 d1 d2 r3 i3
            by_cases hxp : x ∈ postL g k
            · rw [decide_eq_true hxp]
              have hch := Chn.start (y := y) HT.out.1.idm HV.out.1 HV.out.2.1 hxp (by rw [HX.out.1] at *; exact (mem_pre HV.out.1).1 (nth_mem _ _ hit))
              have HC := Lib.hid hch
              clear hch hxp
              go_wp2_with fail
              go_loopw [12] (fun x' wr => ∃ (c : Int) (vs : List Value), x' = .int .i64 c ∧ Hid (FrW g k n cap s W3 y (chP g k y i x c) vs wr ∧ Chn g k y x (idomL g k) c)) (fun x' _ => if intOf x' < 0 then 0 else (postL g k).length + 1 - (postL g k).idxOf (intOf x').toNat)
              case atStart => exact ⟨(x : Int), _, rfl, H5.out.to (rowsF_congr fun m _ => (chP_start m).symm), HC.out⟩
              case round =>
                obtain ⟨c, vs2, rfl, hh⟩ := hrel
                have HW := Lib.hid hh.out
                clear hh HC
                have d0 : wr.cell? ⟨bt, 0, none⟩ = some (.slice su n n) := by rw [HW.out.1.bel.cell (p := ⟨bt, 0, none⟩) HT.out.2.2.2.2.2.1]; exact HT.out.2.2.1
                have iu := HU.out.1 .i64 (y : Int) (by omega) (by omega)
                rw [Int.toNat_natCast] at iu
                obtain ⟨uy, huy⟩ : ∃ uy, uy = Go.Dfl.nth (idomL g k) y := ⟨_, rfl⟩
                have ru : wr.cell? ⟨blk su, ofs su + y, none⟩ = some (.int .i64 uy) := by
                  rw [HW.out.1.bel.cell (p := ⟨blk su, ofs su + y, none⟩) (HU.out.2.2.1 y hlt), HU.out.2.1 y hlt, ← huy]
                by_cases hcu : c = uy
                · have hq1 : (c != uy) = false := by simpa using hcu
                  have HS := Lib.hid (HW.out.1.to (rowsF_congr fun m _ => HW.out.2.last HT.out.1.idm HV.out.1 HV.out.2.1 hit HX.out.1 (hcu.trans huy) m))
                  clear hcu huy
                  go_wp2_with fail
                  exact ⟨⟨i + 1, vs2, by omega, by go_num, HS.out⟩, by simp [intOf]; omega⟩
                · have hq1 : (c != uy) = true := by simpa using hcu
                  obtain ⟨c', rfl, hcm, -, -⟩ := HW.out.2.at'.resolve_left (fun h => hcu (h.1.trans (h.2.symm.trans huy.symm)))
                  obtain ⟨c, hc'⟩ : ∃ c, c = c' := ⟨_, rfl⟩
                  subst hc'
                  have hcn : c < n := by rw [HN.out]; exact post_lt HV.out.1 HV.out.2.1 hcm
                  have hcn' : c < g.n.toNat := by rw [← HN.out]; exact hcn
                  have HCU := Lib.hid (And.intro hcu huy)
                  have hcl : c < (rowsF g k y (chP g k y i x (c : Int))).length := by rw [rowsF_len]; exact hcn'
                  have hvl2 : vs2.length = n := by rw [HW.out.1.rows.len, rowsF_len, HN.out]
                  obtain ⟨a4, c4, he, hm4, hidx4, hcell4, -⟩ := HW.out.1.rows.out.lst.out1 sRowsG
                  rw [hvl2] at he hm4 hidx4 hcell4
                  simp only [Value.slice.injEq] at he
                  obtain ⟨rfl, -, rfl⟩ := he
                  have ccl := hcell4 c hcn
                  have i4 := hidx4 .i64 (c : Int) (by omega) (by omega)
                  rw [Int.toNat_natCast] at i4
                  have hrw := HW.out.1.rows.inn c hcl
                  rw [rowsF_nth hcn'] at hrw
                  obtain ⟨b, hb⟩ : ∃ b, b = chP g k y i x (c : Int) c := ⟨_, rfl⟩
                  rw [← hb] at hrw
                  obtain ⟨R, hR⟩ : ∃ R, R = frRow g k y c b := ⟨_, rfl⟩
                  rw [← hR] at hrw
                  obtain ⟨z, z', hz⟩ := hrw.shape (n := R.length) rfl
                  rw [hz] at ccl hrw
                  have hbp : b = preP g k y i c := by
                    rw [hb]; unfold chP; rw [domI_nat, (domB_pos HV.out.1 HV.out.2.1 hcm).2 (Go.Dm.Dom.refl (C := dmC g k) hcm)]; simp
                  have HB9 := Lib.hid (And.intro hb (And.intro hbp (And.intro hR (And.intro hz (And.intro hrw (And.intro hcm (And.intro hvl2 (And.intro hcl hcn'))))))))
                  have hRl := frRow_len g k y c b
                  rw [← hR] at hRl
                  obtain ⟨z2, z3, he, hm5, hidx5, hcell5, hlt5⟩ := hrw.lst.out1 sIntG
                  simp only [Value.slice.injEq] at he
                  obtain ⟨rfl, -, rfl⟩ := he
                  clear hb hbp hR hz hrw hcm hidx4 hcell4 hcl hcu huy hvl2 hm4
                  cases b
                  · by_cases hr0 : R.length = 0
                    · have hq2 : decide ((R.length : Int) > 0) = false := decide_eq_false (by omega)
                      have hq2' : ¬ 0 < R.length := by omega
                      clear hr0
                      have hsz := HW.out.1.bel.size
                      have hRl2 : R.length < 17592186044416 := by omega
                      go_upto_region 15 with (at_builtin; refine wp_append1at (f := Value.int .i64) sIntG rfl _ rfl _ _ rfl W3.heap.size _ R rfl (HB9.out.2.2.2.2.1.alloc _) (y : Int) ⟨wr.heap.size, 0, none⟩ rfl (cell_alloc1 _ _ _) rfl hRl2 (by omega) (le_alloc _ hsz) ?_; intro v' w3 hown hgr hat; obtain ⟨s9, c9, rfl⟩ := hown.shape (n := R.length + 1) (by simp); rw [← HB9.out.2.2.2.1] at hgr hat ccl; have HO := Lib.hid (HW.out.1.rows.app HB9.out.2.2.2.2.2.2.2.1 hown hgr hat ccl); obtain ⟨o1, o2, -, -⟩ := HO.out; clear hown hgr hat ccl)
                      have hst := HW.out.2.step (k := i) HV.out.1 HV.out.2.1 HT.out.1.idm (fun e => HCU.out.1 (e.trans HCU.out.2.symm))
                      have hput := rowsF_put (g := g) (r := k) (y := y) (P := chP g k y i x (c : Int)) (Q := chP g k y i x (Go.Dfl.nth (idomL g k) c)) (n := c) HB9.out.2.2.2.2.2.2.2.2 HB9.out.1.symm hst.2.2.1
                      rw [rowsF_nth HB9.out.2.2.2.2.2.2.2.2, ← HB9.out.1, ← HB9.out.2.2.1] at hput
                      refine gen_code (fun Z => FrW g k n cap s W3 y (chP g k y i x (Go.Dfl.nth (idomL g k) c)) (vs2.set c (.slice s9 (R.length + 1) c9)) Z) ⟨by rw [← hput]; exact HO.out.2.2.1, HO.out.2.2.2 _ HW.out.1.bel⟩ ?_
                      intro Z hZ
                      have HZZ := Lib.hid hZ
                      have HST := Lib.hid hst
                      clear o1 o2 HO hput hst hZ d0 iu ru hq1 hq2 hq2' hRl2 i4
                      have d0 : Z.cell? ⟨bt, 0, none⟩ = some (.slice su n n) := by rw [HZZ.out.bel.cell (p := ⟨bt, 0, none⟩) HT.out.2.2.2.2.2.1]; exact HT.out.2.2.1
                      have iu := HU.out.1 .i64 (c : Int) (by omega) (by omega)
                      rw [Int.toNat_natCast] at iu
                      obtain ⟨uc', huc'⟩ : ∃ uc', uc' = Go.Dfl.nth (idomL g k) c := ⟨_, rfl⟩
                      have ru : Z.cell? ⟨blk su, ofs su + c, none⟩ = some (.int .i64 uc') := by
                        rw [HZZ.out.bel.cell (p := ⟨blk su, ofs su + c, none⟩) (HU.out.2.2.1 c hcn), HU.out.2.1 c hcn, ← huc']
                      have HUC := Lib.hid huc'
                      clear huc'
                      go_wp2_with fail
                      go_roundw
                      case rel => exact ⟨uc', _, rfl, by rw [HUC.out]; exact ⟨HZZ.out, HST.out.2.1⟩⟩
                      case measure =>
                        have h1 := HST.out.2.2.2
                        rw [← HUC.out] at h1
                        have h2 : (postL g k).idxOf c < (postL g k).length := List.idxOf_lt_length_of_mem HB9.out.2.2.2.2.2.1
                        show (if uc' < 0 then 0 else (postL g k).length + 1 - (postL g k).idxOf uc'.toNat) < (if (c : Int) < 0 then 0 else (postL g k).length + 1 - (postL g k).idxOf (c : Int).toNat)
                        rw [if_neg (show ¬ (c : Int) < 0 by omega), Int.toNat_natCast]
                        rcases h1 with h1 | ⟨w, h1, h3, h4⟩
                        · rw [if_pos (by omega)]; omega
                        · rw [if_neg (by omega), h1, Int.toNat_natCast]; omega
                    · obtain ⟨m, hm⟩ : ∃ m, R.length = m + 1 := ⟨R.length - 1, by omega⟩
                      obtain ⟨last, hla⟩ : ∃ last, last = nth R m := ⟨_, rfl⟩
                      have hl9 : ¬ last = (y : Int) := by
                        rw [hla, HB9.out.2.2.1]; exact fun h => by have := (frRow_last (by rw [← HB9.out.2.2.1]; exact hm)).1 h; cases this
                      have hq2 : decide ((R.length : Int) > 0) = true := decide_eq_true (by omega)
                      have hq2' : 0 < R.length := by omega
                      have hq3 : (last == (y : Int)) = false := by simpa using hl9
                      have hw : IntKind.i64.wrap ((R.length : Int) - 1) = (m : Int) := by rw [show (R.length : Int) - 1 = (m : Int) by omega]; exact IntWalk.i64_in _ (by omega)
                      have i5 := hidx5 .i64 (m : Int) (by omega) (by omega)
                      rw [Int.toNat_natCast] at i5
                      have r5 := hcell5 m (by omega)
                      rw [← hla] at r5
                      clear hr0 hl9 hm hla hidx5 hcell5
                      have hsz := HW.out.1.bel.size
                      have hRl2 : R.length < 17592186044416 := by omega
                      go_upto_region 15 with (at_builtin; refine wp_append1at (f := Value.int .i64) sIntG rfl _ rfl _ _ rfl W3.heap.size _ R rfl (HB9.out.2.2.2.2.1.alloc _) (y : Int) ⟨wr.heap.size, 0, none⟩ rfl (cell_alloc1 _ _ _) rfl hRl2 (by omega) (le_alloc _ hsz) ?_; intro v' w3 hown hgr hat; obtain ⟨s9, c9, rfl⟩ := hown.shape (n := R.length + 1) (by simp); rw [← HB9.out.2.2.2.1] at hgr hat ccl; have HO := Lib.hid (HW.out.1.rows.app HB9.out.2.2.2.2.2.2.2.1 hown hgr hat ccl); obtain ⟨o1, o2, -, -⟩ := HO.out; clear hown hgr hat ccl)
                      have hst := HW.out.2.step (k := i) HV.out.1 HV.out.2.1 HT.out.1.idm (fun e => HCU.out.1 (e.trans HCU.out.2.symm))
                      have hput := rowsF_put (g := g) (r := k) (y := y) (P := chP g k y i x (c : Int)) (Q := chP g k y i x (Go.Dfl.nth (idomL g k) c)) (n := c) HB9.out.2.2.2.2.2.2.2.2 HB9.out.1.symm hst.2.2.1
                      rw [rowsF_nth HB9.out.2.2.2.2.2.2.2.2, ← HB9.out.1, ← HB9.out.2.2.1] at hput
                      refine gen_code (fun Z => FrW g k n cap s W3 y (chP g k y i x (Go.Dfl.nth (idomL g k) c)) (vs2.set c (.slice s9 (R.length + 1) c9)) Z) ⟨by rw [← hput]; exact HO.out.2.2.1, HO.out.2.2.2 _ HW.out.1.bel⟩ ?_
                      intro Z hZ
                      have HZZ := Lib.hid hZ
                      have HST := Lib.hid hst
                      clear o1 o2 HO hput hst hZ d0 iu ru hq1 hq2 hq2' hRl2 i4
                      have d0 : Z.cell? ⟨bt, 0, none⟩ = some (.slice su n n) := by rw [HZZ.out.bel.cell (p := ⟨bt, 0, none⟩) HT.out.2.2.2.2.2.1]; exact HT.out.2.2.1
                      have iu := HU.out.1 .i64 (c : Int) (by omega) (by omega)
                      rw [Int.toNat_natCast] at iu
                      obtain ⟨uc', huc'⟩ : ∃ uc', uc' = Go.Dfl.nth (idomL g k) c := ⟨_, rfl⟩
                      have ru : Z.cell? ⟨blk su, ofs su + c, none⟩ = some (.int .i64 uc') := by
                        rw [HZZ.out.bel.cell (p := ⟨blk su, ofs su + c, none⟩) (HU.out.2.2.1 c hcn), HU.out.2.1 c hcn, ← huc']
                      have HUC := Lib.hid huc'
                      clear huc'
                      go_wp2_with fail
                      go_roundw
                      case rel => exact ⟨uc', _, rfl, by rw [HUC.out]; exact ⟨HZZ.out, HST.out.2.1⟩⟩
                      case measure =>
                        have h1 := HST.out.2.2.2
                        rw [← HUC.out] at h1
                        have h2 : (postL g k).idxOf c < (postL g k).length := List.idxOf_lt_length_of_mem HB9.out.2.2.2.2.2.1
                        show (if uc' < 0 then 0 else (postL g k).length + 1 - (postL g k).idxOf uc'.toNat) < (if (c : Int) < 0 then 0 else (postL g k).length + 1 - (postL g k).idxOf (c : Int).toNat)
                        rw [if_neg (show ¬ (c : Int) < 0 by omega), Int.toNat_natCast]
                        rcases h1 with h1 | ⟨w, h1, h3, h4⟩
                        · rw [if_pos (by omega)]; omega
                        · rw [if_neg (by omega), h1, Int.toNat_natCast]; omega
                  · obtain ⟨m, hm⟩ : ∃ m, R.length = m + 1 := ⟨R.length - 1, by have := frRow_some (g := g) (r := k) (y := y) (n := c); rw [← HB9.out.2.2.1] at this; omega⟩
                    have hl9 : nth R m = (y : Int) := by rw [HB9.out.2.2.1]; exact (frRow_last (by rw [← HB9.out.2.2.1]; exact hm)).2 rfl
                    have hq2 : decide ((R.length : Int) > 0) = true := decide_eq_true (by omega)
                    have hq2' : 0 < R.length := by omega
                    have hw : IntKind.i64.wrap ((R.length : Int) - 1) = (m : Int) := by rw [show (R.length : Int) - 1 = (m : Int) by omega]; exact IntWalk.i64_in _ (by omega)
                    have i5 := hidx5 .i64 (m : Int) (by omega) (by omega)
                    rw [Int.toNat_natCast] at i5
                    have r5 := hcell5 m (by omega)
                    rw [hl9] at r5
                    have HS := Lib.hid (HW.out.1.to (rowsF_congr fun q _ => HW.out.2.cut HV.out.1 HV.out.2.1 HT.out.1.idm hit HX.out.1 HB9.out.2.1.symm (n := q)))
                    clear hl9 hm hidx5 hcell5
                    go_wp2_with fail
                    exact ⟨⟨i + 1, vs2, by omega, by go_num, HS.out⟩, by simp [intOf]; omega⟩
            · rw [decide_eq_false hxp]
              have HS := Lib.hid (H5.out.to (rowsF_congr fun m _ => (preP_skip HV.out.1 HV.out.2.1 hit (by rw [← HX.out.1]; exact hxp) m).symm))
              clear hxp
              go_wp2_with fail
              go_roundw
              case rel => exact ⟨i + 1, vs1, by omega, by go_num, HS.out⟩
              case measure => simp [intOf]; omega
          · obtain rfl : i = (pre g.es y).length := by omega
            go_wp2_with fail
            rw [Exit.noGoto_normal]
            go_wp2_with fail
            go_roundw
            case rel => exact ⟨y + 1, vs1, by omega, by go_num, HI.out.to (rowsF_next g k y)⟩
            case measure => simp [intOf]; omega
      · obtain rfl : y = n := by omega
        go_wp2_with fail
        go_ret2
        exact ⟨s, cap, vs0, by rw [HV.out.2.2, HZ.out, frZ_len, ← HN.out]; rfl, by rw [HZ.out, frZ_len, ← HN.out]; have h9 := HL.out.rows; rw [HN.out, rowsF_end, ← HN.out] at h9; exact h9.grid, HT.out.2.1.trans (HL.out.bel.mono (by have := HT.out.2.1.size; omega))⟩
  · have hq : (dcode g r != 0) = true := by simpa using hc
    have HZ : Hid (frontZ g r = []) := Lib.hid (by unfold frontZ; rw [if_neg hc])
    go_wp2_with fail
    go_ret2
    exact ⟨none, 0, [], by rw [HZ.out]; rfl, by rw [HZ.out]; exact ⟨(Go.Dfl.Own.nil (fun x : Value => x) W1 0 31).lst, rfl, fun i hi => by simp at hi⟩, H1.out.2.1⟩
end Go.Proofs.Ytlijimdkadobmaa
