/- Texts of the claim, merged. -/
import Derived.Laws.ResultCell
import Derived.Test.YtnklnklkblgnfaaGreatDoorVgc
section
namespace Go.Proofs.YtnklnklkblgnfaaGreatDoor
open Go.RowKit Go.Dfl Go.Obs Go.Hir
open Go.Gra (gen_code gen_calls)
theorem up_self {m : Mch} (hp : 0 < m.fr.length) : up m (tp m) = m := by
 have h : m.fr.set (tpN m) (tp m) = m.fr := by
  refine nth_ext List.length_set fun k hk => ?_
  have h1 := up_nth (g := tp m) hp k
  have h2 : nth (m.fr.set (tpN m) (tp m)) k = if tpN m = k then tp m else nth m.fr k := h1
  rw [h2]
  by_cases e : tpN m = k
  ·rw [if_pos e, ← e]; rfl
  ·rw [if_neg e]
 show ({ m with fr := m.fr.set (tpN m) (tp m) } : Mch) = m
 rw [h]
set_option maxHeartbeats 6400000 in
set_option maxRecDepth 8000 in
theorem rLeave_any {W0 : World} {u : Un} {v0 v1 : Value} {b : Nat} {y : Ly} {m : Mch} {Z : World} (h : MM W0.heap.size W0 u v0 v1 b y m Z) (hp : 0 < m.fr.length) (hd : m.fr.length ≤ 64) (hu : InS vFu W0 v1 u.fs) (hf : (tp m).f < u.fs.length) (x : Is) (xv : Value) (hxv : InS vI W0 xv x.ar)
  (hx : x.a ≠ -1 → 0 ≤ x.a ∧ x.a < (tp m).vs.length ∧ x.a < (fnOf u (tp m)).vs.length)
  (hg : ∀ k, m.fr.length = k + 2 → (nth m.fr k).f < u.fs.length ∧ (nth m.fr k).i < (fnOf u (nth m.fr k)).cd.length ∧ (nth m.fr k).i ≤ 1048576 ∧ ((isOf u (nth m.fr k)).d ≠ -1 → 0 ≤ (isOf u (nth m.fr k)).d ∧ (isOf u (nth m.fr k)).d < (nth m.fr k).vs.length)) :
  Calls Tryz.prog 31 #[.pointer (some ⟨b, 0, none⟩), isV x xv] Z fun E Z' => E = .returned (.int .i64 (retP u m x).2) ∧ ∃ y', MM W0.heap.size W0 u v0 v1 b y' (retP u m x).1 Z' ∧ y'.en = y.en := by
 obtain ⟨xa, xc, rfl⟩ := hxv.shape
 obtain ⟨xn, hxn⟩ : ∃ n, n = x.ar.length := ⟨_, rfl⟩
 rw [← hxn]
 have hE1 := (Env.refl Z).alloc (isC' x (.slice xa xn xc)) 79
 have hE2 := (hE1.below ((Below.refl _ _).alloc (Nat.le_refl _) (.cells #[.int .i64 0, .int .i64 0, .int .i64 0] 50))).add (q := fkH _ (.cells #[.int .i64 0, .int .i64 0, .int .i64 0] 50)) (heap_alloc_new _ _)
 simp only [World.size_alloc] at hE2
 have HE := Lib.hid hE2
 obtain ⟨r, hr⟩ : ∃ r, r = retV u m x := ⟨_, rfl⟩
 have HC := Lib.hid (And.intro h (And.intro hp (And.intro hd (And.intro hu (And.intro hf (And.intro hx (And.intro hg hr)))))))
 clear h hp hd hu hf hx hg hxv hE1 hE2 hxn hr
 unfold isV
 go_enter Tryz.func31, Tryz.ntmps31
 go_upto_region 2 with fail
 refine gen_code (fun Z' => Env Z [fkH (Z.heap.size + 1) (.cells #[.int .i64 0, .int .i64 0, .int .i64 0] 50), fkC Z.heap.size (isC' x (.slice xa xn xc))] Z') HE.out ?_
 intro Z1 hZ1
 obtain ⟨bx, hbx⟩ : ∃ b, b = Z.heap.size := ⟨_, rfl⟩
 obtain ⟨br, hbr⟩ : ∃ b, b = Z.heap.size + 1 := ⟨_, rfl⟩
 have HB := Lib.hid (show bx = Z.heap.size ∧ br = Z.heap.size + 1 ∧ y.rl br = .no from ⟨hbx, hbr, HC.out.1.rlo _ (by omega)⟩)
 rw [← hbr, ← hbx] at hZ1 ⊢
 have HZ1 := Lib.hid hZ1
 have e2 := hZ1.cell 1 rfl 2 rfl
 clear hZ1 hbx hbr HE
 go_upto_if 11 with fail
 go_cut [5] (fun q wx => q = .pointer (some ⟨br, 0, none⟩) ∧ MM W0.heap.size W0 u v0 v1 b y m wx ∧ (fkC br [.int .i64 r.k, .int .i64 r.n, .int .i64 r.s]).p wx)
 case first =>
  by_cases ha : x.a = -1
  ·have t1 : (x.a == -1) = true := by simp [ha]
   have t2 : (x.a != -1) = false := by simp [ha]
   have HR := Lib.hid (show r = ⟨0, 0, 0⟩ by rw [HC.out.2.2.2.2.2.2.2]; unfold retV; rw [if_neg (fun h => h ha)])
   have hN : Z1.heap[br]? = some (.cells #[.int .i64 0, .int .i64 0, .int .i64 0] 50) := HZ1.out.fact 0 rfl
   have hC : (fkC br [.int .i64 0, .int .i64 0, .int .i64 0]).p Z1 := fun i v hv => by
    match i, hv with
    | 0, hv => simp at hv; subst hv; simp [World.cell?, hN]
    | 1, hv => simp at hv; subst hv; simp [World.cell?, hN]
    | 2, hv => simp at hv; subst hv; simp [World.cell?, hN]
    | i + 3, hv => simp at hv
   have HCC := Lib.hid hC
   clear ha hN hC
   go_wp2_with fail
   go_meet
   case rel => exact ⟨rfl, HC.out.1.below HZ1.out.bel, by rw [HR.out]; exact HCC.out⟩
  ·have t1 : (x.a == -1) = false := by simpa using ha
   have t2 : (x.a != -1) = true := by simpa using ha
   have HA := Lib.hid (HC.out.2.2.2.2.2.1 ha)
   have HR := Lib.hid (show r = rd u (tp m) x.a by rw [HC.out.2.2.2.2.2.2.2]; unfold retV; rw [if_pos ha])
   clear ha
   go_wp2_with fail
   refine (rRead_any (HC.out.1.below HZ1.out.bel) HC.out.2.1 HC.out.2.2.1 HC.out.2.2.2.1 HC.out.2.2.2.2.1 HA.out.1 HA.out.2.1 HA.out.2.2).mono ?_
   rintro E W2 ⟨rfl, b2⟩
   have H2 := Lib.hid (HZ1.out.below b2)
   rw [← HR.out]
   clear b2 e2 t1 t2
   have hN : W2.heap[br]? = some (.cells #[.int .i64 0, .int .i64 0, .int .i64 0] 50) := H2.out.fact 0 rfl
   obtain ⟨⟨z0, z1, z2, zf⟩, hC, hG⟩ := store3 (y0 := (.int .i64 r.k)) (y1 := (.int .i64 r.n)) (y2 := (.int .i64 r.s)) hN
   have f0 := zf 0
   have f1 := zf 1
   have f2 := zf 2
   have HG := Lib.hid (And.intro hC hG)
   clear hC hG zf
   clear hN
   go_wp2_with fail
   go_meet
   case rel => exact ⟨rfl, (HC.out.1.below H2.out.bel).other HG.out.2 (fun q e => by injection e with e; rw [← e]; exact ⟨HB.out.2.2, by have h1 := HB.out.2.1; have h2 := HC.out.1.bel.size; omega⟩), HG.out.1⟩
 case rest =>
 obtain ⟨rfl, hM, hR⟩ := hcut
 have HM := Lib.hid hM
 have HR := Lib.hid hR
 clear hM hR e2 HZ1
 obtain ⟨k, hk⟩ : ∃ k, m.fr.length = k + 1 := ⟨m.fr.length - 1, by have := HC.out.2.1; omega⟩
 have HK := Lib.hid hk
 have hk64 : k < 64 := by have := HC.out.2.2.1; omega
 obtain ⟨n, hn⟩ : ∃ n, n = k + 1 := ⟨_, rfl⟩
 have HN := Lib.hid hn
 have hMd := HM.out.below ((Below.refl _ _).drew)
 obtain ⟨-, hcut⟩ := hMd.cutR hk
 have hfn : y.fs.n = n := hMd.nF.trans (by rw [hk, hn])
 have c5 : wc.drew.cell? ⟨b, 5, none⟩ = some (.slice y.fs.a n y.fs.c) := by rw [← hfn]; exact hMd.bx 5 _ rfl
 have f5 : wc.drew.frozen? ⟨b, 5, none⟩ = false := hMd.frz 5
 have hne : br ≠ b := hMd.mno HB.out.2.2
 have hR5 : (fkC br [.int .i64 r.k, .int .i64 r.n, .int .i64 r.s]).p (wc.drew.setCell ⟨b, 5, none⟩ (.slice y.fs.a k y.fs.c)) := fkC_grown ((fkC br _).k HR.out ((Below.refl _ _).drew)) (grownBy_setCell _ _ _) (fun e => hne (Option.some.inj e))
 have HS := Lib.hid c5
 have w1 : IntKind.i64.wrap ((n : Int) - 1) = (k : Int) := by rw [IntWalk.i64_in _ (by omega)]; omega
 have w2 : (n : Int) - 1 = (k : Int) := by omega
 have w3 : IntKind.i64.wrap (k : Int) = (k : Int) := IntWalk.i64_in _ (by omega)
 have hkc : k ≤ y.fs.c := by have h1 := OwnE.cap hMd.fr; rw [frs_len, hk] at h1; omega
 have H5 := Lib.hid (And.intro hcut hR5)
 clear hMd hcut hfn hne hR5 hk hn c5 f5
 go_upto_region 4 with fail
 have f5 : wc.drew.frozen? ⟨b, 5, none⟩ = false := (HM.out.below ((Below.refl _ _).drew)).frz 5
 refine wp_region_mix [0, 1, 2, 3, 4, 5, 6, 7, 8, 9, 10, 11] [12, 13, 14] (fun w' => w'.cell? ⟨b, 5, none⟩ = some (.slice y.fs.a n y.fs.c)) (by kernel_rfl) (by kernel_rfl) (by kernel_rfl) HS.out ?_
 repeat (
  refine wpHeads_cons (v := ?_) rfl (Or.inl ⟨by rfl, ?_⟩) ?_
  rotate_left
  ·(intro W hW; have x1 := hW; (try go_simp); try with_reducible rfl)
  simp only [Act.put, List.setIfInBounds_toArray, List.getElem_toArray, List.getElem_cons_zero, List.getElem_cons_succ, List.set_cons_succ, List.set_cons_zero])
 refine wpHeads_nil ?_
 generalize wc.drew = V at *
 refine wpTails_cons rfl ?_
 go_wp2_with fail
 refine tail_mk HS.out ?_
 refine wpTails_cons rfl ?_
 go_wp2_with fail
 refine tail_mk HS.out ?_
 refine wpTails_one rfl ?_
 have z5 := HS.out
 go_wp2_with fail
 refine thenQ_mk ?_
 clear z5 f5 w1 w2 w3 hkc
 obtain ⟨W5, hW5⟩ : ∃ W5, W5 = V.setCell ⟨b, 5, none⟩ (.slice y.fs.a k y.fs.c) := ⟨_, rfl⟩
 rw [← hW5] at H5 ⊢
 have HCU := Lib.hid (show MM W0.heap.size W0 u v0 v1 b { y with fs := ⟨y.fs.a, k, y.fs.c⟩, fv := y.fv.take k } (cutM m k) W5 from H5.out.1)
 obtain ⟨y1, hy1⟩ : ∃ y1 : Ly, y1 = { y with fs := ⟨y.fs.a, k, y.fs.c⟩, fv := y.fv.take k } := ⟨_, rfl⟩
 rw [← hy1] at HCU
 have hln : (cutM m k).fr.length = k := cutM_len (by rw [HK.out]; omega)
 have hy1n : y1.fs.n = k := HCU.out.nF.trans hln
 have HY1 := Lib.hid (And.intro (show y1.rl = y.rl by rw [hy1]) (And.intro (show y1.en = y.en by rw [hy1]) (And.intro hln (show y1.fs.v = .slice y.fs.a k y.fs.c by rw [hy1]; rfl))))
 have HR5 := Lib.hid H5.out.2
 have c5 : W5.cell? ⟨b, 5, none⟩ = some (.slice y1.fs.a k y1.fs.c) := by rw [← hy1n]; exact HCU.out.bx 5 _ rfl
 have hpop : popM m = cutM m k := by unfold popM cutM; rw [HK.out]; rfl
 have HPO := Lib.hid hpop
 clear hW5 hy1 hln hy1n H5 hpop HS HM HR
 by_cases hk0 : k = 0
 ·have t1 : ((k : Int) == 0) = true := by simp; omega
  have HT := Lib.hid (show retP u m x = (cutM m k, 1) by unfold retP; rw [if_pos (by rw [HK.out]; omega), HPO.out])
  clear hk0
  go_wp2_with fail
  go_ret
  exact ⟨by rw [HT.out]; try rfl, y1, by rw [HT.out]; exact HCU.out, HY1.out.2.1⟩
 ·have t1 : ((k : Int) == 0) = false := by simp; omega
  obtain ⟨j, hj⟩ : ∃ j, k = j + 1 := ⟨k - 1, by omega⟩
  obtain ⟨g, hgd⟩ : ∃ g, g = nth m.fr j := ⟨_, rfl⟩
  have hgg := HC.out.2.2.2.2.2.2.1 j (by rw [HK.out, hj])
  rw [← hgd] at hgg
  have htn : tpN (cutM m k) = j := by rw [hj]; exact cutM_tpN (by rw [HK.out, hj]; omega)
  have htp : tp (cutM m k) = g := by rw [hj, hgd]; exact cutM_tp (by rw [HK.out, hj]; omega)
  have HT := Lib.hid (show retP u m x = (up (cutM m k) (retG u g r), 0) by unfold retP; rw [if_neg (by rw [HK.out]; omega), HPO.out, htp, ← HC.out.2.2.2.2.2.2.2])
  have HG := Lib.hid (And.intro hgg (And.intro htn (And.intro htp hj)))
  have hp5 : 0 < (cutM m k).fr.length := by rw [HY1.out.2.2.1]; omega
  clear hk0 hgd hgg htn htp hj
  go_wp2_with fail
  refine (rTop_any HCU.out hp5 (by rw [HY1.out.2.2.1]; omega)).mono ?_
  rintro E W6 ⟨rfl, b6⟩
  rw [HG.out.2.1]
  have HM6 := Lib.hid (HCU.out.below b6)
  have HR6 := Lib.hid ((fkC br _).k HR5.out b6)
  clear b6 c5 t1 HCU HR5
  obtain ⟨fa, fc, ca, cc, v7, hv1, jf, ji, -, hz⟩ := code_at HC.out.2.2.2.1 HG.out.1.1 HG.out.1.2.1
  have c1 := HM6.out.bx 1 _ rfl
  rw [hv1] at c1
  obtain ⟨p6, px⟩ := hz W6 HM6.out.bel
  have x1 := px 1 _ rfl
  obtain ⟨q0, q1, -, -, q4, -⟩ := HM6.out.rdT hp5
  rw [HG.out.2.1, HG.out.2.2.1] at q0 q1
  rw [HG.out.2.1] at q4
  obtain ⟨d, hdd⟩ : ∃ d, d = (nth (nth u.fs g.f).cd g.i).d := ⟨_, rfl⟩
  rw [← hdd] at x1
  have HD := Lib.hid (show d = (isOf u g).d from hdd)
  clear hv1 hz px hdd
  go_upto_region 8 with fail
  go_cut [7] (fun q wx => q = .int .i64 d ∧ Below W6.heap.size W6 wx)
  case first =>
   go_quiet (fail)
   go_wp2_with fail
   go_meet
   case rel => exact ⟨rfl, qt_below (Qt.drewN _ _)⟩
  case rest =>
  obtain ⟨rfl, hb7⟩ := hcut
  have HM7 := Lib.hid (HM6.out.below hb7)
  have HR7 := Lib.hid ((fkC br _).k HR6.out hb7)
  clear hb7 c1 p6 x1 q0 q1 q4 jf ji HM6 HR6
  obtain ⟨m1, hm1⟩ : ∃ m1, m1 = cutM m k := ⟨_, rfl⟩
  rw [← hm1] at HM7 HG hp5 HT
  obtain ⟨l, hl⟩ : ∃ l, l = if d ≠ -1 then g.vs.set d.toNat r else g.vs := ⟨_, rfl⟩
  have HL := Lib.hid (And.intro hm1 hl)
  clear hm1 hl
  go_upto_if 58 with fail
  go_cut [6] (fun q wx => q = .pointer (some ⟨blk y1.fs.a, ofs y1.fs.a + j * 8, none⟩) ∧ MM W0.heap.size W0 u v0 v1 b y1 (up m1 { g with vs := l }) wx)
  case first =>
   by_cases hd1 : d = -1
   ·have t1 : (d == -1) = true := by simp [hd1]
    have t2 : (d != -1) = false := by simp [hd1]
    have HU := Lib.hid (show up m1 { g with vs := l } = m1 by
     rw [HL.out.2, if_neg (fun h => h hd1)]
     have h1 := up_self (m := m1) hp5
     rw [HG.out.2.2.1] at h1; exact h1)
    clear hd1
    go_wp2_with fail
    go_meet
    case rel => exact ⟨rfl, by rw [HU.out]; exact HM7.out⟩
   ·have t1 : (d == -1) = false := by simpa using hd1
    have t2 : (d != -1) = true := by simpa using hd1
    have hdr := HG.out.1.2.2.2 (by rw [← HD.out]; exact hd1)
    rw [← HD.out] at hdr
    have HLL := Lib.hid (show l = g.vs.set d.toNat r by rw [HL.out.2, if_pos hd1])
    have hd0 := hdr.1
    have hd9 : d.toNat < g.vs.length := by have := hdr.2; omega
    obtain ⟨iv, -⟩ := HM7.out.rdW hp5
    rw [HG.out.2.2.1, HG.out.2.1] at iv
    have jv := iv d hdr.1 hdr.2
    obtain ⟨-, -, -, -, q4, -⟩ := HM7.out.rdT hp5
    rw [HG.out.2.1] at q4
    obtain ⟨s, hs⟩ : ∃ s, s = nth y1.fv j := ⟨_, rfl⟩
    have hjl : j < m1.fr.length := by rw [← HG.out.2.1]; unfold tpN; omega
    have hgj : nth m1.fr j = g := by rw [← HG.out.2.2.1, ← HG.out.2.1]; rfl
    have hov := (HM7.out.own (.fv j) hjl).1
    have hsn : s.n = g.vs.length := by rw [hs, HM7.out.nV hjl, hgj]
    rw [← hs] at hov jv q4
    rw [hgj] at hov
    unfold Sl.v at hov
    rw [hsn] at hov jv q4
    have hov2 : OwnE elV wc W0.heap.size 50 (.slice s.a g.vs.length s.c) g.vs := hov
    have HOD := Lib.hid (hov2.grown (w' := wc.drew) (row := none) (grownBy_drew (grownBy_refl _ _)) (by simp [Value.ownBlock]; cases s.a <;> simp))
    have HMD := Lib.hid (HM7.out.below ((Below.refl _ _).drew))
    have HSV := Lib.hid (show (nth y1.fv (tpN m1)).v = .slice s.a g.vs.length s.c by rw [HG.out.2.1, ← hs]; unfold Sl.v; rw [hsn])
    have e0 := HR7.out 0 _ rfl
    have e1 := HR7.out 1 _ rfl
    have e2 := HR7.out 2 _ rfl
    have HS := Lib.hid (show wc.drew.cell? ⟨blk y1.fs.a, ofs y1.fs.a + j * 8 + 4, none⟩ = some (.slice s.a g.vs.length s.c) ∧ wc.drew.cell? ⟨br, 0, none⟩ = some (.int .i64 r.k) ∧ wc.drew.cell? ⟨br, 1, none⟩ = some (.int .i64 r.n) ∧ wc.drew.cell? ⟨br, 2, none⟩ = some (.int .i64 r.s) from ⟨q4, e0, e1, e2⟩)
    clear hd1 hdr iv hs hjl hgj hov hov2 hsn e0 e1 e2 q4
    go_upto_region 10 with fail
    refine wp_region_mix [0, 1, 2, 3, 4, 5, 6] [7] (fun w' => w'.cell? ⟨blk y1.fs.a, ofs y1.fs.a + j * 8 + 4, none⟩ = some (.slice s.a g.vs.length s.c) ∧ w'.cell? ⟨br, 0, none⟩ = some (.int .i64 r.k) ∧ w'.cell? ⟨br, 1, none⟩ = some (.int .i64 r.n) ∧ w'.cell? ⟨br, 2, none⟩ = some (.int .i64 r.s)) (by kernel_rfl) (by kernel_rfl) (by kernel_rfl) HS.out ?_
    repeat (
     refine wpHeads_cons (v := ?_) rfl (Or.inl ⟨by rfl, ?_⟩) ?_
     rotate_left
     ·(intro W hW; obtain ⟨x1, x2, x3, x4⟩ := hW; (try go_simp); try with_reducible rfl)
     simp only [Act.put, List.setIfInBounds_toArray, List.getElem_toArray, List.getElem_cons_zero, List.getElem_cons_succ, List.set_cons_succ, List.set_cons_zero])
    refine wpHeads_nil ?_
    refine wpTails_one rfl ?_
    go_wp2_with (refine wpList_storeP (E := elV) rfl _ _ rfl [.int .i64 r.k, .int .i64 r.n, .int .i64 r.s] szV HOD.out d.toNat 0 hd9 (elV.one r) r (by show 0 + 3 ≤ 3; omega) (by rfl) (by rfl) (by rfl) ?_; intro w11 hown hgr; have H11 := Lib.hid (And.intro hown hgr); clear hown hgr)
    have HM8 := Lib.hid (show MM W0.heap.size W0 u v0 v1 b y1 (up m1 { g with vs := l }) w11 by
     have h1 := H11.out.1
     have h2 := H11.out.2
     rw [← HSV.out] at h1 h2
     have h3 := HMD.out.fvw hp5 h2 h1
     rw [HG.out.2.2.1] at h3
     rw [HLL.out]; exact h3)
    refine thenQ_mk ?_
    go_wp2_with fail
    go_meet
    case rel => exact ⟨rfl, HM8.out⟩
  case rest =>
  obtain ⟨rfl, hM8⟩ := hcut
  have hp8 : 0 < (up m1 { g with vs := l }).fr.length := by rw [up_ln]; exact hp5
  obtain ⟨-, q1, -⟩ := hM8.rdT hp8
  obtain ⟨f1, hM9, -⟩ := hM8.setAt hp8 (g.i + 1)
  rw [tpN_up, HG.out.2.1, tp_up hp5] at q1
  rw [tpN_up, HG.out.2.1] at f1 hM9
  have hi9 : g.i ≤ 1048576 := HG.out.1.2.2.1
  obtain ⟨i, hi⟩ : ∃ i, i = g.i := ⟨_, rfl⟩
  have hM9' : MM W0.heap.size W0 u v0 v1 b y1 (retP u m x).1 (wc.setCell ⟨blk y1.fs.a, ofs y1.fs.a + j * 8 + 1, none⟩ (.int .i64 ((i + 1 : Nat) : Int))) := by
   have e : goN (up m1 { g with vs := l }) (g.i + 1) = (retP u m x).1 := by
    rw [HT.out]
    unfold goN retG
    rw [tp_up hp5, up_up, HL.out.2, HD.out]
   rw [e, ← hi] at hM9; exact hM9
  have q1' : wc.cell? ⟨blk y1.fs.a, ofs y1.fs.a + j * 8 + 1, none⟩ = some (.int .i64 (i : Int)) := by rw [hi]; exact q1
  rw [← hi] at hi9
  have H9 := Lib.hid hM9'
  clear hM8 hp8 hM9 hM9' hi q1
  go_wp2_with fail
  go_ret
  exact ⟨by rw [HT.out]; try rfl, y1, H9.out, HY1.out.2.1⟩
end Go.Proofs.YtnklnklkblgnfaaGreatDoor
end
section
namespace Go.Proofs.YtnklnklkblgnfaaGreatDoor
open Go.RowKit Go.Dfl Go.Obs Go.Hir
open Go.Gra (gen_code gen_calls)
def RdV (u : Un) (g : Frm) (v : Int) : Prop := 0 ≤ v ∧ v < g.vs.length ∧ v < (fnOf u g).vs.length
set_option maxHeartbeats 6400000 in
set_option maxRecDepth 8000 in
theorem rMemory_any {W0 : World} {u : Un} {v0 v1 : Value} {b : Nat} {y : Ly} {m : Mch} {Z : World} (h : MM W0.heap.size W0 u v0 v1 b y m Z) (hp : 0 < m.fr.length) (hd : m.fr.length ≤ 64) (hu : InS vFu W0 v1 u.fs) (hf : (tp m).f < u.fs.length) (hi : (tp m).i ≤ 1048576) (x : Is) (xv : Value) (hxv : InS vI W0 xv x.ar) (hop : x.op = 7 ∨ x.op = 8)
  (hx : RdV u (tp m) x.a) (hr : (rd u (tp m) x.a).k = 3 → 0 ≤ (rd u (tp m) x.a).n ∧ (rd u (tp m) x.a).n < m.hp.length ∧ slotOf m (rd u (tp m) x.a) x.m < (nth m.hp (rd u (tp m) x.a).n.toNat).sl.length)
  (h7 : x.op = 7 → 0 ≤ x.d ∧ x.d < (tp m).vs.length) (h8 : x.op = 8 → RdV u (tp m) x.b) :
  Calls Tryz.prog 29 #[.pointer (some ⟨b, 0, none⟩), isV x xv] Z fun E Z' => E = .returned (.int .i64 (memP u m x).2) ∧ ∃ y', MM W0.heap.size W0 u v0 v1 b y' (memP u m x).1 Z' ∧ y'.en = y.en := by
 obtain ⟨xa, xc, rfl⟩ := hxv.shape
 obtain ⟨xn, hxn⟩ : ∃ n, n = x.ar.length := ⟨_, rfl⟩
 rw [← hxn]
 have HE := Lib.hid ((Env.refl Z).alloc (isC' x (.slice xa xn xc)) 79)
 obtain ⟨a, ha⟩ : ∃ a, a = rd u (tp m) x.a := ⟨_, rfl⟩
 rw [← ha] at hr
 have HA := Lib.hid ha
 have HC := Lib.hid (And.intro h (And.intro hp (And.intro hd (And.intro hu (And.intro hf (And.intro hi (And.intro hop (And.intro hx (And.intro hr (And.intro h7 h8))))))))))
 clear h hp hd hu hf hi hop hx hr h7 h8 hxv hxn ha
 unfold isV
 go_enter Tryz.func29, Tryz.ntmps29
 go_upto_region 1 with fail
 refine gen_code (fun Z' => Env Z [fkC Z.heap.size (isC' x (.slice xa xn xc))] Z') HE.out ?_
 intro Z1 hZ1
 obtain ⟨bx, hbx⟩ : ∃ b, b = Z.heap.size := ⟨_, rfl⟩
 have hbn : y.rl bx = .no := HC.out.1.rlo _ (by omega)
 have hbl : bx < Z1.heap.size := by rw [hbx]; exact World.block_lt_of_cell? _ _ (hZ1.cell 0 rfl 0 rfl)
 have HB := Lib.hid (And.intro hbn (And.intro hbx hbl))
 rw [← hbx] at hZ1 ⊢
 have HZ1 := Lib.hid hZ1
 have e2 := hZ1.cell 0 rfl 2 rfl
 clear hZ1 hbx HE hbn hbl
 go_wp2_with fail
 refine (rRead_any (HC.out.1.below HZ1.out.bel) HC.out.2.1 HC.out.2.2.1 HC.out.2.2.2.1 HC.out.2.2.2.2.1 HC.out.2.2.2.2.2.2.2.1.1 HC.out.2.2.2.2.2.2.2.1.2.1 HC.out.2.2.2.2.2.2.2.1.2.2).mono ?_
 rintro E W2 ⟨rfl, b2⟩
 rw [← HA.out]
 have H2 := Lib.hid (HZ1.out.below b2)
 have HBL2 := Lib.hid (show bx < W2.heap.size from Nat.lt_of_lt_of_le HB.out.2.2 b2.size)
 clear b2 e2 HZ1
 go_upto_region 2 with fail
 refine gen_code (fun Z' => Env Z [fkC W2.heap.size [.int .i64 a.k, .int .i64 a.n, .int .i64 a.s], fkC bx (isC' x (.slice xa xn xc))] Z') (H2.out.alloc [.int .i64 a.k, .int .i64 a.n, .int .i64 a.s] 50) ?_
 intro Z3 hZ3
 obtain ⟨ba, hba⟩ : ∃ b, b = W2.heap.size := ⟨_, rfl⟩
 have hba2 : y.rl ba = .no := HC.out.1.rlo _ (by rw [hba]; exact H2.out.bel.size)
 have HBA := Lib.hid hba2
 rw [← hba] at hZ3 ⊢
 have H3 := Lib.hid hZ3
 have HM := Lib.hid (HC.out.1.below hZ3.bel)
 have a0 := hZ3.cell 0 rfl 0 rfl
 clear hZ3 hba hba2 H2
 by_cases hk3 : a.k = 3
 case neg =>
  have t1 : (a.k == 3) = false := by simpa using hk3
  have t2 : (a.k != 3) = true := by simpa using hk3
  have HT := Lib.hid (show memP u m x = (m, 3) by unfold memP; rw [← HA.out, if_pos hk3])
  clear hk3
  go_wp2_with fail
  go_ret
  exact ⟨by rw [HT.out]; try rfl, y, by rw [HT.out]; exact HM.out, rfl⟩
 have t1 : (a.k == 3) = true := by simp [hk3]
 have t2 : (a.k != 3) = false := by simp [hk3]
 obtain ⟨hn0, hnl, hsl⟩ := HC.out.2.2.2.2.2.2.2.2.1 hk3
 obtain ⟨n, hn⟩ : ∃ n : Nat, a.n = (n : Int) := ⟨a.n.toNat, by omega⟩
 have hnt : a.n.toNat = n := by omega
 have hnl2 : n < m.hp.length := by omega
 obtain ⟨o, ho⟩ : ∃ o, o = nth m.hp n := ⟨_, rfl⟩
 obtain ⟨s, hs⟩ : ∃ s, s = nth y.sv n := ⟨_, rfl⟩
 obtain ⟨k, hk⟩ : ∃ k, k = slt o x.m := ⟨_, rfl⟩
 have hkl : k < o.sl.length := by
  have h1 := hsl
  unfold slotOf at h1
  rw [hnt, ← ho, ← hk] at h1; exact h1
 have HO := Lib.hid (And.intro (And.intro hn hnt) (And.intro ho (And.intro hs (And.intro hk (And.intro hk3 hnl2)))))
 have a1 : Z3.cell? ⟨ba, 1, none⟩ = some (.int .i64 (n : Int)) := by rw [← hn]; exact H3.out.cell 0 rfl 1 rfl
 clear hn0 hnl hsl hn hnt hs hk hk3
 go_upto_region 4 with fail
 clear t1 t2 a0
 obtain ⟨io, ro⟩ := HM.out.rdO
 obtain ⟨ro0, ro1⟩ := ro n hnl2
 have jo := io (n : Int) (by omega) (by omega)
 rw [Int.toNat_natCast] at jo
 rw [← ho] at ro0
 rw [← HO.out.2.2.1] at ro1
 obtain ⟨Cls, hCls⟩ : ∃ Cls : World → Prop, ∀ Z', Cls Z' ↔ Below Z3.heap.size Z3 Z' := ⟨_, fun _ => Iff.rfl⟩
 have hCl : Cls Z3.drew := (hCls _).2 ((Below.refl _ _).drew)
 have k0 := fun q : Wd Cls => (hCls _).1 q.ok
 have hB : ∀ q : Wd Cls, ∀ Z', Below q.val.heap.size q.val Z' → Cls Z' := fun q Z' hb => (hCls _).2 ((k0 q).trans (hb.mono (k0 q).size))
 haveI hne : Nonempty (Wd Cls) := ⟨⟨_, hCl⟩⟩
 have g0 : ∀ q : Wd Cls, q.val.cell? ⟨b, 4, none⟩ = some (.slice y.hs.a y.hs.n y.hs.c) := fun q => (HM.out.below (k0 q)).bx 4 _ rfl
 have g1 : ∀ q : Wd Cls, q.val.cell? ⟨ba, 1, none⟩ = some (.int .i64 (n : Int)) := fun q => by rw [← HO.out.1.1]; exact (H3.out.below (k0 q)).cell 0 rfl 1 rfl
 have g2 : ∀ q : Wd Cls, q.val.cell? ⟨blk y.hs.a, ofs y.hs.a + n * 2, none⟩ = some (.string o.c) := fun q => (grownBy_below (k0 q)).cell ro0 (by simp)
 have g3 : ∀ q : Wd Cls, q.val.cell? ⟨blk y.hs.a, ofs y.hs.a + n * 2 + 1, none⟩ = some (.slice s.a s.n s.c) := fun q => (grownBy_below (k0 q)).cell ro1 (by simp)
 have g4 : ∀ q : Wd Cls, q.val.cell? ⟨bx, 6, none⟩ = some (.string x.m) := fun q => (H3.out.below (k0 q)).cell 1 rfl 6 rfl
 have f1 : ∀ q : Wd Cls, Calls Tryz.prog 47 #[.agg #[.string o.c, .slice s.a s.n s.c], .string x.m] q.val fun e w'' => e = .returned (.int .i64 (k : Int)) ∧ ∃ r : Wd Cls, w'' = r.val := fun q => cls_bel (hB q) (by
  rw [HO.out.2.2.2.1]
  exact rSlot_any o s x.m W0.heap.size q.val (by
   have h1 := ((HM.out.below (k0 q)).own (.sl n) hnl2).1
   rw [← ho, ← HO.out.2.2.1] at h1; exact h1))
 have F1 := Lib.hid f1
 have HK := Lib.hid k0
 have HCC := Lib.hid hCl
 clear hCls hCl k0 hB f1 io ro ro0 ro1 ho a1
 refine wp_region_class Cls (by kernel_rfl) (by kernel_rfl) HCC.out ?_
 repeat (go_big_quiet_step ((go_at_call 47; exact F1.out _)))
 refine wpQuiet_nil ?_
 rintro _ ⟨q9, rfl⟩
 have HB9 := Lib.hid (HK.out q9)
 have HM9 := Lib.hid (HM.out.below HB9.out)
 have H9 := Lib.hid (H3.out.below HB9.out)
 clear g0 g1 g2 g3 g4 hne
 obtain ⟨V, hV⟩ : ∃ V, V = q9.val := ⟨_, rfl⟩
 rw [← hV] at HM9 H9 ⊢
 clear hV HB9 HM H3
 have e0 := H9.out.cell 1 rfl 0 rfl
 by_cases hop : x.op = 7
 ·have t1 : (x.op == 7) = true := by simp [hop]
  have HD := Lib.hid (HC.out.2.2.2.2.2.2.2.2.2.1 hop)
  obtain ⟨v, hv⟩ : ∃ v, v = (nth o.sl k).2 := ⟨_, rfl⟩
  have HT := Lib.hid (show memP u m x = (setV m x.d v, 0) by
   unfold memP
   rw [← HA.out, if_neg (fun h => h HO.out.2.2.2.2.1), if_pos hop]
   unfold slotOf
   rw [HO.out.1.2, ← HO.out.2.1, ← HO.out.2.2.2.1, ← hv])
  have hMd := HM9.out.below ((Below.refl _ _).drew)
  obtain ⟨-, ro⟩ := hMd.rdO
  have ro1 := (ro n HO.out.2.2.2.2.2).2
  rw [← HO.out.2.2.1] at ro1
  obtain ⟨is, hvc⟩ := OwnE.reads (hMd.own (.sl n) HO.out.2.2.2.2.2).1 sSo
  rw [← HO.out.2.1] at is hvc
  rw [← HO.out.2.2.1] at is hvc
  have hvc := hvc k hkl
  have js0 := is (k : Int) (by omega) (by omega)
  rw [Int.toNat_natCast] at js0
  have js : ∀ W, (Instr.indexAt 100 (.slice s.a s.n s.c) (.int .i64 (k : Int))).run Tryz.prog W = .ok (.pointer (some ⟨blk s.a, ofs s.a + k * 4, none⟩)) W := js0
  have c4 : V.drew.cell? ⟨b, 4, none⟩ = some (.slice y.hs.a y.hs.n y.hs.c) := hMd.bx 4 _ rfl
  have a1 : V.drew.cell? ⟨ba, 1, none⟩ = some (.int .i64 (n : Int)) := by rw [← HO.out.1.1]; exact H9.out.drew.cell 0 rfl 1 rfl
  clear hMd ro is js0
  have v1 := hvc 1 _ rfl
  have v2 := hvc 2 _ rfl
  have v3 := hvc 3 _ rfl
  rw [← hv] at v1 v2 v3
  have e1 := H9.out.cell 1 rfl 1 rfl
  have HS := Lib.hid (show V.drew.cell? ⟨bx, 1, none⟩ = some (.int .i64 x.d) ∧ V.drew.cell? ⟨b, 4, none⟩ = some (.slice y.hs.a y.hs.n y.hs.c) ∧ V.drew.cell? ⟨ba, 1, none⟩ = some (.int .i64 (n : Int)) ∧ V.drew.cell? ⟨blk y.hs.a, ofs y.hs.a + n * 2 + 1, none⟩ = some (.slice s.a s.n s.c) ∧ V.drew.cell? ⟨blk s.a, ofs s.a + k * 4 + 1, none⟩ = some (.int .i64 v.k) ∧ V.drew.cell? ⟨blk s.a, ofs s.a + k * 4 + 2, none⟩ = some (.int .i64 v.n) ∧ V.drew.cell? ⟨blk s.a, ofs s.a + k * 4 + 3, none⟩ = some (.int .i64 v.s) from ⟨e1, c4, a1, ro1, v1, v2, v3⟩)
  clear hop hv hvc v1 v2 v3 e1 c4 a1 ro1
  go_upto_region 6 with fail
  clear t1 e0
  refine wp_region_mix [0, 1, 2, 3, 4, 5, 6, 7, 8, 9, 10, 11, 12, 13, 14, 15] [16] (fun w' => w'.cell? ⟨bx, 1, none⟩ = some (.int .i64 x.d) ∧ w'.cell? ⟨b, 4, none⟩ = some (.slice y.hs.a y.hs.n y.hs.c) ∧ w'.cell? ⟨ba, 1, none⟩ = some (.int .i64 (n : Int)) ∧ w'.cell? ⟨blk y.hs.a, ofs y.hs.a + n * 2 + 1, none⟩ = some (.slice s.a s.n s.c) ∧ w'.cell? ⟨blk s.a, ofs s.a + k * 4 + 1, none⟩ = some (.int .i64 v.k) ∧ w'.cell? ⟨blk s.a, ofs s.a + k * 4 + 2, none⟩ = some (.int .i64 v.n) ∧ w'.cell? ⟨blk s.a, ofs s.a + k * 4 + 3, none⟩ = some (.int .i64 v.s)) (by kernel_rfl) (by kernel_rfl) (by kernel_rfl) HS.out ?_
  repeat (
   refine wpHeads_cons (v := ?_) rfl (Or.inl ⟨by rfl, ?_⟩) ?_
   rotate_left
   ·(intro W hW; obtain ⟨x1, x2, x3, x4, x5, x6, x7⟩ := hW; (try go_simp); try with_reducible rfl)
   simp only [Act.put, List.setIfInBounds_toArray, List.getElem_toArray, List.getElem_cons_zero, List.getElem_cons_succ, List.set_cons_succ, List.set_cons_zero])
  refine wpHeads_nil ?_
  refine wpTails_one rfl ?_
  go_wp2_with fail
  refine (rSet_any (HM9.out.below ((Below.refl _ _).drew)) HC.out.2.1 HC.out.2.2.1 HD.out.1 HD.out.2 HC.out.2.2.2.2.2.1 v).mono ?_
  rintro e W5 ⟨rfl, hM5, -⟩
  have H5 := Lib.hid hM5
  clear hM5
  go_wp2_with fail
  refine thenQ_mk ?_
  go_wp2_with fail
  go_ret
  exact ⟨by rw [HT.out]; try rfl, y, by rw [HT.out]; exact H5.out, rfl⟩
 ·have t1 : (x.op == 7) = false := by simpa using hop
  have h8 : x.op = 8 := by rcases HC.out.2.2.2.2.2.2.1 with h | h; exact absurd h hop; exact h
  have HD := Lib.hid (HC.out.2.2.2.2.2.2.2.2.2.2 h8)
  obtain ⟨v, hv⟩ : ∃ v, v = rd u (tp m) x.b := ⟨_, rfl⟩
  have HT := Lib.hid (show memP u m x = (goN (putS m n k v) ((tp m).i + 1), 0) by
   unfold memP
   rw [← HA.out, if_neg (fun h => h HO.out.2.2.2.2.1), if_neg hop]
   unfold slotOf
   rw [HO.out.1.2, ← HO.out.2.1, ← HO.out.2.2.2.1, ← hv])
  have HV := Lib.hid hv
  have hMd := HM9.out.below ((Below.refl _ _).drew)
  obtain ⟨-, ro⟩ := hMd.rdO
  have ro1 := (ro n HO.out.2.2.2.2.2).2
  rw [← HO.out.2.2.1] at ro1
  obtain ⟨is, hvc⟩ := OwnE.reads (hMd.own (.sl n) HO.out.2.2.2.2.2).1 sSo
  rw [← HO.out.2.1] at is hvc
  rw [← HO.out.2.2.1] at is hvc
  have hvc := hvc k hkl
  have js0 := is (k : Int) (by omega) (by omega)
  rw [Int.toNat_natCast] at js0
  have js : ∀ W, (Instr.indexAt 100 (.slice s.a s.n s.c) (.int .i64 (k : Int))).run Tryz.prog W = .ok (.pointer (some ⟨blk s.a, ofs s.a + k * 4, none⟩)) W := js0
  have c4 : V.drew.cell? ⟨b, 4, none⟩ = some (.slice y.hs.a y.hs.n y.hs.c) := hMd.bx 4 _ rfl
  have a1 : V.drew.cell? ⟨ba, 1, none⟩ = some (.int .i64 (n : Int)) := by rw [← HO.out.1.1]; exact H9.out.drew.cell 0 rfl 1 rfl
  clear hMd ro is js0
  have e3 := H9.out.cell 1 rfl 3 rfl
  have HS := Lib.hid (show V.drew.cell? ⟨bx, 3, none⟩ = some (.int .i64 x.b) ∧ V.drew.cell? ⟨b, 4, none⟩ = some (.slice y.hs.a y.hs.n y.hs.c) ∧ V.drew.cell? ⟨ba, 1, none⟩ = some (.int .i64 (n : Int)) ∧ V.drew.cell? ⟨blk y.hs.a, ofs y.hs.a + n * 2 + 1, none⟩ = some (.slice s.a s.n s.c) from ⟨e3, c4, a1, ro1⟩)
  clear hop h8 hv hvc e3 c4 a1 ro1
  go_upto_region 8 with fail
  clear t1 e0
  refine wp_region_mix [0, 1, 2, 3, 4, 5, 6, 7, 8, 9, 10, 11, 12] [13, 14, 15, 16] (fun w' => w'.cell? ⟨bx, 3, none⟩ = some (.int .i64 x.b) ∧ w'.cell? ⟨b, 4, none⟩ = some (.slice y.hs.a y.hs.n y.hs.c) ∧ w'.cell? ⟨ba, 1, none⟩ = some (.int .i64 (n : Int)) ∧ w'.cell? ⟨blk y.hs.a, ofs y.hs.a + n * 2 + 1, none⟩ = some (.slice s.a s.n s.c)) (by kernel_rfl) (by kernel_rfl) (by kernel_rfl) HS.out ?_
  repeat (
   refine wpHeads_cons (v := ?_) rfl (Or.inl ⟨by rfl, ?_⟩) ?_
   rotate_left
   ·(intro W hW; obtain ⟨x1, x2, x3, x4⟩ := hW; (try go_simp); try with_reducible rfl)
   simp only [Act.put, List.setIfInBounds_toArray, List.getElem_toArray, List.getElem_cons_zero, List.getElem_cons_succ, List.set_cons_succ, List.set_cons_zero])
  refine wpHeads_nil ?_
  refine wpTails_cons rfl ?_
  go_wp2_with fail
  refine (rRead_any (HM9.out.below ((Below.refl _ _).drew)) HC.out.2.1 HC.out.2.2.1 HC.out.2.2.2.1 HC.out.2.2.2.2.1 HD.out.1 HD.out.2.1 HD.out.2.2).mono ?_
  rintro E W5 ⟨rfl, b5⟩
  rw [← HV.out]
  have g5 := grownBy_below b5
  have HM5 := Lib.hid ((HM9.out.below ((Below.refl _ _).drew)).below b5)
  have hS5 := And.intro (g5.cell HS.out.1 (by simp)) (And.intro (g5.cell HS.out.2.1 (by simp)) (And.intro (g5.cell HS.out.2.2.1 (by simp)) (g5.cell HS.out.2.2.2 (by simp))))
  have HS5 := Lib.hid hS5
  clear b5 g5 hS5
  go_wp2_with fail
  refine tail_mk HS5.out ?_
  refine wpTails_cons rfl ?_
  go_wp2_with fail
  refine tail_mk HS5.out ?_
  refine wpTails_cons rfl ?_
  go_wp2_with fail
  refine tail_mk HS5.out ?_
  refine wpTails_one rfl ?_
  have hsn : s.n = o.sl.length := by rw [HO.out.2.2.1, HO.out.2.1]; exact HM5.out.nS HO.out.2.2.2.2.2
  have hrow : OwnE elT W5 W0.heap.size 125 (.slice s.a o.sl.length s.c) o.sl := by
   have h1 := (HM5.out.own (.sl n) HO.out.2.2.2.2.2).1
   rw [← HO.out.2.1, ← HO.out.2.2.1] at h1
   unfold Sl.v at h1
   rw [hsn] at h1; exact h1
  have hcc : elT.c ((nth o.sl k).1, v) = (elT.c (nth o.sl k)).take 1 ++ [.int .i64 v.k, .int .i64 v.n, .int .i64 v.s] ++ (elT.c (nth o.sl k)).drop (1 + 3) := rfl
  have HRO := Lib.hid (And.intro hrow (And.intro hcc hsn))
  clear hrow hcc hsn
  go_wp2_with (refine wpList_storeP (E := elT) rfl _ _ rfl [.int .i64 v.k, .int .i64 v.n, .int .i64 v.s] szV HRO.out.1 k 1 hkl (elV.one v) ((nth o.sl k).1, v) (by show 1 + 3 ≤ 4; omega) HRO.out.2.1 (by rw [← Nat.add_assoc]; rfl) (by rfl) ?_; intro w11 hown hgr; have H11 := Lib.hid (And.intro hown hgr); clear hown hgr)
  have hMp : MM W0.heap.size W0 u v0 v1 b y (putS m n k v) w11 := by
   have h1 := H11.out.1
   have h2 := H11.out.2
   have h3 : (nth y.sv n).v = .slice s.a o.sl.length s.c := by rw [← HO.out.2.2.1]; unfold Sl.v; rw [HRO.out.2.2]
   rw [← h3] at h1 h2
   rw [HO.out.2.1] at h1
   exact HM5.out.svw HO.out.2.2.2.2.2 h2 h1
  have HMp := Lib.hid hMp
  clear hMp
  refine thenQ_mk ?_
  go_wp2_with fail
  obtain ⟨m2, hm2⟩ : ∃ m2, m2 = putS m n k v := ⟨_, rfl⟩
  rw [← hm2] at HMp
  have hp2 : 0 < m2.fr.length := by rw [hm2]; exact HC.out.2.1
  have hd2 : m2.fr.length ≤ 64 := by rw [hm2]; exact HC.out.2.2.1
  have htp : tp m2 = tp m := by rw [hm2]; rfl
  have HM2 := Lib.hid (And.intro hm2 (And.intro htp hp2))
  clear hm2 htp
  refine (rTop_any HMp.out hp2 hd2).mono ?_
  rintro E W12 ⟨rfl, b12⟩
  have hM12 := HMp.out.below b12
  obtain ⟨-, q1a, -⟩ := hM12.rdT hp2
  obtain ⟨i, hi⟩ : ∃ i, i = (tp m).i := ⟨_, rfl⟩
  have hi9 : i ≤ 1048576 := by rw [hi]; exact HC.out.2.2.2.2.2.1
  obtain ⟨f1, hM13, -⟩ := hM12.setAt hp2 (i + 1)
  rw [HM2.out.2.1, ← hi] at q1a
  have HFI := Lib.hid (show MM W0.heap.size W0 u v0 v1 b y (memP u m x).1 _ from by rw [HT.out, ← hi, ← HM2.out.1]; exact hM13)
  obtain ⟨t, ht⟩ : ∃ t, t = tpN m2 := ⟨_, rfl⟩
  rw [← ht] at q1a f1 HFI ⊢
  clear hM12 hM13 hi b12 ht hp2 hd2
  go_wp2_with fail
  go_ret
  exact ⟨by rw [HT.out]; try rfl, y, HFI.out, rfl⟩
end Go.Proofs.YtnklnklkblgnfaaGreatDoor
end
section
namespace Go.Proofs.YtnklnklkblgnfaaGreatDoor
open Go.RowKit Go.Dfl Go.Obs Go.Hir
open Go.Gra (gen_code gen_calls)
structure CaS {W0 : World} {u : Un} {v0 v1 : Value} {b : Nat} (y : Ly) (m : Mch) (Z0 : World) (xc : List Value) (s : Sl) (l : List Vl) (Z : World) : Prop where
 mm : MM W0.heap.size W0 u v0 v1 b y m Z
 bel : Below Z0.heap.size Z0 Z
 sz : Z0.heap.size + 1 ≤ Z.heap.size
 bx : (fkC Z0.heap.size xc).p Z
 row : OwnE elV Z (Z0.heap.size + 1) 50 s.v l
 no : ∀ q, Z0.heap.size ≤ q → y.rl q = .no
 w0 : W0.heap.size ≤ Z0.heap.size
section
variable {W0 : World} {u : Un} {v0 v1 : Value} {b : Nat} {y : Ly} {m : Mch} {Z0 Z Z' : World} {xc : List Value} {s s' : Sl} {l l' : List Vl}
theorem CaS.below (h : CaS (W0 := W0) (u := u) (v0 := v0) (v1 := v1) (b := b) y m Z0 xc s l Z) (hb : Below Z.heap.size Z Z') : CaS (W0 := W0) (u := u) (v0 := v0) (v1 := v1) (b := b) y m Z0 xc s l Z' :=
 ⟨h.mm.below hb, h.bel.trans (hb.mono h.bel.size), Nat.le_trans h.sz hb.size, (fkC _ _).k h.bx hb, h.row.grown (grownBy_below hb) (by cases s.v.ownBlock <;> simp), h.no, h.w0⟩
theorem CaS.app (h : CaS (W0 := W0) (u := u) (v0 := v0) (v1 := v1) (b := b) y m Z0 xc s l Z) (ho : OwnE elV Z' (Z0.heap.size + 1) 50 s'.v l') (hg : Z.grownBy Z' s.v.ownBlock) : CaS (W0 := W0) (u := u) (v0 := v0) (v1 := v1) (b := b) y m Z0 xc s' l' Z' := by
 have hr : ∀ q, s.v.ownBlock = some q → Z0.heap.size + 1 ≤ q := fun q e => (OwnE.lt h.row q e).1
 have hsz := h.sz
 exact ⟨h.mm.other hg (fun q e => ⟨h.no q (by have := hr q e; omega), Nat.le_trans h.w0 (by have := hr q e; omega)⟩), h.bel.grown hg h.bel.size (fun q e => by have := hr q e; omega), Nat.le_trans h.sz hg.size, fkC_grown h.bx hg (fun e => by have := hr _ e.symm; omega), ho, h.no, h.w0⟩
end
set_option maxHeartbeats 6400000 in
set_option maxRecDepth 8000 in
theorem rCall_any {W0 : World} {u : Un} {v0 v1 : Value} {b : Nat} {y : Ly} {m : Mch} {Z : World} (h : MM W0.heap.size W0 u v0 v1 b y m Z) (hp : 0 < m.fr.length) (hd : m.fr.length ≤ 64) (hu : UnIn W0 v0 v1 u) (hcl : u.cs.length ≤ 1000000) (hf : (tp m).f < u.fs.length) (x : Is) (xv : Value) (hxv : InS vI W0 xv x.ar) (hop : x.op = 9 ∨ x.op = 10)
  (hx : x.op = 9 → RdV u (tp m) x.a) (hr : x.op = 9 → (rd u (tp m) x.a).k = 3 → 0 ≤ (rd u (tp m) x.a).n ∧ (rd u (tp m) x.a).n < m.hp.length) (har : ∀ v ∈ x.ar, RdV u (tp m) v)
  (hc : ¬ (x.op = 9 ∧ (rd u (tp m) x.a).k ≠ 3) → ∃ fn : Nat, callee u m x = (fn : Int) ∧ fn < u.fs.length ∧ (nth u.fs fn).vs.length ≤ 256 ∧ (args u m x).length ≤ (nth u.fs fn).vs.length)
  (hn0 : 0 ≤ m.n) (hn1 : m.n ≤ 1048576) (hol : m.ob.length ≤ 1048576) (hal : x.ar.length ≤ 1048576) :
  Calls Tryz.prog 30 #[.pointer (some ⟨b, 0, none⟩), isV x xv] Z fun E Z' => E = .returned (.int .i64 (callP u m x).2) ∧ ∃ y', MM W0.heap.size W0 u v0 v1 b y' (callP u m x).1 Z' ∧ y'.en = y.en := by
 obtain ⟨xa, xc, rfl⟩ := hxv.shape
 obtain ⟨xn, hxn⟩ : ∃ n, n = x.ar.length := ⟨_, rfl⟩
 rw [← hxn] at hxv hal ⊢
 have hE := (Env.refl Z).alloc (isC' x (.slice xa xn xc)) 79
 have HE := Lib.hid (show CaS (W0 := W0) (u := u) (v0 := v0) (v1 := v1) (b := b) y m Z (isC' x (.slice xa xn xc)) ⟨none, 0, 0⟩ [] (Z.alloc (.cells (isC' x (.slice xa xn xc)).toArray 79)) from
  ⟨h.below hE.bel, hE.bel, by rw [World.size_alloc]; omega, hE.fact 0 rfl, OwnE.nil _ _ _ _, fun q hq => h.rlo q hq, h.bel.size⟩)
 obtain ⟨a, ha⟩ : ∃ a, a = rd u (tp m) x.a := ⟨_, rfl⟩
 have HC := Lib.hid (And.intro h (And.intro hp (And.intro hd (And.intro hu (And.intro hf (And.intro hop (And.intro hx (And.intro hr (And.intro har (And.intro hc (And.intro hn0 (And.intro hn1 (And.intro hol (And.intro hxv (And.intro hxn ha)))))))))))))))
 clear h hp hd hu hf hop hx hr har hc hn0 hn1 hol hxv hxn ha hE
 unfold isV
 go_enter Tryz.func30, Tryz.ntmps30
 go_upto_region 2 with fail
 refine gen_code (fun Z' => CaS (W0 := W0) (u := u) (v0 := v0) (v1 := v1) (b := b) y m Z (isC' x (.slice xa xn xc)) ⟨none, 0, 0⟩ [] Z') HE.out ?_
 intro Z1 hZ1
 obtain ⟨bx, hbx⟩ : ∃ b, b = Z.heap.size := ⟨_, rfl⟩
 have HB := Lib.hid hbx
 rw [← hbx]
 have HZ := Lib.hid hZ1
 clear hZ1 hbx HE
 obtain ⟨Cls, hCls⟩ : ∃ Cls : World → Prop, ∀ Z', Cls Z' ↔ Below Z1.heap.size Z1 Z' := ⟨_, fun _ => Iff.rfl⟩
 have hCl : Cls Z1.drew := (hCls _).2 ((Below.refl _ _).drew)
 have k0 := fun q : Wd Cls => (hCls _).1 q.ok
 have hB : ∀ q : Wd Cls, ∀ Z', Below q.val.heap.size q.val Z' → Cls Z' := fun q Z' hb => (hCls _).2 ((k0 q).trans (hb.mono (k0 q).size))
 haveI hne : Nonempty (Wd Cls) := ⟨⟨_, hCl⟩⟩
 have g0 : ∀ q : Wd Cls, q.val.cell? ⟨b, 0, none⟩ = some v0 := fun q => (HZ.out.below (k0 q)).mm.bx 0 _ rfl
 have g1 : ∀ q : Wd Cls, q.val.cell? ⟨b, 1, none⟩ = some v1 := fun q => (HZ.out.below (k0 q)).mm.bx 1 _ rfl
 have g2 : ∀ q : Wd Cls, q.val.cell? ⟨b, 2, none⟩ = some (.int .i64 u.mn) := fun q => (HZ.out.below (k0 q)).mm.bx 2 _ rfl
 have g3 : ∀ q : Wd Cls, q.val.cell? ⟨bx, 5, none⟩ = some (.string x.c) := fun q => by rw [HB.out]; exact (HZ.out.below (k0 q)).bx 5 _ rfl
 have g4 : ∀ q : Wd Cls, q.val.cell? ⟨bx, 6, none⟩ = some (.string x.m) := fun q => by rw [HB.out]; exact (HZ.out.below (k0 q)).bx 6 _ rfl
 obtain ⟨fi, hfi⟩ : ∃ fi, fi = fuI u.fs x.c x.m := ⟨_, rfl⟩
 have f1 : ∀ q : Wd Cls, Calls Tryz.prog 48 #[.agg #[v0, v1, .int .i64 u.mn], .string x.c, .string x.m] q.val fun e w'' => e = .returned (.int .i64 fi) ∧ ∃ r : Wd Cls, w'' = r.val := fun q => cls_bel (hB q) (by
  rw [hfi]
  exact rFu13_any u v0 v1 u.mn x.c x.m q.val (HC.out.2.2.2.1.1.below (HZ.out.below (k0 q)).mm.bel) (HC.out.2.2.2.1.2.below (HZ.out.below (k0 q)).mm.bel))
 have F1 := Lib.hid f1
 have HK := Lib.hid k0
 have HCC := Lib.hid hCl
 have HFI := Lib.hid hfi
 clear hCls hCl k0 hB f1 hfi
 refine wp_region_class Cls (by kernel_rfl) (by kernel_rfl) HCC.out ?_
 repeat (go_big_quiet_step ((go_at_call 48; exact F1.out _)))
 refine wpQuiet_nil ?_
 rintro _ ⟨q9, rfl⟩
 have hS9 := HZ.out.below (HK.out q9)
 obtain ⟨V, hV⟩ : ∃ V, V = q9.val := ⟨_, rfl⟩
 rw [← hV] at hS9 ⊢
 have HS := Lib.hid hS9
 clear g0 g1 g2 g3 g4 hne hV hS9 HZ
 have e0 : V.cell? ⟨bx, 0, none⟩ = some (.int .i64 x.op) := by rw [HB.out]; exact HS.out.bx 0 _ rfl
 go_upto_if 20 with fail
 go_cut [5, 6] (fun p q wx => ∃ s : Sl, p = .slice s.a s.n s.c ∧ q = .int .i64 (callee u m x) ∧ ¬ (x.op = 9 ∧ a.k ≠ 3) ∧ CaS (W0 := W0) (u := u) (v0 := v0) (v1 := v1) (b := b) y m Z (isC' x (.slice xa xn xc)) s (if x.op = 9 then [a] else []) wx)
 case first =>
  by_cases hop : x.op = 9
  case neg =>
   have t1 : (x.op == 9) = false := by simpa using hop
   have HT := Lib.hid (show fi = callee u m x by rw [HFI.out]; unfold callee; rw [if_neg hop])
   have HO := Lib.hid hop
   clear hop
   go_wp2_with fail
   go_meet
   case rel => exact ⟨⟨none, 0, 0⟩, rfl, by rw [HT.out], fun h => HO.out h.1, by rw [if_neg HO.out]; exact HS.out⟩
  have t1 : (x.op == 9) = true := by simp [hop]
  have HO := Lib.hid hop
  have HRD := Lib.hid (HC.out.2.2.2.2.2.2.1 hop)
  have e2 : V.cell? ⟨bx, 2, none⟩ = some (.int .i64 x.a) := by rw [HB.out]; exact HS.out.bx 2 _ rfl
  clear hop
  go_wp2_with fail
  refine (rRead_any HS.out.mm HC.out.2.1 HC.out.2.2.1 HC.out.2.2.2.1.2 HC.out.2.2.2.2.1 HRD.out.1 HRD.out.2.1 HRD.out.2.2).mono ?_
  rintro E W2 ⟨rfl, b2⟩
  rw [← HC.out.2.2.2.2.2.2.2.2.2.2.2.2.2.2.2]
  have hS2 := HS.out.below b2
  have H2 := Lib.hid (And.intro (hS2.below ((Below.refl _ _).alloc (Nat.le_refl _) (.cells #[.int .i64 a.k, .int .i64 a.n, .int .i64 a.s] 50))) (show (fkC W2.heap.size [.int .i64 a.k, .int .i64 a.n, .int .i64 a.s]).p (W2.alloc (.cells #[.int .i64 a.k, .int .i64 a.n, .int .i64 a.s] 50)) from cells_new rfl))
  clear b2 hS2 e2 e0
  go_upto_region 5 with fail
  refine gen_code (fun Z' => CaS (W0 := W0) (u := u) (v0 := v0) (v1 := v1) (b := b) y m Z (isC' x (.slice xa xn xc)) ⟨none, 0, 0⟩ [] Z' ∧ (fkC W2.heap.size [.int .i64 a.k, .int .i64 a.n, .int .i64 a.s]).p Z') H2.out ?_
  rintro Z3 ⟨hZ3, hf3⟩
  obtain ⟨ba, hba⟩ : ∃ b, b = W2.heap.size := ⟨_, rfl⟩
  rw [← hba] at hf3 ⊢
  have H3 := Lib.hid (And.intro hZ3 hf3)
  have a0 := hf3 0 _ rfl
  clear hZ3 hf3 hba H2
  by_cases hk3 : a.k = 3
  case neg =>
   have t2 : (a.k == 3) = false := by simpa using hk3
   have t3 : (a.k != 3) = true := by simpa using hk3
   have HT := Lib.hid (show callP u m x = (m, 3) by unfold callP; rw [← HC.out.2.2.2.2.2.2.2.2.2.2.2.2.2.2.2, if_pos ⟨HO.out, hk3⟩])
   clear hk3
   go_wp2_with fail
   go_ret
   exact ⟨by rw [HT.out]; try rfl, y, by rw [HT.out]; exact H3.out.1.mm, rfl⟩
  have t2 : (a.k == 3) = true := by simp [hk3]
  have t3 : (a.k != 3) = false := by simp [hk3]
  have hrr := HC.out.2.2.2.2.2.2.2.1 HO.out (by rw [← HC.out.2.2.2.2.2.2.2.2.2.2.2.2.2.2.2]; exact hk3)
  rw [← HC.out.2.2.2.2.2.2.2.2.2.2.2.2.2.2.2] at hrr
  obtain ⟨n, hn⟩ : ∃ n : Nat, a.n = (n : Int) := ⟨a.n.toNat, by omega⟩
  have hnl : n < m.hp.length := by omega
  obtain ⟨o, ho⟩ : ∃ o, o = (nth m.hp n).c := ⟨_, rfl⟩
  obtain ⟨di, hdi⟩ : ∃ di, di = dsp u o x.m := ⟨_, rfl⟩
  have HN := Lib.hid (And.intro (And.intro hn hk3) (And.intro ho (And.intro hdi hnl)))
  have HT := Lib.hid (show di = callee u m x by
   rw [hdi, ho]; unfold callee
   rw [if_pos HO.out, ← HC.out.2.2.2.2.2.2.2.2.2.2.2.2.2.2.2, hn, Int.toNat_natCast])
  clear hrr hk3 hdi hn
  go_upto_region 7 with fail
  clear t2 t3 a0
  obtain ⟨io, ro⟩ := H3.out.1.mm.rdO
  have ro0 := (ro n hnl).1
  have jo := io (n : Int) (by omega) (by omega)
  rw [Int.toNat_natCast] at jo
  rw [← ho] at ro0
  obtain ⟨Cls, hCls⟩ : ∃ Cls : World → Prop, ∀ Z', Cls Z' ↔ Below Z3.heap.size Z3 Z' := ⟨_, fun _ => Iff.rfl⟩
  have hCl : Cls Z3.drew := (hCls _).2 ((Below.refl _ _).drew)
  have k0 := fun q : Wd Cls => (hCls _).1 q.ok
  have hB : ∀ q : Wd Cls, ∀ Z', Below q.val.heap.size q.val Z' → Cls Z' := fun q Z' hb => (hCls _).2 ((k0 q).trans (hb.mono (k0 q).size))
  haveI hne : Nonempty (Wd Cls) := ⟨⟨_, hCl⟩⟩
  have g0 : ∀ q : Wd Cls, q.val.cell? ⟨b, 0, none⟩ = some v0 := fun q => (H3.out.1.below (k0 q)).mm.bx 0 _ rfl
  have g1 : ∀ q : Wd Cls, q.val.cell? ⟨b, 1, none⟩ = some v1 := fun q => (H3.out.1.below (k0 q)).mm.bx 1 _ rfl
  have g2 : ∀ q : Wd Cls, q.val.cell? ⟨b, 2, none⟩ = some (.int .i64 u.mn) := fun q => (H3.out.1.below (k0 q)).mm.bx 2 _ rfl
  have g3 : ∀ q : Wd Cls, q.val.cell? ⟨b, 4, none⟩ = some (.slice y.hs.a y.hs.n y.hs.c) := fun q => (H3.out.1.below (k0 q)).mm.bx 4 _ rfl
  have g4 : ∀ q : Wd Cls, q.val.cell? ⟨bx, 6, none⟩ = some (.string x.m) := fun q => by rw [HB.out]; exact (H3.out.1.below (k0 q)).bx 6 _ rfl
  have g5 : ∀ q : Wd Cls, q.val.cell? ⟨ba, 1, none⟩ = some (.int .i64 (n : Int)) := fun q => by rw [← HN.out.1.1]; exact (fkC ba _).k H3.out.2 (k0 q) 1 _ rfl
  have g6 : ∀ q : Wd Cls, q.val.cell? ⟨blk y.hs.a, ofs y.hs.a + n * 2, none⟩ = some (.string o) := fun q => (grownBy_below (k0 q)).cell ro0 (by simp)
  have f1 : ∀ q : Wd Cls, Calls Tryz.prog 49 #[.agg #[v0, v1, .int .i64 u.mn], .string o, .string x.m] q.val fun e w'' => e = .returned (.int .i64 di) ∧ ∃ r : Wd Cls, w'' = r.val := fun q => cls_bel (hB q) (by
   rw [HN.out.2.2.1]
   exact rDispatch_any u v0 v1 u.mn o x.m q.val (HC.out.2.2.2.1.below (H3.out.1.below (k0 q)).mm.bel) hcl)
  have F1 := Lib.hid f1
  have HK := Lib.hid k0
  have HCC := Lib.hid hCl
  clear hCls hCl k0 hB f1 io ro ro0 ho
  refine wp_region_class Cls (by kernel_rfl) (by kernel_rfl) HCC.out ?_
  repeat (go_big_quiet_step ((go_at_call 49; exact F1.out _)))
  refine wpQuiet_nil ?_
  rintro _ ⟨q9, rfl⟩
  have hS9 := H3.out.1.below (HK.out q9)
  have hf9 := (fkC ba _).k H3.out.2 (HK.out q9)
  obtain ⟨V9, hV9⟩ : ∃ V, V = q9.val := ⟨_, rfl⟩
  rw [← hV9] at hS9 hf9 ⊢
  have a0 := hf9 0 _ rfl
  have a1 := hf9 1 _ rfl
  have a2 := hf9 2 _ rfl
  have hSa := hS9.below ((Below.refl _ _).alloc (Nat.le_refl _) (.cells #[.int .i64 a.k, .int .i64 a.n, .int .i64 a.s] 50))
  have H9 := Lib.hid hSa
  clear g0 g1 g2 g3 g4 g5 g6 hne hV9 hS9 hf9 hSa H3 jo
  go_wp2_with (at_builtin; refine wp_appendE (E := elV) sVa rfl rfl _ _ rfl (v := .slice none 0 0) (l := []) (base := Z.heap.size + 1) rfl V9.heap.size rfl H9.out.row a (cells_new (W := V9) (cs := [.int .i64 a.k, .int .i64 a.n, .int .i64 a.s]) (t := 50) rfl) (by decide) (by decide) H9.out.sz ?_; intro v' w3 hown hgr hat; obtain ⟨s9, c9, rfl⟩ := hown.shape (n := 1) rfl; have H10 := Lib.hid (H9.out.app (s' := ⟨s9, 1, c9⟩) hown hgr); clear hown hgr hat)
  go_meet
  case rel => exact ⟨⟨s9, 1, c9⟩, rfl, by rw [HT.out], fun h => h.2 HN.out.1.2, by rw [if_pos HO.out]; exact H10.out⟩
 case rest =>
 obtain ⟨s, rfl, rfl, hnn, hS2⟩ := hcut
 have hnn2 : ¬ (x.op = 9 ∧ (rd u (tp m) x.a).k ≠ 3) := by rw [← HC.out.2.2.2.2.2.2.2.2.2.2.2.2.2.2.2]; exact hnn
 obtain ⟨fn, hfn, hfl, hvl, hal2⟩ := HC.out.2.2.2.2.2.2.2.2.2.1 hnn2
 rw [hfn]
 obtain ⟨pre, hpre⟩ : ∃ pre, pre = if x.op = 9 then [a] else [] := ⟨_, rfl⟩
 rw [← hpre] at hS2
 have hpl : pre.length ≤ 1 := by rw [hpre]; split <;> simp
 have hargs : args u m x = pre ++ x.ar.map (rd u (tp m)) := by unfold args; rw [hpre, HC.out.2.2.2.2.2.2.2.2.2.2.2.2.2.2.2]
 have HF := Lib.hid (And.intro hnn2 (And.intro hfn (And.intro hfl (And.intro hvl (And.intro hal2 hargs)))))
 have H2 := Lib.hid hS2
 have hfn5 : y.fs.n = m.fr.length := hS2.mm.nF
 obtain ⟨L, hL⟩ : ∃ L, L = m.fr.length := ⟨_, rfl⟩
 have c5 : wc.cell? ⟨b, 5, none⟩ = some (.slice y.fs.a L y.fs.c) := by rw [hL, ← hfn5]; exact hS2.mm.bx 5 _ rfl
 have HL := Lib.hid hL
 clear hnn hnn2 hfn hfl hvl hal2 hpre hargs hS2 hfn5 hL HS e0
 by_cases h64 : 64 ≤ L
 ·have t1 : decide ((64 : Int) ≤ (L : Int)) = true := decide_eq_true (by omega)
  have t2 : decide (64 ≤ L) = true := decide_eq_true h64
  have HT := Lib.hid (show callP u m x = (m, 5) by unfold callP; rw [if_neg HF.out.1, if_pos (by rw [← HL.out]; exact h64)])
  clear h64
  go_wp2_with fail
  go_ret
  exact ⟨by rw [HT.out]; try rfl, y, by rw [HT.out]; exact H2.out.mm, rfl⟩
 have t1 : decide ((64 : Int) ≤ (L : Int)) = false := decide_eq_false (by omega)
 have t2 : decide (64 ≤ L) = false := decide_eq_false h64
 have HT := Lib.hid (show callP u m x = (entP u m (fn : Int) (pre ++ x.ar.map (rd u (tp m))), 0) by unfold callP; rw [if_neg HF.out.1, if_neg (by rw [← HL.out]; exact h64), HF.out.2.1, HF.out.2.2.2.2.2])
 clear h64
 go_wp2_with fail
 clear c5 t1 t2
 go_loopw [5, 8] (fun p z wr => ∃ (i : Nat) (s : Sl), i ≤ xn ∧ p = .slice s.a s.n s.c ∧ z = .int .i64 (i : Int) ∧ Hid (CaS (W0 := W0) (u := u) (v0 := v0) (v1 := v1) (b := b) y m Z (isC' x (.slice xa xn xc)) s (pre ++ (x.ar.take i).map (rd u (tp m))) wr)) (fun _ z _ => xn - (intOf z).toNat)
 case atStart => exact ⟨0, s, by omega, rfl, rfl, by rw [List.take_zero, List.map_nil, List.append_nil]; exact H2.out⟩
 case round =>
  clear H2
  obtain ⟨i, s', hi, rfl, rfl, hh⟩ := hrel
  have e7 : wr.cell? ⟨bx, 7, none⟩ = some (.slice xa xn xc) := by rw [HB.out]; exact hh.out.bx 7 _ rfl
  by_cases hlt : i < xn
  ·have hii : (i : Int) < (xn : Int) := by omega
   obtain ⟨ji, zi⟩ := int_at HC.out.2.2.2.2.2.2.2.2.2.2.2.2.2.1 HC.out.2.2.2.2.2.2.2.2.2.2.2.2.2.2.1 hlt
   have p1 := zi wr hh.out.mm.bel
   obtain ⟨yi, hyi⟩ : ∃ yi, yi = nth x.ar i := ⟨_, rfl⟩
   rw [← hyi] at p1
   have hix : i < x.ar.length := by rw [← HC.out.2.2.2.2.2.2.2.2.2.2.2.2.2.2.1]; exact hlt
   have hrd := HC.out.2.2.2.2.2.2.2.2.1 yi (by rw [hyi]; exact nth_mem _ _ hix)
   obtain ⟨l, hl⟩ : ∃ l, l = pre ++ (x.ar.take i).map (rd u (tp m)) := ⟨_, rfl⟩
   have hh2 := hh.out
   rw [← hl] at hh2
   have hll : l.length ≤ 1048577 := by rw [hl, List.length_append, List.length_map, List.length_take]; omega
   have hnext : l ++ [rd u (tp m) yi] = pre ++ (x.ar.take (i + 1)).map (rd u (tp m)) := by rw [hl, take_snoc _ _ hix, List.map_append, ← List.append_assoc, ← hyi]; rfl
   have hl1 : (l.length + 1) * 24 ≤ 140737488355328 := by omega
   have hl2 : l.length + 1 ≤ 1000000000000 := by omega
   have HQ := Lib.hid (And.intro hh2 (And.intro hrd (And.intro hnext (And.intro hl1 hl2))))
   clear zi hyi hix hrd hl hh2 hll hnext hl1 hl2 hh
   go_wp2_with fail
   refine (rRead_any HQ.out.1.mm HC.out.2.1 HC.out.2.2.1 HC.out.2.2.2.1.2 HC.out.2.2.2.2.1 HQ.out.2.1.1 HQ.out.2.1.2.1 HQ.out.2.1.2.2).mono ?_
   rintro E W5 ⟨rfl, b5⟩
   obtain ⟨v, hv⟩ : ∃ v, v = rd u (tp m) yi := ⟨_, rfl⟩
   rw [← hv]
   have H6 := Lib.hid (And.intro ((HQ.out.1.below b5).below ((Below.refl _ _).alloc (Nat.le_refl _) (.cells #[.int .i64 v.k, .int .i64 v.n, .int .i64 v.s] 50))) hv)
   have HSN := Lib.hid (show s'.n = l.length from shapeV HQ.out.1.row)
   clear b5 hv e7 p1 ji
   go_wp2_with (at_builtin; refine wp_appendE (E := elV) sVa rfl rfl _ _ rfl (v := .slice s'.a s'.n s'.c) (l := l) (base := Z.heap.size + 1) rfl W5.heap.size rfl H6.out.1.row v (cells_new (W := W5) (cs := [.int .i64 v.k, .int .i64 v.n, .int .i64 v.s]) (t := 50) rfl) HQ.out.2.2.2.1 HQ.out.2.2.2.2 H6.out.1.sz ?_; intro v' w3 hown hgr hat; obtain ⟨s9, c9, rfl⟩ := hown.shape (n := l.length + 1) (by simp); have H10 := Lib.hid (H6.out.1.app (s' := ⟨s9, l.length + 1, c9⟩) hown hgr); clear hown hgr hat)
   go_roundw
   case rel => exact ⟨i + 1, ⟨s9, l.length + 1, c9⟩, by omega, rfl, by go_num, by rw [← HQ.out.2.2.1, ← H6.out.2]; exact H10.out⟩
   case measure => simp [intOf]; omega
  ·obtain rfl : xn = i := by omega
   have hfull : (x.ar.take xn) = x.ar := by rw [HC.out.2.2.2.2.2.2.2.2.2.2.2.2.2.2.1]; exact List.take_length
   have hS3 := hh.out
   rw [hfull] at hS3
   have H3 := Lib.hid hS3
   clear hlt hi hfull hS3 hh
   go_wp2_with fail
   refine (rEnter_any H3.out.mm HC.out.2.2.2.1.2 HF.out.2.2.1 HF.out.2.2.2.1 (pre ++ x.ar.map (rd u (tp m))) s' (Z.heap.size + 1) H3.out.row (by rw [← HF.out.2.2.2.2.2]; exact HF.out.2.2.2.2.1) HC.out.2.2.1 HC.out.2.2.2.2.2.2.2.2.2.2.1 HC.out.2.2.2.2.2.2.2.2.2.2.2.1 HC.out.2.2.2.2.2.2.2.2.2.2.2.2.1).mono ?_
   rintro E W5 ⟨rfl, y', hM5, hen⟩
   have H5 := Lib.hid (And.intro hM5 hen)
   clear hM5 hen e7
   go_wp2_with fail
   go_ret
   exact ⟨by rw [HT.out]; try rfl, y', by rw [HT.out]; exact H5.out.1, H5.out.2⟩
end Go.Proofs.YtnklnklkblgnfaaGreatDoor
end
section
namespace Go.Proofs.YtnklnklkblgnfaaGreatDoor
open Go.RowKit Go.Dfl Go.Obs Go.Hir
open Go.Gra (gen_code gen_calls)
def CmpR (W0 : World) (u : Un) (v0 v1 : Value) (b : Nat) (y : Ly) (m' : Mch) (e : Ending) (Z' : World) : Prop := e = .returned (.tuple #[]) ∧ ∃ y', MM W0.heap.size W0 u v0 v1 b y' m' Z' ∧ y'.en = y.en
theorem fldV1 (x y z : Value) (w : World) : (Instr.field 50 (.agg #[x, y, z]) 1).run Tryz.prog w = .ok y w := by kernel_rfl
section
variable {W0 : World} {u : Un} {v0 v1 : Value} {b : Nat} {y : Ly} {m : Mch} {Z : World} (h : MM W0.heap.size W0 u v0 v1 b y m Z) (hp : 0 < m.fr.length) (hd : m.fr.length ≤ 64) (hu : UnIn W0 v0 v1 u) (hf : (tp m).f < u.fs.length) (hi : (tp m).i ≤ 1048576) (x : Is) (xv : Value) (hxv : InS vI W0 xv x.ar) (hd0 : 0 ≤ x.d) (hd1 : x.d < (tp m).vs.length)
set_option maxHeartbeats 6400000 in
set_option maxRecDepth 8000 in
include h hp hd hu hf hi hxv hd0 hd1 in
theorem rComp1_any (hop : x.op = 1) : Calls Tryz.prog 35 #[.pointer (some ⟨b, 0, none⟩), isV x xv] Z (CmpR W0 u v0 v1 b y (cpP u m x)) := by
 obtain ⟨xa, xc, rfl⟩ := hxv.shape
 obtain ⟨xn, hxn⟩ : ∃ n, n = x.ar.length := ⟨_, rfl⟩
 rw [← hxn]
 have HE := Lib.hid ((Env.refl Z).alloc (isC' x (.slice xa xn xc)) 79)
 have HC := Lib.hid (And.intro h (And.intro hp (And.intro hd (And.intro hu (And.intro hf (And.intro hi (And.intro hd0 hd1)))))))
 have HOP := Lib.hid hop
 clear h hp hd hu hf hi hd0 hd1 hxv hxn hop
 unfold isV
 go_enter Tryz.func35, Tryz.ntmps35
 go_upto_region 1 with fail
 refine gen_code (fun Z' => Env Z [fkC Z.heap.size (isC' x (.slice xa xn xc))] Z') HE.out ?_
 intro Z1 hZ1
 obtain ⟨bx, hbx⟩ : ∃ b, b = Z.heap.size := ⟨_, rfl⟩
 have hbn : y.rl bx = .no := HC.out.1.rlo _ (by omega)
 have HB := Lib.hid (And.intro hbn hbx)
 rw [← hbx] at hZ1 ⊢
 have HZ1 := Lib.hid hZ1
 clear hZ1 hbx HE hbn
 go_wp2_with fail
 refine (rTop_any (HC.out.1.below HZ1.out.bel) HC.out.2.1 HC.out.2.2.1).mono ?_
 rintro E W2 ⟨rfl, b2⟩
 have H2 := Lib.hid (HZ1.out.below b2)
 have HM := Lib.hid (HC.out.1.below H2.out.bel)
 have e0 : W2.cell? ⟨bx, 0, none⟩ = some (.int .i64 1) := by rw [← HOP.out]; exact H2.out.cell 0 rfl 0 rfl
 have e1 := H2.out.cell 0 rfl 1 rfl
 have e2 := H2.out.cell 0 rfl 2 rfl
 have e3 := H2.out.cell 0 rfl 3 rfl
 have e4 := H2.out.cell 0 rfl 4 rfl
 clear b2 HZ1
 have HT := Lib.hid (show cpP u m x = setV m x.d ⟨1, x.n, 0⟩ by
  unfold cpP cpM cpW cpV; rw [if_neg (by rw [HOP.out]; decide), if_neg (by rw [HOP.out]; decide), if_neg (by rw [HOP.out]; decide), if_pos HOP.out])
 have HS := Lib.hid (show W2.drew.cell? ⟨bx, 1, none⟩ = some (.int .i64 x.d) ∧ W2.drew.cell? ⟨bx, 4, none⟩ = some (.int .i64 x.n) from ⟨e1, e4⟩)
 go_upto_region 4 with fail
 clear e0 e1 e2 e3 e4
 refine wp_region_mix [0, 1, 2, 3, 4] [5, 6] (fun w' => w'.cell? ⟨bx, 1, none⟩ = some (.int .i64 x.d) ∧ w'.cell? ⟨bx, 4, none⟩ = some (.int .i64 x.n)) (by kernel_rfl) (by kernel_rfl) (by kernel_rfl) HS.out ?_
 repeat (
  refine wpHeads_cons (v := ?_) rfl (Or.inl ⟨by rfl, ?_⟩) ?_
  rotate_left
  ·(intro W hW; obtain ⟨x1, x2⟩ := hW; (try go_simp); try with_reducible rfl)
  simp only [Act.put, List.setIfInBounds_toArray, List.getElem_toArray, List.getElem_cons_zero, List.getElem_cons_succ, List.set_cons_succ, List.set_cons_zero])
 refine wpHeads_nil ?_
 refine wpTails_cons rfl ?_
 go_wp2_with fail
 refine (rInteger_any x.n _).mono ?_
 rintro E W5 ⟨rfl, b5⟩
 have g5 := grownBy_below b5
 have HM5 := Lib.hid ((HM.out.below ((Below.refl _ _).drew)).below b5)
 have HS5 := Lib.hid (And.intro (g5.cell HS.out.1 (by simp)) (g5.cell HS.out.2 (by simp)))
 clear b5 g5
 go_wp2_with fail
 refine tail_mk HS5.out ?_
 refine wpTails_one rfl ?_
 go_wp2_with fail
 refine (rSet_any HM5.out HC.out.2.1 HC.out.2.2.1 HC.out.2.2.2.2.2.2.1 HC.out.2.2.2.2.2.2.2 HC.out.2.2.2.2.2.1 ⟨1, x.n, 0⟩).mono ?_
 rintro E W9 ⟨rfl, hM9, -⟩
 have H9 := Lib.hid hM9
 clear hM9
 go_wp2_with fail
 refine thenQ_mk ?_
 go_wp2_with fail
 refine bodyPost_end (v := .tuple #[]) (results_none rfl _ _ _) rfl ?_
 exact ⟨by first | rfl | trivial, y, by rw [HT.out]; exact H9.out, rfl⟩
set_option maxHeartbeats 6400000 in
set_option maxRecDepth 8000 in
include h hp hd hu hf hi hxv hd0 hd1 in
theorem rComp2_any (hop : x.op = 2) : Calls Tryz.prog 35 #[.pointer (some ⟨b, 0, none⟩), isV x xv] Z (CmpR W0 u v0 v1 b y (cpP u m x)) := by
 obtain ⟨xa, xc, rfl⟩ := hxv.shape
 obtain ⟨xn, hxn⟩ : ∃ n, n = x.ar.length := ⟨_, rfl⟩
 rw [← hxn]
 have HE := Lib.hid ((Env.refl Z).alloc (isC' x (.slice xa xn xc)) 79)
 have HC := Lib.hid (And.intro h (And.intro hp (And.intro hd (And.intro hu (And.intro hf (And.intro hi (And.intro hd0 hd1)))))))
 have HOP := Lib.hid hop
 clear h hp hd hu hf hi hd0 hd1 hxv hxn hop
 unfold isV
 go_enter Tryz.func35, Tryz.ntmps35
 go_upto_region 1 with fail
 refine gen_code (fun Z' => Env Z [fkC Z.heap.size (isC' x (.slice xa xn xc))] Z') HE.out ?_
 intro Z1 hZ1
 obtain ⟨bx, hbx⟩ : ∃ b, b = Z.heap.size := ⟨_, rfl⟩
 have hbn : y.rl bx = .no := HC.out.1.rlo _ (by omega)
 have HB := Lib.hid (And.intro hbn hbx)
 rw [← hbx] at hZ1 ⊢
 have HZ1 := Lib.hid hZ1
 clear hZ1 hbx HE hbn
 go_wp2_with fail
 refine (rTop_any (HC.out.1.below HZ1.out.bel) HC.out.2.1 HC.out.2.2.1).mono ?_
 rintro E W2 ⟨rfl, b2⟩
 have H2 := Lib.hid (HZ1.out.below b2)
 have HM := Lib.hid (HC.out.1.below H2.out.bel)
 have e0 : W2.cell? ⟨bx, 0, none⟩ = some (.int .i64 2) := by rw [← HOP.out]; exact H2.out.cell 0 rfl 0 rfl
 have e1 := H2.out.cell 0 rfl 1 rfl
 have e2 := H2.out.cell 0 rfl 2 rfl
 have e3 := H2.out.cell 0 rfl 3 rfl
 have e4 := H2.out.cell 0 rfl 4 rfl
 clear b2 HZ1
 have HT := Lib.hid (show cpP u m x = setV m x.d ⟨2, 0, 0⟩ by
  unfold cpP cpM cpW cpV; rw [if_neg (by rw [HOP.out]; decide), if_neg (by rw [HOP.out]; decide), if_neg (by rw [HOP.out]; decide), if_neg (by rw [HOP.out]; decide), if_pos HOP.out])
 clear e2 e3 e4
 go_wp2_with fail
 refine (rSet_any HM.out HC.out.2.1 HC.out.2.2.1 HC.out.2.2.2.2.2.2.1 HC.out.2.2.2.2.2.2.2 HC.out.2.2.2.2.2.1 ⟨2, 0, 0⟩).mono ?_
 rintro E W9 ⟨rfl, hM9, -⟩
 have H9 := Lib.hid hM9
 clear hM9
 go_wp2_with fail
 refine bodyPost_end (v := .tuple #[]) (results_none rfl _ _ _) rfl ?_
 exact ⟨by first | rfl | trivial, y, by rw [HT.out]; exact H9.out, rfl⟩
set_option maxHeartbeats 6400000 in
set_option maxRecDepth 8000 in
include h hp hd hu hf hi hxv hd0 hd1 in
theorem rComp3_any (hop : x.op = 3) (ha : RdV u (tp m) x.a) : Calls Tryz.prog 35 #[.pointer (some ⟨b, 0, none⟩), isV x xv] Z (CmpR W0 u v0 v1 b y (cpP u m x)) := by
 have HA := Lib.hid ha
 clear ha
 obtain ⟨xa, xc, rfl⟩ := hxv.shape
 obtain ⟨xn, hxn⟩ : ∃ n, n = x.ar.length := ⟨_, rfl⟩
 rw [← hxn]
 have HE := Lib.hid ((Env.refl Z).alloc (isC' x (.slice xa xn xc)) 79)
 have HC := Lib.hid (And.intro h (And.intro hp (And.intro hd (And.intro hu (And.intro hf (And.intro hi (And.intro hd0 hd1)))))))
 have HOP := Lib.hid hop
 clear h hp hd hu hf hi hd0 hd1 hxv hxn hop
 unfold isV
 go_enter Tryz.func35, Tryz.ntmps35
 go_upto_region 1 with fail
 refine gen_code (fun Z' => Env Z [fkC Z.heap.size (isC' x (.slice xa xn xc))] Z') HE.out ?_
 intro Z1 hZ1
 obtain ⟨bx, hbx⟩ : ∃ b, b = Z.heap.size := ⟨_, rfl⟩
 have hbn : y.rl bx = .no := HC.out.1.rlo _ (by omega)
 have HB := Lib.hid (And.intro hbn hbx)
 rw [← hbx] at hZ1 ⊢
 have HZ1 := Lib.hid hZ1
 clear hZ1 hbx HE hbn
 go_wp2_with fail
 refine (rTop_any (HC.out.1.below HZ1.out.bel) HC.out.2.1 HC.out.2.2.1).mono ?_
 rintro E W2 ⟨rfl, b2⟩
 have H2 := Lib.hid (HZ1.out.below b2)
 have HM := Lib.hid (HC.out.1.below H2.out.bel)
 have e0 : W2.cell? ⟨bx, 0, none⟩ = some (.int .i64 3) := by rw [← HOP.out]; exact H2.out.cell 0 rfl 0 rfl
 have e1 := H2.out.cell 0 rfl 1 rfl
 have e2 := H2.out.cell 0 rfl 2 rfl
 have e3 := H2.out.cell 0 rfl 3 rfl
 have e4 := H2.out.cell 0 rfl 4 rfl
 clear b2 HZ1
 obtain ⟨v, hv⟩ : ∃ v, v = rd u (tp m) x.a := ⟨_, rfl⟩
 have HV := Lib.hid hv
 have HT := Lib.hid (show cpP u m x = setV m x.d v by
  rw [hv]; unfold cpP cpM cpW cpV; rw [if_neg (by rw [HOP.out]; decide), if_neg (by rw [HOP.out]; decide), if_neg (by rw [HOP.out]; decide), if_neg (by rw [HOP.out]; decide), if_neg (by rw [HOP.out]; decide), if_pos HOP.out])
 have HS := Lib.hid (show W2.drew.cell? ⟨bx, 1, none⟩ = some (.int .i64 x.d) ∧ W2.drew.cell? ⟨bx, 2, none⟩ = some (.int .i64 x.a) from ⟨e1, e2⟩)
 clear hv
 go_upto_region 8 with fail
 clear e0 e1 e2 e3 e4
 refine wp_region_mix [0, 1, 2, 3, 4, 5] [6, 7] (fun w' => w'.cell? ⟨bx, 1, none⟩ = some (.int .i64 x.d) ∧ w'.cell? ⟨bx, 2, none⟩ = some (.int .i64 x.a)) (by kernel_rfl) (by kernel_rfl) (by kernel_rfl) HS.out ?_
 repeat (
  refine wpHeads_cons (v := ?_) rfl (Or.inl ⟨by rfl, ?_⟩) ?_
  rotate_left
  ·(intro W hW; obtain ⟨x1, x2⟩ := hW; (try go_simp); try with_reducible rfl)
  simp only [Act.put, List.setIfInBounds_toArray, List.getElem_toArray, List.getElem_cons_zero, List.getElem_cons_succ, List.set_cons_succ, List.set_cons_zero])
 refine wpHeads_nil ?_
 refine wpTails_cons rfl ?_
 go_wp2_with fail
 refine (rRead_any (HM.out.below ((Below.refl _ _).drew)) HC.out.2.1 HC.out.2.2.1 HC.out.2.2.2.1.2 HC.out.2.2.2.2.1 HA.out.1 HA.out.2.1 HA.out.2.2).mono ?_
 rintro E W5 ⟨rfl, b5⟩
 rw [← HV.out]
 have g5 := grownBy_below b5
 have HM5 := Lib.hid ((HM.out.below ((Below.refl _ _).drew)).below b5)
 have HS5 := Lib.hid (And.intro (g5.cell HS.out.1 (by simp)) (g5.cell HS.out.2 (by simp)))
 clear b5 g5
 go_wp2_with fail
 refine tail_mk HS5.out ?_
 refine wpTails_one rfl ?_
 go_wp2_with fail
 refine (rSet_any HM5.out HC.out.2.1 HC.out.2.2.1 HC.out.2.2.2.2.2.2.1 HC.out.2.2.2.2.2.2.2 HC.out.2.2.2.2.2.1 v).mono ?_
 rintro E W9 ⟨rfl, hM9, -⟩
 have H9 := Lib.hid hM9
 clear hM9
 go_wp2_with fail
 refine thenQ_mk ?_
 go_wp2_with fail
 refine bodyPost_end (v := .tuple #[]) (results_none rfl _ _ _) rfl ?_
 exact ⟨by first | rfl | trivial, y, by rw [HT.out]; exact H9.out, rfl⟩
set_option maxHeartbeats 6400000 in
set_option maxRecDepth 8000 in
include h hp hd hu hf hi hxv hd0 hd1 in
theorem rComp16_any (hop : x.op = 16) (ha : RdV u (tp m) x.a) : Calls Tryz.prog 35 #[.pointer (some ⟨b, 0, none⟩), isV x xv] Z (CmpR W0 u v0 v1 b y (cpP u m x)) := by
 have HA := Lib.hid ha
 clear ha
 obtain ⟨xa, xc, rfl⟩ := hxv.shape
 obtain ⟨xn, hxn⟩ : ∃ n, n = x.ar.length := ⟨_, rfl⟩
 rw [← hxn]
 have HE := Lib.hid ((Env.refl Z).alloc (isC' x (.slice xa xn xc)) 79)
 have HC := Lib.hid (And.intro h (And.intro hp (And.intro hd (And.intro hu (And.intro hf (And.intro hi (And.intro hd0 hd1)))))))
 have HOP := Lib.hid hop
 clear h hp hd hu hf hi hd0 hd1 hxv hxn hop
 unfold isV
 go_enter Tryz.func35, Tryz.ntmps35
 go_upto_region 1 with fail
 refine gen_code (fun Z' => Env Z [fkC Z.heap.size (isC' x (.slice xa xn xc))] Z') HE.out ?_
 intro Z1 hZ1
 obtain ⟨bx, hbx⟩ : ∃ b, b = Z.heap.size := ⟨_, rfl⟩
 have hbn : y.rl bx = .no := HC.out.1.rlo _ (by omega)
 have HB := Lib.hid (And.intro hbn hbx)
 rw [← hbx] at hZ1 ⊢
 have HZ1 := Lib.hid hZ1
 clear hZ1 hbx HE hbn
 go_wp2_with fail
 refine (rTop_any (HC.out.1.below HZ1.out.bel) HC.out.2.1 HC.out.2.2.1).mono ?_
 rintro E W2 ⟨rfl, b2⟩
 have H2 := Lib.hid (HZ1.out.below b2)
 have HM := Lib.hid (HC.out.1.below H2.out.bel)
 have e0 : W2.cell? ⟨bx, 0, none⟩ = some (.int .i64 16) := by rw [← HOP.out]; exact H2.out.cell 0 rfl 0 rfl
 have e1 := H2.out.cell 0 rfl 1 rfl
 have e2 := H2.out.cell 0 rfl 2 rfl
 have e3 := H2.out.cell 0 rfl 3 rfl
 have e4 := H2.out.cell 0 rfl 4 rfl
 clear b2 HZ1
 obtain ⟨v, hv⟩ : ∃ v, v = rd u (tp m) x.a := ⟨_, rfl⟩
 have HV := Lib.hid hv
 have HT := Lib.hid (show cpP u m x = setV m x.d ⟨1, IntKind.i64.wrap (v.n + x.n), 0⟩ by
  rw [hv]; unfold cpP cpM cpW cpV; rw [if_neg (by rw [HOP.out]; decide), if_neg (by rw [HOP.out]; decide), if_neg (by rw [HOP.out]; decide), if_neg (by rw [HOP.out]; decide), if_neg (by rw [HOP.out]; decide), if_neg (by rw [HOP.out]; decide), if_pos HOP.out])
 have HS := Lib.hid (show W2.drew.cell? ⟨bx, 1, none⟩ = some (.int .i64 x.d) ∧ W2.drew.cell? ⟨bx, 2, none⟩ = some (.int .i64 x.a) ∧ W2.drew.cell? ⟨bx, 4, none⟩ = some (.int .i64 x.n) from ⟨e1, e2, e4⟩)
 clear hv
 go_upto_region 10 with fail
 clear e0 e1 e2 e3 e4
 refine wp_region_mix [0, 1, 2, 3, 4, 5, 8, 9] [6, 7, 10, 11, 12] (fun w' => w'.cell? ⟨bx, 1, none⟩ = some (.int .i64 x.d) ∧ w'.cell? ⟨bx, 2, none⟩ = some (.int .i64 x.a) ∧ w'.cell? ⟨bx, 4, none⟩ = some (.int .i64 x.n)) (by kernel_rfl) (by kernel_rfl) (by kernel_rfl) HS.out ?_
 repeat (
  refine wpHeads_cons (v := ?_) rfl (Or.inl ⟨by rfl, ?_⟩) ?_
  rotate_left
  ·(intro W hW; obtain ⟨x1, x2, x3⟩ := hW; (try go_simp); try with_reducible rfl)
  simp only [Act.put, List.setIfInBounds_toArray, List.getElem_toArray, List.getElem_cons_zero, List.getElem_cons_succ, List.set_cons_succ, List.set_cons_zero])
 refine wpHeads_nil ?_
 refine wpTails_cons rfl ?_
 go_wp2_with fail
 refine (rRead_any (HM.out.below ((Below.refl _ _).drew)) HC.out.2.1 HC.out.2.2.1 HC.out.2.2.2.1.2 HC.out.2.2.2.2.1 HA.out.1 HA.out.2.1 HA.out.2.2).mono ?_
 rintro E W5 ⟨rfl, b5⟩
 rw [← HV.out]
 have g5 := grownBy_below b5
 have HM5 := Lib.hid ((HM.out.below ((Below.refl _ _).drew)).below b5)
 have HS5 := Lib.hid (And.intro (g5.cell HS.out.1 (by simp)) (And.intro (g5.cell HS.out.2.1 (by simp)) (g5.cell HS.out.2.2 (by simp))))
 clear b5 g5
 have hfld := fldV1
 go_wp2_with fail
 refine tail_mk HS5.out ?_
 refine wpTails_cons rfl ?_
 go_wp2_with fail
 refine tail_mk HS5.out ?_
 refine wpTails_cons rfl ?_
 clear hfld
 go_wp2_with fail
 refine tail_mk HS5.out ?_
 refine wpTails_cons rfl ?_
 go_wp2_with fail
 obtain ⟨w, hw⟩ : ∃ w, w = wrap64 (v.n + x.n) := ⟨_, rfl⟩
 rw [← hw]
 have HW := Lib.hid hw
 clear hw
 refine (rInteger_any w _).mono ?_
 rintro E W6 ⟨rfl, b6⟩
 have g6 := grownBy_below b6
 have HM6 := Lib.hid (HM5.out.below b6)
 have HS6 := Lib.hid (And.intro (g6.cell HS5.out.1 (by simp)) (And.intro (g6.cell HS5.out.2.1 (by simp)) (g6.cell HS5.out.2.2 (by simp))))
 clear b6 g6
 go_wp2_with fail
 refine tail_mk HS6.out ?_
 refine wpTails_one rfl ?_
 go_wp2_with fail
 refine (rSet_any HM6.out HC.out.2.1 HC.out.2.2.1 HC.out.2.2.2.2.2.2.1 HC.out.2.2.2.2.2.2.2 HC.out.2.2.2.2.2.1 ⟨1, w, 0⟩).mono ?_
 rintro E W9 ⟨rfl, hM9, -⟩
 have H9 := Lib.hid hM9
 clear hM9
 go_wp2_with fail
 have HT := Lib.hid (show cpP u m x = setV m x.d ⟨1, w, 0⟩ by rw [HT.out, IntWalk.i64_left, HW.out])
 refine thenQ_mk ?_
 go_wp2_with fail
 refine bodyPost_end (v := .tuple #[]) (results_none rfl _ _ _) rfl ?_
 exact ⟨by first | rfl | trivial, y, by rw [HT.out]; exact H9.out, rfl⟩
end
end Go.Proofs.YtnklnklkblgnfaaGreatDoor
end
section
namespace Go.Proofs.YtnklnklkblgnfaaGreatDoor
open Go.RowKit Go.Dfl Go.Obs Go.Hir
open Go.Gra (gen_code gen_calls)
theorem sI64 : SliceOf Tryz.prog 28 2 (.int .i64 0) 1 8 := ⟨Tryz.underlying28, info_parts (P := Tryz.prog) (e := 2) (by kernel_rfl)⟩
theorem InS.ints8 {W : World} {v : Value} {l : List Int} (h : InS vI W v l) : ∃ a c, v = .slice a l.length c ∧ l.length ≤ 9223372036854775807 ∧
  (∀ x : Int, 0 ≤ x → x < l.length → ∀ W, (Instr.indexAt 28 (.slice a l.length c) (.int .i64 x)).run Tryz.prog W = .ok (.pointer (some ⟨blk a, ofs a + x.toNat, none⟩)) W) ∧
  ∀ i, i < l.length → blk a < W.heap.size ∧ inI (nth l i) ∧ ∀ Z, Below W.heap.size W Z → Z.cell? ⟨blk a, ofs a + i, none⟩ = some (.int .i64 (nth l i)) := by
 obtain ⟨oa, oc, he, hl, hi, hc⟩ := InS.out h sI64
 refine ⟨oa, oc, he, hl, fun x h0 h1 W => by have := hi x h0 h1 W; simpa [vI] using this, fun i hil => ?_⟩
 obtain ⟨h1, cs, hok, h3⟩ := hc i hil
 obtain ⟨rfl, hb⟩ := hok
 exact ⟨h1, hb, fun Z hZ => by have := h3 Z hZ 0 (by decide); simpa [vI, nth] using this⟩
theorem lt_fkH {V : World} {b : Nat} {o : Obj} (h : (fkH b o).p V) : b < V.heap.size := by
 have h2 : V.heap[b]? = some o := h
 by_cases e : b < V.heap.size
 ·exact e
 ·rw [Array.getElem?_eq_none (by omega)] at h2; cases h2
section
variable {W0 : World} {u : Un} {v0 v1 : Value} {b : Nat} {y : Ly} {m : Mch} {Z : World} (h : MM W0.heap.size W0 u v0 v1 b y m Z) (hp : 0 < m.fr.length) (hd : m.fr.length ≤ 64) (hu : UnIn W0 v0 v1 u) (hf : (tp m).f < u.fs.length) (hi : (tp m).i ≤ 1048576) (x : Is) (xv : Value) (hxv : InS vI W0 xv x.ar) (hd0 : 0 ≤ x.d) (hd1 : x.d < (tp m).vs.length)
set_option maxHeartbeats 6400000 in
set_option maxRecDepth 8000 in
include h hp hd hu hf hi hxv hd0 hd1 in
theorem rComp5_any (hop : x.op = 5) : Calls Tryz.prog 35 #[.pointer (some ⟨b, 0, none⟩), isV x xv] Z (CmpR W0 u v0 v1 b y (cpP u m x)) := by
 obtain ⟨xa, xc, rfl⟩ := hxv.shape
 obtain ⟨xn, hxn⟩ : ∃ n, n = x.ar.length := ⟨_, rfl⟩
 rw [← hxn]
 have HE := Lib.hid ((Env.refl Z).alloc (isC' x (.slice xa xn xc)) 79)
 have HC := Lib.hid (And.intro h (And.intro hp (And.intro hd (And.intro hu (And.intro hf (And.intro hi (And.intro hd0 hd1)))))))
 have HOP := Lib.hid hop
 clear h hp hd hu hf hi hd0 hd1 hxv hxn hop
 unfold isV
 go_enter Tryz.func35, Tryz.ntmps35
 go_upto_region 1 with fail
 refine gen_code (fun Z' => Env Z [fkC Z.heap.size (isC' x (.slice xa xn xc))] Z') HE.out ?_
 intro Z1 hZ1
 obtain ⟨bx, hbx⟩ : ∃ b, b = Z.heap.size := ⟨_, rfl⟩
 have hbn : y.rl bx = .no := HC.out.1.rlo _ (by omega)
 have HB := Lib.hid (And.intro hbn hbx)
 rw [← hbx] at hZ1 ⊢
 have HZ1 := Lib.hid hZ1
 clear hZ1 hbx HE hbn
 go_wp2_with fail
 refine (rTop_any (HC.out.1.below HZ1.out.bel) HC.out.2.1 HC.out.2.2.1).mono ?_
 rintro E W2 ⟨rfl, b2⟩
 have H2 := Lib.hid (HZ1.out.below b2)
 have HM := Lib.hid (HC.out.1.below H2.out.bel)
 have e0 : W2.cell? ⟨bx, 0, none⟩ = some (.int .i64 5) := by rw [← HOP.out]; exact H2.out.cell 0 rfl 0 rfl
 have e1 := H2.out.cell 0 rfl 1 rfl
 have e2 := H2.out.cell 0 rfl 2 rfl
 have e3 := H2.out.cell 0 rfl 3 rfl
 have e4 := H2.out.cell 0 rfl 4 rfl
 clear b2 HZ1
 have HT := Lib.hid (show cpP u m x = setV { m with inp := m.inp.tail } x.d ⟨1, nth m.inp 0, 0⟩ by
  unfold cpP cpM cpW cpV; rw [if_pos HOP.out, if_neg (by rw [HOP.out]; decide), if_neg (by rw [HOP.out]; decide), if_neg (by rw [HOP.out]; decide), if_neg (by rw [HOP.out]; decide), if_neg (by rw [HOP.out]; decide), if_pos HOP.out])
 obtain ⟨ia, ic, hiv, hil, hidx, hcell⟩ := InS.ints8 HC.out.1.inp
 obtain ⟨n, hn⟩ : ∃ n, n = m.inp.length := ⟨_, rfl⟩
 rw [← hn] at hidx hcell hiv hil
 have c3 : W2.cell? ⟨b, 3, none⟩ = some (.slice ia n ic) := by rw [← hiv]; exact HM.out.bx 3 _ rfl
 have HN := Lib.hid (And.intro hn hiv)
 obtain ⟨v, hv⟩ : ∃ v, v = nth m.inp 0 := ⟨_, rfl⟩
 have HV := Lib.hid hv
 clear e2 e3 e4 hn hiv
 go_upto_if 61 with fail
 go_cut [5] (fun q wx => ∃ y', q = .int .i64 v ∧ MM W0.heap.size W0 u v0 v1 b y' { m with inp := m.inp.tail } wx ∧ y'.en = y.en ∧ (fkC bx (isC' x (.slice xa xn xc))).p wx)
 case first =>
  clear e0 e1
  by_cases h0 : 0 < n
  ·have h0i : (0 : Int) < (n : Int) := by omega
   have t1 : decide ((0 : Int) < (n : Int)) = true := decide_eq_true h0i
   have t2 : decide (0 < n) = true := decide_eq_true h0
   have j0 := hidx 0 (by omega) h0i
   have j : ∀ W, (Instr.indexAt 28 (.slice ia n ic) (.int .i64 0)).run Tryz.prog W = .ok (.pointer (some ⟨blk ia, ofs ia, none⟩)) W := j0
   have p0 : W2.cell? ⟨blk ia, ofs ia, none⟩ = some (.int .i64 v) := by rw [hv]; exact (hcell 0 h0).2.2 W2 HM.out.bel
   have hInp : InS vI W0 (.slice ia n ic) m.inp := by rw [← HN.out.2]; exact HC.out.1.inp
   obtain ⟨ra, rc, hsl, hrest⟩ := InS.rest sI64 (by decide) hInp (k := 1) (by rw [← HN.out.1]; exact h0) (by rw [← HN.out.1]; exact h0)
   rw [← HN.out.1] at hsl hrest
   obtain ⟨k, hk⟩ : ∃ k, k = n - 1 := ⟨_, rfl⟩
   rw [← hk] at hsl hrest
   have hsl2 : ∀ W, (Instr.slice 28 (.slice ia n ic) (some (.int .i64 1)) none none).run Tryz.prog W = .ok (.slice ra k rc) W := hsl
   have f3 := HM.out.frz 3
   have hM2 := HM.out.setI (iv' := .slice ra k rc) (l := m.inp.drop 1) hrest
   have hfk : (fkC bx (isC' x (.slice xa xn xc))).p (W2.setCell ⟨b, 3, none⟩ (.slice ra k rc)) := fkC_grown (H2.out.fact 0 rfl) (grownBy_setCell _ _ _) (fun e => by
    have h1 := HB.out.1
    rw [Option.some.inj e, HC.out.1.rb] at h1; cases h1)
   rw [List.drop_one] at hM2
   have HM2 := Lib.hid (And.intro hM2 hfk)
   clear hidx hcell hv h0 h0i hil j0 hInp hsl hrest hk hM2 hfk
   rw [t2]
   go_wp2_with fail
   go_meet
   case rel => exact ⟨_, rfl, HM2.out.1, rfl, HM2.out.2⟩
  ·have t1 : decide ((0 : Int) < (n : Int)) = false := decide_eq_false (by omega)
   have t2 : decide (0 < n) = false := decide_eq_false h0
   have hnil : m.inp = [] := List.eq_nil_of_length_eq_zero (by rw [← HN.out.1]; omega)
   have hv0 : v = 0 := by rw [hv, hnil]; rfl
   have hm : ({ m with inp := m.inp.tail } : Mch) = m := by
    rw [hnil]
    show Mch.mk [] m.hp m.fr m.n m.ob = m
    rw [← hnil]
   have HX := Lib.hid (And.intro hv0 hm)
   clear hidx hcell hv h0 hil hnil hv0 hm
   rw [t2]
   go_wp2_with fail
   go_meet
   case rel => exact ⟨y, by rw [HX.out.1], by rw [HX.out.2]; exact HM.out, rfl, H2.out.fact 0 rfl⟩
 case rest =>
 obtain ⟨y2, rfl, hM2, hen, hfk⟩ := hcut
 obtain ⟨m2, hm2⟩ : ∃ m2 : Mch, m2 = { m with inp := m.inp.tail } := ⟨_, rfl⟩
 rw [← hm2] at hM2
 have HM2 := Lib.hid hM2
 have HP2 := Lib.hid (show 0 < m2.fr.length ∧ m2.fr.length ≤ 64 ∧ x.d < (tp m2).vs.length ∧ (tp m2).i ≤ 1048576 by rw [hm2]; exact ⟨HC.out.2.1, HC.out.2.2.1, HC.out.2.2.2.2.2.2.2, HC.out.2.2.2.2.2.1⟩)
 have HT2 := Lib.hid (show cpP u m x = setV m2 x.d ⟨1, v, 0⟩ by rw [HT.out, hm2, ← HV.out])
 have HEN := Lib.hid hen
 have e1 := hfk 1 _ rfl
 have HS := Lib.hid (show wc.drew.cell? ⟨bx, 1, none⟩ = some (.int .i64 x.d) from e1)
 clear hM2 hm2 hen hfk hidx hcell hv hil c3 e0
 go_upto_region 16 with fail
 clear e1
 refine wp_region_mix [0, 1, 2, 3] [4, 5] (fun w' => w'.cell? ⟨bx, 1, none⟩ = some (.int .i64 x.d)) (by kernel_rfl) (by kernel_rfl) (by kernel_rfl) HS.out ?_
 repeat (
  refine wpHeads_cons (v := ?_) rfl (Or.inl ⟨by rfl, ?_⟩) ?_
  rotate_left
  ·(intro W hW; have x1 := hW; (try go_simp); try with_reducible rfl)
  simp only [Act.put, List.setIfInBounds_toArray, List.getElem_toArray, List.getElem_cons_zero, List.getElem_cons_succ, List.set_cons_succ, List.set_cons_zero])
 refine wpHeads_nil ?_
 refine wpTails_cons rfl ?_
 go_wp2_with fail
 refine (rInteger_any v _).mono ?_
 rintro E W5 ⟨rfl, b5⟩
 have g5 := grownBy_below b5
 have HM5 := Lib.hid ((HM2.out.below ((Below.refl _ _).drew)).below b5)
 have HS5 := Lib.hid (g5.cell HS.out (by simp))
 clear b5 g5
 go_wp2_with fail
 refine tail_mk HS5.out ?_
 refine wpTails_one rfl ?_
 go_wp2_with fail
 refine (rSet_any HM5.out HP2.out.1 HP2.out.2.1 HC.out.2.2.2.2.2.2.1 HP2.out.2.2.1 HP2.out.2.2.2 ⟨1, v, 0⟩).mono ?_
 rintro E W9 ⟨rfl, hM9, -⟩
 have H9 := Lib.hid hM9
 clear hM9
 go_wp2_with fail
 refine thenQ_mk ?_
 go_wp2_with fail
 refine bodyPost_end (v := .tuple #[]) (results_none rfl _ _ _) rfl ?_
 exact ⟨by first | rfl | trivial, y2, by rw [HT2.out]; exact H9.out, HEN.out⟩
set_option maxHeartbeats 12800000 in
set_option maxRecDepth 8000 in
include h hp hd hu hf hi hxv hd0 hd1 in
theorem rComp4_any (hop : x.op = 4) (ha : RdV u (tp m) x.a) (hb : RdV u (tp m) x.b) : Calls Tryz.prog 35 #[.pointer (some ⟨b, 0, none⟩), isV x xv] Z (CmpR W0 u v0 v1 b y (cpP u m x)) := by
 have HA := Lib.hid ha
 have HBB := Lib.hid hb
 clear ha hb
 obtain ⟨xa, xc, rfl⟩ := hxv.shape
 obtain ⟨xn, hxn⟩ : ∃ n, n = x.ar.length := ⟨_, rfl⟩
 rw [← hxn]
 have HE := Lib.hid ((Env.refl Z).alloc (isC' x (.slice xa xn xc)) 79)
 have HC := Lib.hid (And.intro h (And.intro hp (And.intro hd (And.intro hu (And.intro hf (And.intro hi (And.intro hd0 hd1)))))))
 have HOP := Lib.hid hop
 clear h hp hd hu hf hi hd0 hd1 hxv hxn hop
 unfold isV
 go_enter Tryz.func35, Tryz.ntmps35
 go_upto_region 1 with fail
 refine gen_code (fun Z' => Env Z [fkC Z.heap.size (isC' x (.slice xa xn xc))] Z') HE.out ?_
 intro Z1 hZ1
 obtain ⟨bx, hbx⟩ : ∃ b, b = Z.heap.size := ⟨_, rfl⟩
 have hbn : y.rl bx = .no := HC.out.1.rlo _ (by omega)
 have HB := Lib.hid (And.intro hbn hbx)
 rw [← hbx] at hZ1 ⊢
 have HZ1 := Lib.hid hZ1
 clear hZ1 hbx HE hbn
 go_wp2_with fail
 refine (rTop_any (HC.out.1.below HZ1.out.bel) HC.out.2.1 HC.out.2.2.1).mono ?_
 rintro E W2 ⟨rfl, b2⟩
 have H2 := Lib.hid (HZ1.out.below b2)
 have HM := Lib.hid (HC.out.1.below H2.out.bel)
 have e0 : W2.cell? ⟨bx, 0, none⟩ = some (.int .i64 4) := by rw [← HOP.out]; exact H2.out.cell 0 rfl 0 rfl
 have e1 := H2.out.cell 0 rfl 1 rfl
 have e2 := H2.out.cell 0 rfl 2 rfl
 have e3 := H2.out.cell 0 rfl 3 rfl
 have e4 := H2.out.cell 0 rfl 4 rfl
 clear b2 HZ1
 obtain ⟨va, hva⟩ : ∃ v, v = rd u (tp m) x.a := ⟨_, rfl⟩
 obtain ⟨vb, hvb⟩ : ∃ v, v = rd u (tp m) x.b := ⟨_, rfl⟩
 have HVA := Lib.hid hva
 have HVB := Lib.hid hvb
 have HT := Lib.hid (show cpP u m x = setV m x.d ⟨1, if va.k = 1 then binV x.n va.n vb.n else eqV va vb, 0⟩ by
  rw [hva, hvb]; unfold cpP cpM cpW cpV; rw [if_neg (by rw [HOP.out]; decide), if_neg (by rw [HOP.out]; decide), if_neg (by rw [HOP.out]; decide), if_neg (by rw [HOP.out]; decide), if_neg (by rw [HOP.out]; decide), if_neg (by rw [HOP.out]; decide), if_neg (by rw [HOP.out]; decide), if_neg (by rw [HOP.out]; decide)])
 clear hva hvb
 go_upto_region 18 with fail
 clear e0 e1 e2 e3 e4
 go_cut [6, 7] (fun p q wx => ∃ b6 b7 : Nat, p = .pointer (some ⟨b6, 0, none⟩) ∧ q = .pointer (some ⟨b7, 0, none⟩) ∧ Env Z [fkC b6 [.int .i64 va.k, .int .i64 va.n, .int .i64 va.s], fkC b7 [.int .i64 vb.k, .int .i64 vb.n, .int .i64 vb.s], fkC bx (isC' x (.slice xa xn xc))] wx)
 case first =>
  refine wp_region_plan (.take 0 (.take 1 (.take 2 (.take 4 (.take 5 (.take 6 (.alt 3 (.alt 7 (.alt 8 (.alt 9 (.alt 10 (.alt 11 .done .stop) .stop) .stop) (.alt 9 (.alt 8 (.alt 10 (.alt 11 .done .stop) .stop) .stop) .stop)) (.alt 8 (.alt 7 (.alt 9 (.alt 10 (.alt 11 .done .stop) .stop) .stop) (.alt 9 (.alt 7 (.alt 10 (.alt 11 .done .stop) .stop) .stop) .stop)) (.alt 9 (.alt 7 (.alt 8 (.alt 10 (.alt 11 .done .stop) .stop) .stop) (.alt 8 (.alt 7 (.alt 10 (.alt 11 .done .stop) .stop) .stop) .stop)) .stop))) (.alt 8 (.alt 3 (.alt 7 (.alt 9 (.alt 10 (.alt 11 .done .stop) .stop) .stop) (.alt 9 (.alt 7 (.alt 10 (.alt 11 .done .stop) .stop) .stop) .stop)) (.alt 9 (.alt 3 (.alt 7 (.alt 10 (.alt 11 .done .stop) .stop) .stop) .stop) .stop)) (.alt 9 (.alt 3 (.alt 7 (.alt 8 (.alt 10 (.alt 11 .done .stop) .stop) .stop) (.alt 8 (.alt 7 (.alt 10 (.alt 11 .done .stop) .stop) .stop) .stop)) (.alt 8 (.alt 3 (.alt 7 (.alt 10 (.alt 11 .done .stop) .stop) .stop) .stop) .stop)) .stop))))))))) (fun w' => (fkC bx (isC' x (.slice xa xn xc))).p w') (by kernel_rfl) (by kernel_rfl) (by kernel_rfl) (by kernel_rfl) (H2.out.drew.fact 0 rfl) ?_
  repeat (
   refine plan_take (v := ?_) rfl (Or.inl ⟨by rfl, ?_⟩) ?_
   rotate_left
   ·(intro W hW; have c2 := hW 2 _ rfl; have c3 := hW 3 _ rfl; (try go_simp); try with_reducible rfl)
   simp only [Act.put, List.setIfInBounds_toArray, List.getElem_toArray, List.getElem_cons_zero, List.getElem_cons_succ, List.set_cons_succ, List.set_cons_zero])
  have HV := Lib.hid H2.out.drew
  clear HM
  generalize W2.drew = V0 at *
  refine plan_alt rfl ?_ ?_
  ·skip
   go_wp2_with fail
   refine (rRead_any (HC.out.1.below HV.out.bel) HC.out.2.1 HC.out.2.2.1 HC.out.2.2.2.1.2 HC.out.2.2.2.2.1 HA.out.1 HA.out.2.1 HA.out.2.2).mono ?_
   rintro E V1 ⟨rfl, b5⟩
   rw [← HVA.out]
   have HV := Lib.hid (HV.out.below b5)
   clear b5
   go_wp2_with fail
   refine tail_mk (HV.out.fact 0 rfl) ?_
   refine plan_alt rfl ?_ ?_
   ·skip
    go_wp2_with fail
    refine (rRead_any (HC.out.1.below HV.out.bel) HC.out.2.1 HC.out.2.2.1 HC.out.2.2.2.1.2 HC.out.2.2.2.2.1 HBB.out.1 HBB.out.2.1 HBB.out.2.2).mono ?_
    rintro E V2 ⟨rfl, b5⟩
    rw [← HVB.out]
    have HV := Lib.hid (HV.out.below b5)
    clear b5
    go_wp2_with fail
    refine tail_mk (HV.out.fact 0 rfl) ?_
    refine plan_alt rfl ?_ ?_
    ·skip
     go_wp2_with fail
     have hv := (HV.out.below ((Below.refl _ _).alloc (Nat.le_refl _) (.cells #[.int .i64 0, .int .i64 0, .int .i64 0] 50))).add (q := fkH V2.heap.size (.cells #[.int .i64 0, .int .i64 0, .int .i64 0] 50)) (heap_alloc_new _ _)
     obtain ⟨b6, hb⟩ : ∃ b, b = V2.heap.size := ⟨_, rfl⟩
     have Hb6 := Lib.hid (show bx < b6 ∧ b6 = V2.heap.size from ⟨by rw [hb]; exact World.block_lt_of_cell? _ _ (HV.out.fact 0 rfl 0 _ rfl), hb⟩)
     obtain ⟨V3, hw⟩ : ∃ w, w = V2.alloc (.cells #[.int .i64 0, .int .i64 0, .int .i64 0] 50) := ⟨_, rfl⟩
     rw [← hw, ← hb] at hv
     rw [← hw, ← hb]
     have HV := Lib.hid hv
     clear hv hb hw
     refine tail_mk (HV.out.fact 1 rfl) ?_
     refine plan_alt rfl ?_ plan_stop
     ·skip
      have HLT := Lib.hid (show b6 < V3.heap.size from lt_fkH (HV.out.fact 0 rfl))
      go_wp2_with fail
      have hv := (HV.out.below ((Below.refl _ _).alloc (Nat.le_refl _) (.cells #[.int .i64 0, .int .i64 0, .int .i64 0] 50))).add (q := fkH V3.heap.size (.cells #[.int .i64 0, .int .i64 0, .int .i64 0] 50)) (heap_alloc_new _ _)
      obtain ⟨b7, hb⟩ : ∃ b, b = V3.heap.size := ⟨_, rfl⟩
      have Hb7 := Lib.hid (show bx < b7 ∧ b7 = V3.heap.size from ⟨by rw [hb]; exact World.block_lt_of_cell? _ _ (HV.out.fact 1 rfl 0 _ rfl), hb⟩)
      obtain ⟨V4, hw⟩ : ∃ w, w = V3.alloc (.cells #[.int .i64 0, .int .i64 0, .int .i64 0] 50) := ⟨_, rfl⟩
      rw [← hw, ← hb] at hv
      rw [← hw, ← hb]
      have HV := Lib.hid hv
      clear hv hb hw
      refine tail_mk (HV.out.fact 2 rfl) ?_
      have HNE := Lib.hid (show b6 ≠ b7 from by have h1 := HLT.out; have h2 := Hb7.out.2; omega)
      refine plan_alt rfl ?_ plan_stop
      have hN : V4.heap[b6]? = some (.cells #[.int .i64 0, .int .i64 0, .int .i64 0] 50) := HV.out.fact 1 rfl
      obtain ⟨⟨z0, z1, z2, zf⟩, hC, hG⟩ := store3 (y0 := .int .i64 va.k) (y1 := .int .i64 va.n) (y2 := .int .i64 va.s) hN
      have f0 := zf 0
      have f1 := zf 1
      have f2 := zf 2
      have HG := Lib.hid (And.intro hC hG)
      clear hC hG zf hN
      go_wp2_with fail
      clear z0 z1 z2 f0 f1 f2
      obtain ⟨Y6, hY6⟩ : ∃ w, w = ((V4.setCell ⟨b6, 0, none⟩ (.int .i64 va.k)).setCell ⟨b6, 1, none⟩ (.int .i64 va.n)).setCell ⟨b6, 2, none⟩ (.int .i64 va.s) := ⟨_, rfl⟩
      rw [← hY6] at HG ⊢
      clear hY6
      have he6 : Env Z [fkC bx (isC' x (.slice xa xn xc))] Y6 := Env.grown1 (show Env Z [fkC bx (isC' x (.slice xa xn xc))] V4 from HV.out.drop 2) HG.out.2 (fun q e => by injection e with e; have h1 := Hb6.out.1; have h2 := HB.out.2; omega)
      have hN : Y6.heap[b7]? = some (.cells #[.int .i64 0, .int .i64 0, .int .i64 0] 50) := by rw [HG.out.2.block b7 (lt_fkH (HV.out.fact 0 rfl)) (fun e => HNE.out (Option.some.inj e).symm)]; exact HV.out.fact 0 rfl
      have HG6 := Lib.hid (And.intro HG.out.1 he6)
      clear HG he6
      obtain ⟨⟨z0, z1, z2, zf⟩, hC, hG⟩ := store3 (y0 := .int .i64 vb.k) (y1 := .int .i64 vb.n) (y2 := .int .i64 vb.s) hN
      have f0 := zf 0
      have f1 := zf 1
      have f2 := zf 2
      have HG := Lib.hid (And.intro hC hG)
      clear hC hG zf hN
      refine tail_mk (HG6.out.2.fact 0 rfl) ?_
      refine plan_alt rfl ?_ plan_stop
      go_wp2_with fail
      clear z0 z1 z2 f0 f1 f2
      obtain ⟨Y7, hY7⟩ : ∃ w, w = ((Y6.setCell ⟨b7, 0, none⟩ (.int .i64 vb.k)).setCell ⟨b7, 1, none⟩ (.int .i64 vb.n)).setCell ⟨b7, 2, none⟩ (.int .i64 vb.s) := ⟨_, rfl⟩
      rw [← hY7] at HG ⊢
      clear hY7
      have he7 : Env Z [fkC b6 [.int .i64 va.k, .int .i64 va.n, .int .i64 va.s], fkC b7 [.int .i64 vb.k, .int .i64 vb.n, .int .i64 vb.s], fkC bx (isC' x (.slice xa xn xc))] Y7 := ((HG6.out.2.grown1 HG.out.2 (fun q e => by injection e with e; have h1 := Hb7.out.1; have h2 := HB.out.2; omega)).add (q := fkC b7 [.int .i64 vb.k, .int .i64 vb.n, .int .i64 vb.s]) HG.out.1).add (q := fkC b6 [.int .i64 va.k, .int .i64 va.n, .int .i64 va.s]) (fkC_grown HG6.out.1 HG.out.2 (fun e => HNE.out (Option.some.inj e)))
      have HE7 := Lib.hid he7
      clear he7
      refine tail_mk (HE7.out.fact 2 rfl) ?_
      refine plan_done ?_
      go_wp2_with fail
      go_meet
      case rel => exact ⟨b6, b7, rfl, rfl, HE7.out⟩
    refine plan_alt rfl ?_ plan_stop
    ·skip
     go_wp2_with fail
     have hv := (HV.out.below ((Below.refl _ _).alloc (Nat.le_refl _) (.cells #[.int .i64 0, .int .i64 0, .int .i64 0] 50))).add (q := fkH V2.heap.size (.cells #[.int .i64 0, .int .i64 0, .int .i64 0] 50)) (heap_alloc_new _ _)
     obtain ⟨b7, hb⟩ : ∃ b, b = V2.heap.size := ⟨_, rfl⟩
     have Hb7 := Lib.hid (show bx < b7 ∧ b7 = V2.heap.size from ⟨by rw [hb]; exact World.block_lt_of_cell? _ _ (HV.out.fact 0 rfl 0 _ rfl), hb⟩)
     obtain ⟨V5, hw⟩ : ∃ w, w = V2.alloc (.cells #[.int .i64 0, .int .i64 0, .int .i64 0] 50) := ⟨_, rfl⟩
     rw [← hw, ← hb] at hv
     rw [← hw, ← hb]
     have HV := Lib.hid hv
     clear hv hb hw
     refine tail_mk (HV.out.fact 1 rfl) ?_
     refine plan_alt rfl ?_ plan_stop
     ·skip
      have HLT := Lib.hid (show b7 < V5.heap.size from lt_fkH (HV.out.fact 0 rfl))
      go_wp2_with fail
      have hv := (HV.out.below ((Below.refl _ _).alloc (Nat.le_refl _) (.cells #[.int .i64 0, .int .i64 0, .int .i64 0] 50))).add (q := fkH V5.heap.size (.cells #[.int .i64 0, .int .i64 0, .int .i64 0] 50)) (heap_alloc_new _ _)
      obtain ⟨b6, hb⟩ : ∃ b, b = V5.heap.size := ⟨_, rfl⟩
      have Hb6 := Lib.hid (show bx < b6 ∧ b6 = V5.heap.size from ⟨by rw [hb]; exact World.block_lt_of_cell? _ _ (HV.out.fact 1 rfl 0 _ rfl), hb⟩)
      obtain ⟨V6, hw⟩ : ∃ w, w = V5.alloc (.cells #[.int .i64 0, .int .i64 0, .int .i64 0] 50) := ⟨_, rfl⟩
      rw [← hw, ← hb] at hv
      rw [← hw, ← hb]
      have HV := Lib.hid hv
      clear hv hb hw
      refine tail_mk (HV.out.fact 2 rfl) ?_
      have HNE := Lib.hid (show b7 ≠ b6 from by have h1 := HLT.out; have h2 := Hb6.out.2; omega)
      refine plan_alt rfl ?_ plan_stop
      have hN : V6.heap[b6]? = some (.cells #[.int .i64 0, .int .i64 0, .int .i64 0] 50) := HV.out.fact 0 rfl
      obtain ⟨⟨z0, z1, z2, zf⟩, hC, hG⟩ := store3 (y0 := .int .i64 va.k) (y1 := .int .i64 va.n) (y2 := .int .i64 va.s) hN
      have f0 := zf 0
      have f1 := zf 1
      have f2 := zf 2
      have HG := Lib.hid (And.intro hC hG)
      clear hC hG zf hN
      go_wp2_with fail
      clear z0 z1 z2 f0 f1 f2
      obtain ⟨Y6, hY6⟩ : ∃ w, w = ((V6.setCell ⟨b6, 0, none⟩ (.int .i64 va.k)).setCell ⟨b6, 1, none⟩ (.int .i64 va.n)).setCell ⟨b6, 2, none⟩ (.int .i64 va.s) := ⟨_, rfl⟩
      rw [← hY6] at HG ⊢
      clear hY6
      have he6 : Env Z [fkC bx (isC' x (.slice xa xn xc))] Y6 := Env.grown1 (show Env Z [fkC bx (isC' x (.slice xa xn xc))] V6 from HV.out.drop 2) HG.out.2 (fun q e => by injection e with e; have h1 := Hb6.out.1; have h2 := HB.out.2; omega)
      have hN : Y6.heap[b7]? = some (.cells #[.int .i64 0, .int .i64 0, .int .i64 0] 50) := by rw [HG.out.2.block b7 (lt_fkH (HV.out.fact 1 rfl)) (fun e => HNE.out.symm (Option.some.inj e).symm)]; exact HV.out.fact 1 rfl
      have HG6 := Lib.hid (And.intro HG.out.1 he6)
      clear HG he6
      obtain ⟨⟨z0, z1, z2, zf⟩, hC, hG⟩ := store3 (y0 := .int .i64 vb.k) (y1 := .int .i64 vb.n) (y2 := .int .i64 vb.s) hN
      have f0 := zf 0
      have f1 := zf 1
      have f2 := zf 2
      have HG := Lib.hid (And.intro hC hG)
      clear hC hG zf hN
      refine tail_mk (HG6.out.2.fact 0 rfl) ?_
      refine plan_alt rfl ?_ plan_stop
      go_wp2_with fail
      clear z0 z1 z2 f0 f1 f2
      obtain ⟨Y7, hY7⟩ : ∃ w, w = ((Y6.setCell ⟨b7, 0, none⟩ (.int .i64 vb.k)).setCell ⟨b7, 1, none⟩ (.int .i64 vb.n)).setCell ⟨b7, 2, none⟩ (.int .i64 vb.s) := ⟨_, rfl⟩
      rw [← hY7] at HG ⊢
      clear hY7
      have he7 : Env Z [fkC b6 [.int .i64 va.k, .int .i64 va.n, .int .i64 va.s], fkC b7 [.int .i64 vb.k, .int .i64 vb.n, .int .i64 vb.s], fkC bx (isC' x (.slice xa xn xc))] Y7 := ((HG6.out.2.grown1 HG.out.2 (fun q e => by injection e with e; have h1 := Hb7.out.1; have h2 := HB.out.2; omega)).add (q := fkC b7 [.int .i64 vb.k, .int .i64 vb.n, .int .i64 vb.s]) HG.out.1).add (q := fkC b6 [.int .i64 va.k, .int .i64 va.n, .int .i64 va.s]) (fkC_grown HG6.out.1 HG.out.2 (fun e => HNE.out.symm (Option.some.inj e)))
      have HE7 := Lib.hid he7
      clear he7
      refine tail_mk (HE7.out.fact 2 rfl) ?_
      refine plan_done ?_
      go_wp2_with fail
      go_meet
      case rel => exact ⟨b6, b7, rfl, rfl, HE7.out⟩
   refine plan_alt rfl ?_ ?_
   ·skip
    go_wp2_with fail
    have hv := (HV.out.below ((Below.refl _ _).alloc (Nat.le_refl _) (.cells #[.int .i64 0, .int .i64 0, .int .i64 0] 50))).add (q := fkH V1.heap.size (.cells #[.int .i64 0, .int .i64 0, .int .i64 0] 50)) (heap_alloc_new _ _)
    obtain ⟨b6, hb⟩ : ∃ b, b = V1.heap.size := ⟨_, rfl⟩
    have Hb6 := Lib.hid (show bx < b6 ∧ b6 = V1.heap.size from ⟨by rw [hb]; exact World.block_lt_of_cell? _ _ (HV.out.fact 0 rfl 0 _ rfl), hb⟩)
    obtain ⟨V7, hw⟩ : ∃ w, w = V1.alloc (.cells #[.int .i64 0, .int .i64 0, .int .i64 0] 50) := ⟨_, rfl⟩
    rw [← hw, ← hb] at hv
    rw [← hw, ← hb]
    have HV := Lib.hid hv
    clear hv hb hw
    refine tail_mk (HV.out.fact 1 rfl) ?_
    refine plan_alt rfl ?_ ?_
    ·skip
     go_wp2_with fail
     refine (rRead_any (HC.out.1.below HV.out.bel) HC.out.2.1 HC.out.2.2.1 HC.out.2.2.2.1.2 HC.out.2.2.2.2.1 HBB.out.1 HBB.out.2.1 HBB.out.2.2).mono ?_
     rintro E V8 ⟨rfl, b5⟩
     rw [← HVB.out]
     have HV := Lib.hid (HV.out.below b5)
     clear b5
     go_wp2_with fail
     refine tail_mk (HV.out.fact 1 rfl) ?_
     refine plan_alt rfl ?_ plan_stop
     ·skip
      have HLT := Lib.hid (show b6 < V8.heap.size from lt_fkH (HV.out.fact 0 rfl))
      go_wp2_with fail
      have hv := (HV.out.below ((Below.refl _ _).alloc (Nat.le_refl _) (.cells #[.int .i64 0, .int .i64 0, .int .i64 0] 50))).add (q := fkH V8.heap.size (.cells #[.int .i64 0, .int .i64 0, .int .i64 0] 50)) (heap_alloc_new _ _)
      obtain ⟨b7, hb⟩ : ∃ b, b = V8.heap.size := ⟨_, rfl⟩
      have Hb7 := Lib.hid (show bx < b7 ∧ b7 = V8.heap.size from ⟨by rw [hb]; exact World.block_lt_of_cell? _ _ (HV.out.fact 1 rfl 0 _ rfl), hb⟩)
      obtain ⟨V9, hw⟩ : ∃ w, w = V8.alloc (.cells #[.int .i64 0, .int .i64 0, .int .i64 0] 50) := ⟨_, rfl⟩
      rw [← hw, ← hb] at hv
      rw [← hw, ← hb]
      have HV := Lib.hid hv
      clear hv hb hw
      refine tail_mk (HV.out.fact 2 rfl) ?_
      have HNE := Lib.hid (show b6 ≠ b7 from by have h1 := HLT.out; have h2 := Hb7.out.2; omega)
      refine plan_alt rfl ?_ plan_stop
      have hN : V9.heap[b6]? = some (.cells #[.int .i64 0, .int .i64 0, .int .i64 0] 50) := HV.out.fact 1 rfl
      obtain ⟨⟨z0, z1, z2, zf⟩, hC, hG⟩ := store3 (y0 := .int .i64 va.k) (y1 := .int .i64 va.n) (y2 := .int .i64 va.s) hN
      have f0 := zf 0
      have f1 := zf 1
      have f2 := zf 2
      have HG := Lib.hid (And.intro hC hG)
      clear hC hG zf hN
      go_wp2_with fail
      clear z0 z1 z2 f0 f1 f2
      obtain ⟨Y6, hY6⟩ : ∃ w, w = ((V9.setCell ⟨b6, 0, none⟩ (.int .i64 va.k)).setCell ⟨b6, 1, none⟩ (.int .i64 va.n)).setCell ⟨b6, 2, none⟩ (.int .i64 va.s) := ⟨_, rfl⟩
      rw [← hY6] at HG ⊢
      clear hY6
      have he6 : Env Z [fkC bx (isC' x (.slice xa xn xc))] Y6 := Env.grown1 (show Env Z [fkC bx (isC' x (.slice xa xn xc))] V9 from HV.out.drop 2) HG.out.2 (fun q e => by injection e with e; have h1 := Hb6.out.1; have h2 := HB.out.2; omega)
      have hN : Y6.heap[b7]? = some (.cells #[.int .i64 0, .int .i64 0, .int .i64 0] 50) := by rw [HG.out.2.block b7 (lt_fkH (HV.out.fact 0 rfl)) (fun e => HNE.out (Option.some.inj e).symm)]; exact HV.out.fact 0 rfl
      have HG6 := Lib.hid (And.intro HG.out.1 he6)
      clear HG he6
      obtain ⟨⟨z0, z1, z2, zf⟩, hC, hG⟩ := store3 (y0 := .int .i64 vb.k) (y1 := .int .i64 vb.n) (y2 := .int .i64 vb.s) hN
      have f0 := zf 0
      have f1 := zf 1
      have f2 := zf 2
      have HG := Lib.hid (And.intro hC hG)
      clear hC hG zf hN
      refine tail_mk (HG6.out.2.fact 0 rfl) ?_
      refine plan_alt rfl ?_ plan_stop
      go_wp2_with fail
      clear z0 z1 z2 f0 f1 f2
      obtain ⟨Y7, hY7⟩ : ∃ w, w = ((Y6.setCell ⟨b7, 0, none⟩ (.int .i64 vb.k)).setCell ⟨b7, 1, none⟩ (.int .i64 vb.n)).setCell ⟨b7, 2, none⟩ (.int .i64 vb.s) := ⟨_, rfl⟩
      rw [← hY7] at HG ⊢
      clear hY7
      have he7 : Env Z [fkC b6 [.int .i64 va.k, .int .i64 va.n, .int .i64 va.s], fkC b7 [.int .i64 vb.k, .int .i64 vb.n, .int .i64 vb.s], fkC bx (isC' x (.slice xa xn xc))] Y7 := ((HG6.out.2.grown1 HG.out.2 (fun q e => by injection e with e; have h1 := Hb7.out.1; have h2 := HB.out.2; omega)).add (q := fkC b7 [.int .i64 vb.k, .int .i64 vb.n, .int .i64 vb.s]) HG.out.1).add (q := fkC b6 [.int .i64 va.k, .int .i64 va.n, .int .i64 va.s]) (fkC_grown HG6.out.1 HG.out.2 (fun e => HNE.out (Option.some.inj e)))
      have HE7 := Lib.hid he7
      clear he7
      refine tail_mk (HE7.out.fact 2 rfl) ?_
      refine plan_done ?_
      go_wp2_with fail
      go_meet
      case rel => exact ⟨b6, b7, rfl, rfl, HE7.out⟩
    refine plan_alt rfl ?_ plan_stop
    ·skip
     have HLT := Lib.hid (show b6 < V7.heap.size from lt_fkH (HV.out.fact 0 rfl))
     go_wp2_with fail
     have hv := (HV.out.below ((Below.refl _ _).alloc (Nat.le_refl _) (.cells #[.int .i64 0, .int .i64 0, .int .i64 0] 50))).add (q := fkH V7.heap.size (.cells #[.int .i64 0, .int .i64 0, .int .i64 0] 50)) (heap_alloc_new _ _)
     obtain ⟨b7, hb⟩ : ∃ b, b = V7.heap.size := ⟨_, rfl⟩
     have Hb7 := Lib.hid (show bx < b7 ∧ b7 = V7.heap.size from ⟨by rw [hb]; exact World.block_lt_of_cell? _ _ (HV.out.fact 1 rfl 0 _ rfl), hb⟩)
     obtain ⟨V10, hw⟩ : ∃ w, w = V7.alloc (.cells #[.int .i64 0, .int .i64 0, .int .i64 0] 50) := ⟨_, rfl⟩
     rw [← hw, ← hb] at hv
     rw [← hw, ← hb]
     have HV := Lib.hid hv
     clear hv hb hw
     refine tail_mk (HV.out.fact 2 rfl) ?_
     have HNE := Lib.hid (show b6 ≠ b7 from by have h1 := HLT.out; have h2 := Hb7.out.2; omega)
     refine plan_alt rfl ?_ plan_stop
     ·skip
      go_wp2_with fail
      refine (rRead_any (HC.out.1.below HV.out.bel) HC.out.2.1 HC.out.2.2.1 HC.out.2.2.2.1.2 HC.out.2.2.2.2.1 HBB.out.1 HBB.out.2.1 HBB.out.2.2).mono ?_
      rintro E V11 ⟨rfl, b5⟩
      rw [← HVB.out]
      have HV := Lib.hid (HV.out.below b5)
      clear b5
      go_wp2_with fail
      refine tail_mk (HV.out.fact 2 rfl) ?_
      refine plan_alt rfl ?_ plan_stop
      have hN : V11.heap[b6]? = some (.cells #[.int .i64 0, .int .i64 0, .int .i64 0] 50) := HV.out.fact 1 rfl
      obtain ⟨⟨z0, z1, z2, zf⟩, hC, hG⟩ := store3 (y0 := .int .i64 va.k) (y1 := .int .i64 va.n) (y2 := .int .i64 va.s) hN
      have f0 := zf 0
      have f1 := zf 1
      have f2 := zf 2
      have HG := Lib.hid (And.intro hC hG)
      clear hC hG zf hN
      go_wp2_with fail
      clear z0 z1 z2 f0 f1 f2
      obtain ⟨Y6, hY6⟩ : ∃ w, w = ((V11.setCell ⟨b6, 0, none⟩ (.int .i64 va.k)).setCell ⟨b6, 1, none⟩ (.int .i64 va.n)).setCell ⟨b6, 2, none⟩ (.int .i64 va.s) := ⟨_, rfl⟩
      rw [← hY6] at HG ⊢
      clear hY6
      have he6 : Env Z [fkC bx (isC' x (.slice xa xn xc))] Y6 := Env.grown1 (show Env Z [fkC bx (isC' x (.slice xa xn xc))] V11 from HV.out.drop 2) HG.out.2 (fun q e => by injection e with e; have h1 := Hb6.out.1; have h2 := HB.out.2; omega)
      have hN : Y6.heap[b7]? = some (.cells #[.int .i64 0, .int .i64 0, .int .i64 0] 50) := by rw [HG.out.2.block b7 (lt_fkH (HV.out.fact 0 rfl)) (fun e => HNE.out (Option.some.inj e).symm)]; exact HV.out.fact 0 rfl
      have HG6 := Lib.hid (And.intro HG.out.1 he6)
      clear HG he6
      obtain ⟨⟨z0, z1, z2, zf⟩, hC, hG⟩ := store3 (y0 := .int .i64 vb.k) (y1 := .int .i64 vb.n) (y2 := .int .i64 vb.s) hN
      have f0 := zf 0
      have f1 := zf 1
      have f2 := zf 2
      have HG := Lib.hid (And.intro hC hG)
      clear hC hG zf hN
      refine tail_mk (HG6.out.2.fact 0 rfl) ?_
      refine plan_alt rfl ?_ plan_stop
      go_wp2_with fail
      clear z0 z1 z2 f0 f1 f2
      obtain ⟨Y7, hY7⟩ : ∃ w, w = ((Y6.setCell ⟨b7, 0, none⟩ (.int .i64 vb.k)).setCell ⟨b7, 1, none⟩ (.int .i64 vb.n)).setCell ⟨b7, 2, none⟩ (.int .i64 vb.s) := ⟨_, rfl⟩
      rw [← hY7] at HG ⊢
      clear hY7
      have he7 : Env Z [fkC b6 [.int .i64 va.k, .int .i64 va.n, .int .i64 va.s], fkC b7 [.int .i64 vb.k, .int .i64 vb.n, .int .i64 vb.s], fkC bx (isC' x (.slice xa xn xc))] Y7 := ((HG6.out.2.grown1 HG.out.2 (fun q e => by injection e with e; have h1 := Hb7.out.1; have h2 := HB.out.2; omega)).add (q := fkC b7 [.int .i64 vb.k, .int .i64 vb.n, .int .i64 vb.s]) HG.out.1).add (q := fkC b6 [.int .i64 va.k, .int .i64 va.n, .int .i64 va.s]) (fkC_grown HG6.out.1 HG.out.2 (fun e => HNE.out (Option.some.inj e)))
      have HE7 := Lib.hid he7
      clear he7
      refine tail_mk (HE7.out.fact 2 rfl) ?_
      refine plan_done ?_
      go_wp2_with fail
      go_meet
      case rel => exact ⟨b6, b7, rfl, rfl, HE7.out⟩
   refine plan_alt rfl ?_ plan_stop
   ·skip
    go_wp2_with fail
    have hv := (HV.out.below ((Below.refl _ _).alloc (Nat.le_refl _) (.cells #[.int .i64 0, .int .i64 0, .int .i64 0] 50))).add (q := fkH V1.heap.size (.cells #[.int .i64 0, .int .i64 0, .int .i64 0] 50)) (heap_alloc_new _ _)
    obtain ⟨b7, hb⟩ : ∃ b, b = V1.heap.size := ⟨_, rfl⟩
    have Hb7 := Lib.hid (show bx < b7 ∧ b7 = V1.heap.size from ⟨by rw [hb]; exact World.block_lt_of_cell? _ _ (HV.out.fact 0 rfl 0 _ rfl), hb⟩)
    obtain ⟨V12, hw⟩ : ∃ w, w = V1.alloc (.cells #[.int .i64 0, .int .i64 0, .int .i64 0] 50) := ⟨_, rfl⟩
    rw [← hw, ← hb] at hv
    rw [← hw, ← hb]
    have HV := Lib.hid hv
    clear hv hb hw
    refine tail_mk (HV.out.fact 1 rfl) ?_
    refine plan_alt rfl ?_ ?_
    ·skip
     go_wp2_with fail
     refine (rRead_any (HC.out.1.below HV.out.bel) HC.out.2.1 HC.out.2.2.1 HC.out.2.2.2.1.2 HC.out.2.2.2.2.1 HBB.out.1 HBB.out.2.1 HBB.out.2.2).mono ?_
     rintro E V13 ⟨rfl, b5⟩
     rw [← HVB.out]
     have HV := Lib.hid (HV.out.below b5)
     clear b5
     go_wp2_with fail
     refine tail_mk (HV.out.fact 1 rfl) ?_
     refine plan_alt rfl ?_ plan_stop
     ·skip
      have HLT := Lib.hid (show b7 < V13.heap.size from lt_fkH (HV.out.fact 0 rfl))
      go_wp2_with fail
      have hv := (HV.out.below ((Below.refl _ _).alloc (Nat.le_refl _) (.cells #[.int .i64 0, .int .i64 0, .int .i64 0] 50))).add (q := fkH V13.heap.size (.cells #[.int .i64 0, .int .i64 0, .int .i64 0] 50)) (heap_alloc_new _ _)
      obtain ⟨b6, hb⟩ : ∃ b, b = V13.heap.size := ⟨_, rfl⟩
      have Hb6 := Lib.hid (show bx < b6 ∧ b6 = V13.heap.size from ⟨by rw [hb]; exact World.block_lt_of_cell? _ _ (HV.out.fact 1 rfl 0 _ rfl), hb⟩)
      obtain ⟨V14, hw⟩ : ∃ w, w = V13.alloc (.cells #[.int .i64 0, .int .i64 0, .int .i64 0] 50) := ⟨_, rfl⟩
      rw [← hw, ← hb] at hv
      rw [← hw, ← hb]
      have HV := Lib.hid hv
      clear hv hb hw
      refine tail_mk (HV.out.fact 2 rfl) ?_
      have HNE := Lib.hid (show b7 ≠ b6 from by have h1 := HLT.out; have h2 := Hb6.out.2; omega)
      refine plan_alt rfl ?_ plan_stop
      have hN : V14.heap[b6]? = some (.cells #[.int .i64 0, .int .i64 0, .int .i64 0] 50) := HV.out.fact 0 rfl
      obtain ⟨⟨z0, z1, z2, zf⟩, hC, hG⟩ := store3 (y0 := .int .i64 va.k) (y1 := .int .i64 va.n) (y2 := .int .i64 va.s) hN
      have f0 := zf 0
      have f1 := zf 1
      have f2 := zf 2
      have HG := Lib.hid (And.intro hC hG)
      clear hC hG zf hN
      go_wp2_with fail
      clear z0 z1 z2 f0 f1 f2
      obtain ⟨Y6, hY6⟩ : ∃ w, w = ((V14.setCell ⟨b6, 0, none⟩ (.int .i64 va.k)).setCell ⟨b6, 1, none⟩ (.int .i64 va.n)).setCell ⟨b6, 2, none⟩ (.int .i64 va.s) := ⟨_, rfl⟩
      rw [← hY6] at HG ⊢
      clear hY6
      have he6 : Env Z [fkC bx (isC' x (.slice xa xn xc))] Y6 := Env.grown1 (show Env Z [fkC bx (isC' x (.slice xa xn xc))] V14 from HV.out.drop 2) HG.out.2 (fun q e => by injection e with e; have h1 := Hb6.out.1; have h2 := HB.out.2; omega)
      have hN : Y6.heap[b7]? = some (.cells #[.int .i64 0, .int .i64 0, .int .i64 0] 50) := by rw [HG.out.2.block b7 (lt_fkH (HV.out.fact 1 rfl)) (fun e => HNE.out.symm (Option.some.inj e).symm)]; exact HV.out.fact 1 rfl
      have HG6 := Lib.hid (And.intro HG.out.1 he6)
      clear HG he6
      obtain ⟨⟨z0, z1, z2, zf⟩, hC, hG⟩ := store3 (y0 := .int .i64 vb.k) (y1 := .int .i64 vb.n) (y2 := .int .i64 vb.s) hN
      have f0 := zf 0
      have f1 := zf 1
      have f2 := zf 2
      have HG := Lib.hid (And.intro hC hG)
      clear hC hG zf hN
      refine tail_mk (HG6.out.2.fact 0 rfl) ?_
      refine plan_alt rfl ?_ plan_stop
      go_wp2_with fail
      clear z0 z1 z2 f0 f1 f2
      obtain ⟨Y7, hY7⟩ : ∃ w, w = ((Y6.setCell ⟨b7, 0, none⟩ (.int .i64 vb.k)).setCell ⟨b7, 1, none⟩ (.int .i64 vb.n)).setCell ⟨b7, 2, none⟩ (.int .i64 vb.s) := ⟨_, rfl⟩
      rw [← hY7] at HG ⊢
      clear hY7
      have he7 : Env Z [fkC b6 [.int .i64 va.k, .int .i64 va.n, .int .i64 va.s], fkC b7 [.int .i64 vb.k, .int .i64 vb.n, .int .i64 vb.s], fkC bx (isC' x (.slice xa xn xc))] Y7 := ((HG6.out.2.grown1 HG.out.2 (fun q e => by injection e with e; have h1 := Hb7.out.1; have h2 := HB.out.2; omega)).add (q := fkC b7 [.int .i64 vb.k, .int .i64 vb.n, .int .i64 vb.s]) HG.out.1).add (q := fkC b6 [.int .i64 va.k, .int .i64 va.n, .int .i64 va.s]) (fkC_grown HG6.out.1 HG.out.2 (fun e => HNE.out.symm (Option.some.inj e)))
      have HE7 := Lib.hid he7
      clear he7
      refine tail_mk (HE7.out.fact 2 rfl) ?_
      refine plan_done ?_
      go_wp2_with fail
      go_meet
      case rel => exact ⟨b6, b7, rfl, rfl, HE7.out⟩
    refine plan_alt rfl ?_ plan_stop
    ·skip
     have HLT := Lib.hid (show b7 < V12.heap.size from lt_fkH (HV.out.fact 0 rfl))
     go_wp2_with fail
     have hv := (HV.out.below ((Below.refl _ _).alloc (Nat.le_refl _) (.cells #[.int .i64 0, .int .i64 0, .int .i64 0] 50))).add (q := fkH V12.heap.size (.cells #[.int .i64 0, .int .i64 0, .int .i64 0] 50)) (heap_alloc_new _ _)
     obtain ⟨b6, hb⟩ : ∃ b, b = V12.heap.size := ⟨_, rfl⟩
     have Hb6 := Lib.hid (show bx < b6 ∧ b6 = V12.heap.size from ⟨by rw [hb]; exact World.block_lt_of_cell? _ _ (HV.out.fact 1 rfl 0 _ rfl), hb⟩)
     obtain ⟨V15, hw⟩ : ∃ w, w = V12.alloc (.cells #[.int .i64 0, .int .i64 0, .int .i64 0] 50) := ⟨_, rfl⟩
     rw [← hw, ← hb] at hv
     rw [← hw, ← hb]
     have HV := Lib.hid hv
     clear hv hb hw
     refine tail_mk (HV.out.fact 2 rfl) ?_
     have HNE := Lib.hid (show b7 ≠ b6 from by have h1 := HLT.out; have h2 := Hb6.out.2; omega)
     refine plan_alt rfl ?_ plan_stop
     ·skip
      go_wp2_with fail
      refine (rRead_any (HC.out.1.below HV.out.bel) HC.out.2.1 HC.out.2.2.1 HC.out.2.2.2.1.2 HC.out.2.2.2.2.1 HBB.out.1 HBB.out.2.1 HBB.out.2.2).mono ?_
      rintro E V16 ⟨rfl, b5⟩
      rw [← HVB.out]
      have HV := Lib.hid (HV.out.below b5)
      clear b5
      go_wp2_with fail
      refine tail_mk (HV.out.fact 2 rfl) ?_
      refine plan_alt rfl ?_ plan_stop
      have hN : V16.heap[b6]? = some (.cells #[.int .i64 0, .int .i64 0, .int .i64 0] 50) := HV.out.fact 0 rfl
      obtain ⟨⟨z0, z1, z2, zf⟩, hC, hG⟩ := store3 (y0 := .int .i64 va.k) (y1 := .int .i64 va.n) (y2 := .int .i64 va.s) hN
      have f0 := zf 0
      have f1 := zf 1
      have f2 := zf 2
      have HG := Lib.hid (And.intro hC hG)
      clear hC hG zf hN
      go_wp2_with fail
      clear z0 z1 z2 f0 f1 f2
      obtain ⟨Y6, hY6⟩ : ∃ w, w = ((V16.setCell ⟨b6, 0, none⟩ (.int .i64 va.k)).setCell ⟨b6, 1, none⟩ (.int .i64 va.n)).setCell ⟨b6, 2, none⟩ (.int .i64 va.s) := ⟨_, rfl⟩
      rw [← hY6] at HG ⊢
      clear hY6
      have he6 : Env Z [fkC bx (isC' x (.slice xa xn xc))] Y6 := Env.grown1 (show Env Z [fkC bx (isC' x (.slice xa xn xc))] V16 from HV.out.drop 2) HG.out.2 (fun q e => by injection e with e; have h1 := Hb6.out.1; have h2 := HB.out.2; omega)
      have hN : Y6.heap[b7]? = some (.cells #[.int .i64 0, .int .i64 0, .int .i64 0] 50) := by rw [HG.out.2.block b7 (lt_fkH (HV.out.fact 1 rfl)) (fun e => HNE.out.symm (Option.some.inj e).symm)]; exact HV.out.fact 1 rfl
      have HG6 := Lib.hid (And.intro HG.out.1 he6)
      clear HG he6
      obtain ⟨⟨z0, z1, z2, zf⟩, hC, hG⟩ := store3 (y0 := .int .i64 vb.k) (y1 := .int .i64 vb.n) (y2 := .int .i64 vb.s) hN
      have f0 := zf 0
      have f1 := zf 1
      have f2 := zf 2
      have HG := Lib.hid (And.intro hC hG)
      clear hC hG zf hN
      refine tail_mk (HG6.out.2.fact 0 rfl) ?_
      refine plan_alt rfl ?_ plan_stop
      go_wp2_with fail
      clear z0 z1 z2 f0 f1 f2
      obtain ⟨Y7, hY7⟩ : ∃ w, w = ((Y6.setCell ⟨b7, 0, none⟩ (.int .i64 vb.k)).setCell ⟨b7, 1, none⟩ (.int .i64 vb.n)).setCell ⟨b7, 2, none⟩ (.int .i64 vb.s) := ⟨_, rfl⟩
      rw [← hY7] at HG ⊢
      clear hY7
      have he7 : Env Z [fkC b6 [.int .i64 va.k, .int .i64 va.n, .int .i64 va.s], fkC b7 [.int .i64 vb.k, .int .i64 vb.n, .int .i64 vb.s], fkC bx (isC' x (.slice xa xn xc))] Y7 := ((HG6.out.2.grown1 HG.out.2 (fun q e => by injection e with e; have h1 := Hb7.out.1; have h2 := HB.out.2; omega)).add (q := fkC b7 [.int .i64 vb.k, .int .i64 vb.n, .int .i64 vb.s]) HG.out.1).add (q := fkC b6 [.int .i64 va.k, .int .i64 va.n, .int .i64 va.s]) (fkC_grown HG6.out.1 HG.out.2 (fun e => HNE.out.symm (Option.some.inj e)))
      have HE7 := Lib.hid he7
      clear he7
      refine tail_mk (HE7.out.fact 2 rfl) ?_
      refine plan_done ?_
      go_wp2_with fail
      go_meet
      case rel => exact ⟨b6, b7, rfl, rfl, HE7.out⟩
  refine plan_alt rfl ?_ ?_
  ·skip
   go_wp2_with fail
   have hv := (HV.out.below ((Below.refl _ _).alloc (Nat.le_refl _) (.cells #[.int .i64 0, .int .i64 0, .int .i64 0] 50))).add (q := fkH V0.heap.size (.cells #[.int .i64 0, .int .i64 0, .int .i64 0] 50)) (heap_alloc_new _ _)
   obtain ⟨b6, hb⟩ : ∃ b, b = V0.heap.size := ⟨_, rfl⟩
   have Hb6 := Lib.hid (show bx < b6 ∧ b6 = V0.heap.size from ⟨by rw [hb]; exact World.block_lt_of_cell? _ _ (HV.out.fact 0 rfl 0 _ rfl), hb⟩)
   obtain ⟨V17, hw⟩ : ∃ w, w = V0.alloc (.cells #[.int .i64 0, .int .i64 0, .int .i64 0] 50) := ⟨_, rfl⟩
   rw [← hw, ← hb] at hv
   rw [← hw, ← hb]
   have HV := Lib.hid hv
   clear hv hb hw
   refine tail_mk (HV.out.fact 1 rfl) ?_
   refine plan_alt rfl ?_ ?_
   ·skip
    go_wp2_with fail
    refine (rRead_any (HC.out.1.below HV.out.bel) HC.out.2.1 HC.out.2.2.1 HC.out.2.2.2.1.2 HC.out.2.2.2.2.1 HA.out.1 HA.out.2.1 HA.out.2.2).mono ?_
    rintro E V18 ⟨rfl, b5⟩
    rw [← HVA.out]
    have HV := Lib.hid (HV.out.below b5)
    clear b5
    go_wp2_with fail
    refine tail_mk (HV.out.fact 1 rfl) ?_
    refine plan_alt rfl ?_ ?_
    ·skip
     go_wp2_with fail
     refine (rRead_any (HC.out.1.below HV.out.bel) HC.out.2.1 HC.out.2.2.1 HC.out.2.2.2.1.2 HC.out.2.2.2.2.1 HBB.out.1 HBB.out.2.1 HBB.out.2.2).mono ?_
     rintro E V19 ⟨rfl, b5⟩
     rw [← HVB.out]
     have HV := Lib.hid (HV.out.below b5)
     clear b5
     go_wp2_with fail
     refine tail_mk (HV.out.fact 1 rfl) ?_
     refine plan_alt rfl ?_ plan_stop
     ·skip
      have HLT := Lib.hid (show b6 < V19.heap.size from lt_fkH (HV.out.fact 0 rfl))
      go_wp2_with fail
      have hv := (HV.out.below ((Below.refl _ _).alloc (Nat.le_refl _) (.cells #[.int .i64 0, .int .i64 0, .int .i64 0] 50))).add (q := fkH V19.heap.size (.cells #[.int .i64 0, .int .i64 0, .int .i64 0] 50)) (heap_alloc_new _ _)
      obtain ⟨b7, hb⟩ : ∃ b, b = V19.heap.size := ⟨_, rfl⟩
      have Hb7 := Lib.hid (show bx < b7 ∧ b7 = V19.heap.size from ⟨by rw [hb]; exact World.block_lt_of_cell? _ _ (HV.out.fact 1 rfl 0 _ rfl), hb⟩)
      obtain ⟨V20, hw⟩ : ∃ w, w = V19.alloc (.cells #[.int .i64 0, .int .i64 0, .int .i64 0] 50) := ⟨_, rfl⟩
      rw [← hw, ← hb] at hv
      rw [← hw, ← hb]
      have HV := Lib.hid hv
      clear hv hb hw
      refine tail_mk (HV.out.fact 2 rfl) ?_
      have HNE := Lib.hid (show b6 ≠ b7 from by have h1 := HLT.out; have h2 := Hb7.out.2; omega)
      refine plan_alt rfl ?_ plan_stop
      have hN : V20.heap[b6]? = some (.cells #[.int .i64 0, .int .i64 0, .int .i64 0] 50) := HV.out.fact 1 rfl
      obtain ⟨⟨z0, z1, z2, zf⟩, hC, hG⟩ := store3 (y0 := .int .i64 va.k) (y1 := .int .i64 va.n) (y2 := .int .i64 va.s) hN
      have f0 := zf 0
      have f1 := zf 1
      have f2 := zf 2
      have HG := Lib.hid (And.intro hC hG)
      clear hC hG zf hN
      go_wp2_with fail
      clear z0 z1 z2 f0 f1 f2
      obtain ⟨Y6, hY6⟩ : ∃ w, w = ((V20.setCell ⟨b6, 0, none⟩ (.int .i64 va.k)).setCell ⟨b6, 1, none⟩ (.int .i64 va.n)).setCell ⟨b6, 2, none⟩ (.int .i64 va.s) := ⟨_, rfl⟩
      rw [← hY6] at HG ⊢
      clear hY6
      have he6 : Env Z [fkC bx (isC' x (.slice xa xn xc))] Y6 := Env.grown1 (show Env Z [fkC bx (isC' x (.slice xa xn xc))] V20 from HV.out.drop 2) HG.out.2 (fun q e => by injection e with e; have h1 := Hb6.out.1; have h2 := HB.out.2; omega)
      have hN : Y6.heap[b7]? = some (.cells #[.int .i64 0, .int .i64 0, .int .i64 0] 50) := by rw [HG.out.2.block b7 (lt_fkH (HV.out.fact 0 rfl)) (fun e => HNE.out (Option.some.inj e).symm)]; exact HV.out.fact 0 rfl
      have HG6 := Lib.hid (And.intro HG.out.1 he6)
      clear HG he6
      obtain ⟨⟨z0, z1, z2, zf⟩, hC, hG⟩ := store3 (y0 := .int .i64 vb.k) (y1 := .int .i64 vb.n) (y2 := .int .i64 vb.s) hN
      have f0 := zf 0
      have f1 := zf 1
      have f2 := zf 2
      have HG := Lib.hid (And.intro hC hG)
      clear hC hG zf hN
      refine tail_mk (HG6.out.2.fact 0 rfl) ?_
      refine plan_alt rfl ?_ plan_stop
      go_wp2_with fail
      clear z0 z1 z2 f0 f1 f2
      obtain ⟨Y7, hY7⟩ : ∃ w, w = ((Y6.setCell ⟨b7, 0, none⟩ (.int .i64 vb.k)).setCell ⟨b7, 1, none⟩ (.int .i64 vb.n)).setCell ⟨b7, 2, none⟩ (.int .i64 vb.s) := ⟨_, rfl⟩
      rw [← hY7] at HG ⊢
      clear hY7
      have he7 : Env Z [fkC b6 [.int .i64 va.k, .int .i64 va.n, .int .i64 va.s], fkC b7 [.int .i64 vb.k, .int .i64 vb.n, .int .i64 vb.s], fkC bx (isC' x (.slice xa xn xc))] Y7 := ((HG6.out.2.grown1 HG.out.2 (fun q e => by injection e with e; have h1 := Hb7.out.1; have h2 := HB.out.2; omega)).add (q := fkC b7 [.int .i64 vb.k, .int .i64 vb.n, .int .i64 vb.s]) HG.out.1).add (q := fkC b6 [.int .i64 va.k, .int .i64 va.n, .int .i64 va.s]) (fkC_grown HG6.out.1 HG.out.2 (fun e => HNE.out (Option.some.inj e)))
      have HE7 := Lib.hid he7
      clear he7
      refine tail_mk (HE7.out.fact 2 rfl) ?_
      refine plan_done ?_
      go_wp2_with fail
      go_meet
      case rel => exact ⟨b6, b7, rfl, rfl, HE7.out⟩
    refine plan_alt rfl ?_ plan_stop
    ·skip
     have HLT := Lib.hid (show b6 < V18.heap.size from lt_fkH (HV.out.fact 0 rfl))
     go_wp2_with fail
     have hv := (HV.out.below ((Below.refl _ _).alloc (Nat.le_refl _) (.cells #[.int .i64 0, .int .i64 0, .int .i64 0] 50))).add (q := fkH V18.heap.size (.cells #[.int .i64 0, .int .i64 0, .int .i64 0] 50)) (heap_alloc_new _ _)
     obtain ⟨b7, hb⟩ : ∃ b, b = V18.heap.size := ⟨_, rfl⟩
     have Hb7 := Lib.hid (show bx < b7 ∧ b7 = V18.heap.size from ⟨by rw [hb]; exact World.block_lt_of_cell? _ _ (HV.out.fact 1 rfl 0 _ rfl), hb⟩)
     obtain ⟨V21, hw⟩ : ∃ w, w = V18.alloc (.cells #[.int .i64 0, .int .i64 0, .int .i64 0] 50) := ⟨_, rfl⟩
     rw [← hw, ← hb] at hv
     rw [← hw, ← hb]
     have HV := Lib.hid hv
     clear hv hb hw
     refine tail_mk (HV.out.fact 2 rfl) ?_
     have HNE := Lib.hid (show b6 ≠ b7 from by have h1 := HLT.out; have h2 := Hb7.out.2; omega)
     refine plan_alt rfl ?_ plan_stop
     ·skip
      go_wp2_with fail
      refine (rRead_any (HC.out.1.below HV.out.bel) HC.out.2.1 HC.out.2.2.1 HC.out.2.2.2.1.2 HC.out.2.2.2.2.1 HBB.out.1 HBB.out.2.1 HBB.out.2.2).mono ?_
      rintro E V22 ⟨rfl, b5⟩
      rw [← HVB.out]
      have HV := Lib.hid (HV.out.below b5)
      clear b5
      go_wp2_with fail
      refine tail_mk (HV.out.fact 2 rfl) ?_
      refine plan_alt rfl ?_ plan_stop
      have hN : V22.heap[b6]? = some (.cells #[.int .i64 0, .int .i64 0, .int .i64 0] 50) := HV.out.fact 1 rfl
      obtain ⟨⟨z0, z1, z2, zf⟩, hC, hG⟩ := store3 (y0 := .int .i64 va.k) (y1 := .int .i64 va.n) (y2 := .int .i64 va.s) hN
      have f0 := zf 0
      have f1 := zf 1
      have f2 := zf 2
      have HG := Lib.hid (And.intro hC hG)
      clear hC hG zf hN
      go_wp2_with fail
      clear z0 z1 z2 f0 f1 f2
      obtain ⟨Y6, hY6⟩ : ∃ w, w = ((V22.setCell ⟨b6, 0, none⟩ (.int .i64 va.k)).setCell ⟨b6, 1, none⟩ (.int .i64 va.n)).setCell ⟨b6, 2, none⟩ (.int .i64 va.s) := ⟨_, rfl⟩
      rw [← hY6] at HG ⊢
      clear hY6
      have he6 : Env Z [fkC bx (isC' x (.slice xa xn xc))] Y6 := Env.grown1 (show Env Z [fkC bx (isC' x (.slice xa xn xc))] V22 from HV.out.drop 2) HG.out.2 (fun q e => by injection e with e; have h1 := Hb6.out.1; have h2 := HB.out.2; omega)
      have hN : Y6.heap[b7]? = some (.cells #[.int .i64 0, .int .i64 0, .int .i64 0] 50) := by rw [HG.out.2.block b7 (lt_fkH (HV.out.fact 0 rfl)) (fun e => HNE.out (Option.some.inj e).symm)]; exact HV.out.fact 0 rfl
      have HG6 := Lib.hid (And.intro HG.out.1 he6)
      clear HG he6
      obtain ⟨⟨z0, z1, z2, zf⟩, hC, hG⟩ := store3 (y0 := .int .i64 vb.k) (y1 := .int .i64 vb.n) (y2 := .int .i64 vb.s) hN
      have f0 := zf 0
      have f1 := zf 1
      have f2 := zf 2
      have HG := Lib.hid (And.intro hC hG)
      clear hC hG zf hN
      refine tail_mk (HG6.out.2.fact 0 rfl) ?_
      refine plan_alt rfl ?_ plan_stop
      go_wp2_with fail
      clear z0 z1 z2 f0 f1 f2
      obtain ⟨Y7, hY7⟩ : ∃ w, w = ((Y6.setCell ⟨b7, 0, none⟩ (.int .i64 vb.k)).setCell ⟨b7, 1, none⟩ (.int .i64 vb.n)).setCell ⟨b7, 2, none⟩ (.int .i64 vb.s) := ⟨_, rfl⟩
      rw [← hY7] at HG ⊢
      clear hY7
      have he7 : Env Z [fkC b6 [.int .i64 va.k, .int .i64 va.n, .int .i64 va.s], fkC b7 [.int .i64 vb.k, .int .i64 vb.n, .int .i64 vb.s], fkC bx (isC' x (.slice xa xn xc))] Y7 := ((HG6.out.2.grown1 HG.out.2 (fun q e => by injection e with e; have h1 := Hb7.out.1; have h2 := HB.out.2; omega)).add (q := fkC b7 [.int .i64 vb.k, .int .i64 vb.n, .int .i64 vb.s]) HG.out.1).add (q := fkC b6 [.int .i64 va.k, .int .i64 va.n, .int .i64 va.s]) (fkC_grown HG6.out.1 HG.out.2 (fun e => HNE.out (Option.some.inj e)))
      have HE7 := Lib.hid he7
      clear he7
      refine tail_mk (HE7.out.fact 2 rfl) ?_
      refine plan_done ?_
      go_wp2_with fail
      go_meet
      case rel => exact ⟨b6, b7, rfl, rfl, HE7.out⟩
   refine plan_alt rfl ?_ plan_stop
   ·skip
    have HLT := Lib.hid (show b6 < V17.heap.size from lt_fkH (HV.out.fact 0 rfl))
    go_wp2_with fail
    have hv := (HV.out.below ((Below.refl _ _).alloc (Nat.le_refl _) (.cells #[.int .i64 0, .int .i64 0, .int .i64 0] 50))).add (q := fkH V17.heap.size (.cells #[.int .i64 0, .int .i64 0, .int .i64 0] 50)) (heap_alloc_new _ _)
    obtain ⟨b7, hb⟩ : ∃ b, b = V17.heap.size := ⟨_, rfl⟩
    have Hb7 := Lib.hid (show bx < b7 ∧ b7 = V17.heap.size from ⟨by rw [hb]; exact World.block_lt_of_cell? _ _ (HV.out.fact 1 rfl 0 _ rfl), hb⟩)
    obtain ⟨V23, hw⟩ : ∃ w, w = V17.alloc (.cells #[.int .i64 0, .int .i64 0, .int .i64 0] 50) := ⟨_, rfl⟩
    rw [← hw, ← hb] at hv
    rw [← hw, ← hb]
    have HV := Lib.hid hv
    clear hv hb hw
    refine tail_mk (HV.out.fact 2 rfl) ?_
    have HNE := Lib.hid (show b6 ≠ b7 from by have h1 := HLT.out; have h2 := Hb7.out.2; omega)
    refine plan_alt rfl ?_ plan_stop
    ·skip
     go_wp2_with fail
     refine (rRead_any (HC.out.1.below HV.out.bel) HC.out.2.1 HC.out.2.2.1 HC.out.2.2.2.1.2 HC.out.2.2.2.2.1 HA.out.1 HA.out.2.1 HA.out.2.2).mono ?_
     rintro E V24 ⟨rfl, b5⟩
     rw [← HVA.out]
     have HV := Lib.hid (HV.out.below b5)
     clear b5
     go_wp2_with fail
     refine tail_mk (HV.out.fact 2 rfl) ?_
     refine plan_alt rfl ?_ plan_stop
     ·skip
      go_wp2_with fail
      refine (rRead_any (HC.out.1.below HV.out.bel) HC.out.2.1 HC.out.2.2.1 HC.out.2.2.2.1.2 HC.out.2.2.2.2.1 HBB.out.1 HBB.out.2.1 HBB.out.2.2).mono ?_
      rintro E V25 ⟨rfl, b5⟩
      rw [← HVB.out]
      have HV := Lib.hid (HV.out.below b5)
      clear b5
      go_wp2_with fail
      refine tail_mk (HV.out.fact 2 rfl) ?_
      refine plan_alt rfl ?_ plan_stop
      have hN : V25.heap[b6]? = some (.cells #[.int .i64 0, .int .i64 0, .int .i64 0] 50) := HV.out.fact 1 rfl
      obtain ⟨⟨z0, z1, z2, zf⟩, hC, hG⟩ := store3 (y0 := .int .i64 va.k) (y1 := .int .i64 va.n) (y2 := .int .i64 va.s) hN
      have f0 := zf 0
      have f1 := zf 1
      have f2 := zf 2
      have HG := Lib.hid (And.intro hC hG)
      clear hC hG zf hN
      go_wp2_with fail
      clear z0 z1 z2 f0 f1 f2
      obtain ⟨Y6, hY6⟩ : ∃ w, w = ((V25.setCell ⟨b6, 0, none⟩ (.int .i64 va.k)).setCell ⟨b6, 1, none⟩ (.int .i64 va.n)).setCell ⟨b6, 2, none⟩ (.int .i64 va.s) := ⟨_, rfl⟩
      rw [← hY6] at HG ⊢
      clear hY6
      have he6 : Env Z [fkC bx (isC' x (.slice xa xn xc))] Y6 := Env.grown1 (show Env Z [fkC bx (isC' x (.slice xa xn xc))] V25 from HV.out.drop 2) HG.out.2 (fun q e => by injection e with e; have h1 := Hb6.out.1; have h2 := HB.out.2; omega)
      have hN : Y6.heap[b7]? = some (.cells #[.int .i64 0, .int .i64 0, .int .i64 0] 50) := by rw [HG.out.2.block b7 (lt_fkH (HV.out.fact 0 rfl)) (fun e => HNE.out (Option.some.inj e).symm)]; exact HV.out.fact 0 rfl
      have HG6 := Lib.hid (And.intro HG.out.1 he6)
      clear HG he6
      obtain ⟨⟨z0, z1, z2, zf⟩, hC, hG⟩ := store3 (y0 := .int .i64 vb.k) (y1 := .int .i64 vb.n) (y2 := .int .i64 vb.s) hN
      have f0 := zf 0
      have f1 := zf 1
      have f2 := zf 2
      have HG := Lib.hid (And.intro hC hG)
      clear hC hG zf hN
      refine tail_mk (HG6.out.2.fact 0 rfl) ?_
      refine plan_alt rfl ?_ plan_stop
      go_wp2_with fail
      clear z0 z1 z2 f0 f1 f2
      obtain ⟨Y7, hY7⟩ : ∃ w, w = ((Y6.setCell ⟨b7, 0, none⟩ (.int .i64 vb.k)).setCell ⟨b7, 1, none⟩ (.int .i64 vb.n)).setCell ⟨b7, 2, none⟩ (.int .i64 vb.s) := ⟨_, rfl⟩
      rw [← hY7] at HG ⊢
      clear hY7
      have he7 : Env Z [fkC b6 [.int .i64 va.k, .int .i64 va.n, .int .i64 va.s], fkC b7 [.int .i64 vb.k, .int .i64 vb.n, .int .i64 vb.s], fkC bx (isC' x (.slice xa xn xc))] Y7 := ((HG6.out.2.grown1 HG.out.2 (fun q e => by injection e with e; have h1 := Hb7.out.1; have h2 := HB.out.2; omega)).add (q := fkC b7 [.int .i64 vb.k, .int .i64 vb.n, .int .i64 vb.s]) HG.out.1).add (q := fkC b6 [.int .i64 va.k, .int .i64 va.n, .int .i64 va.s]) (fkC_grown HG6.out.1 HG.out.2 (fun e => HNE.out (Option.some.inj e)))
      have HE7 := Lib.hid he7
      clear he7
      refine tail_mk (HE7.out.fact 2 rfl) ?_
      refine plan_done ?_
      go_wp2_with fail
      go_meet
      case rel => exact ⟨b6, b7, rfl, rfl, HE7.out⟩
  refine plan_alt rfl ?_ plan_stop
  ·skip
   go_wp2_with fail
   have hv := (HV.out.below ((Below.refl _ _).alloc (Nat.le_refl _) (.cells #[.int .i64 0, .int .i64 0, .int .i64 0] 50))).add (q := fkH V0.heap.size (.cells #[.int .i64 0, .int .i64 0, .int .i64 0] 50)) (heap_alloc_new _ _)
   obtain ⟨b7, hb⟩ : ∃ b, b = V0.heap.size := ⟨_, rfl⟩
   have Hb7 := Lib.hid (show bx < b7 ∧ b7 = V0.heap.size from ⟨by rw [hb]; exact World.block_lt_of_cell? _ _ (HV.out.fact 0 rfl 0 _ rfl), hb⟩)
   obtain ⟨V26, hw⟩ : ∃ w, w = V0.alloc (.cells #[.int .i64 0, .int .i64 0, .int .i64 0] 50) := ⟨_, rfl⟩
   rw [← hw, ← hb] at hv
   rw [← hw, ← hb]
   have HV := Lib.hid hv
   clear hv hb hw
   refine tail_mk (HV.out.fact 1 rfl) ?_
   refine plan_alt rfl ?_ ?_
   ·skip
    go_wp2_with fail
    refine (rRead_any (HC.out.1.below HV.out.bel) HC.out.2.1 HC.out.2.2.1 HC.out.2.2.2.1.2 HC.out.2.2.2.2.1 HA.out.1 HA.out.2.1 HA.out.2.2).mono ?_
    rintro E V27 ⟨rfl, b5⟩
    rw [← HVA.out]
    have HV := Lib.hid (HV.out.below b5)
    clear b5
    go_wp2_with fail
    refine tail_mk (HV.out.fact 1 rfl) ?_
    refine plan_alt rfl ?_ ?_
    ·skip
     go_wp2_with fail
     refine (rRead_any (HC.out.1.below HV.out.bel) HC.out.2.1 HC.out.2.2.1 HC.out.2.2.2.1.2 HC.out.2.2.2.2.1 HBB.out.1 HBB.out.2.1 HBB.out.2.2).mono ?_
     rintro E V28 ⟨rfl, b5⟩
     rw [← HVB.out]
     have HV := Lib.hid (HV.out.below b5)
     clear b5
     go_wp2_with fail
     refine tail_mk (HV.out.fact 1 rfl) ?_
     refine plan_alt rfl ?_ plan_stop
     ·skip
      have HLT := Lib.hid (show b7 < V28.heap.size from lt_fkH (HV.out.fact 0 rfl))
      go_wp2_with fail
      have hv := (HV.out.below ((Below.refl _ _).alloc (Nat.le_refl _) (.cells #[.int .i64 0, .int .i64 0, .int .i64 0] 50))).add (q := fkH V28.heap.size (.cells #[.int .i64 0, .int .i64 0, .int .i64 0] 50)) (heap_alloc_new _ _)
      obtain ⟨b6, hb⟩ : ∃ b, b = V28.heap.size := ⟨_, rfl⟩
      have Hb6 := Lib.hid (show bx < b6 ∧ b6 = V28.heap.size from ⟨by rw [hb]; exact World.block_lt_of_cell? _ _ (HV.out.fact 1 rfl 0 _ rfl), hb⟩)
      obtain ⟨V29, hw⟩ : ∃ w, w = V28.alloc (.cells #[.int .i64 0, .int .i64 0, .int .i64 0] 50) := ⟨_, rfl⟩
      rw [← hw, ← hb] at hv
      rw [← hw, ← hb]
      have HV := Lib.hid hv
      clear hv hb hw
      refine tail_mk (HV.out.fact 2 rfl) ?_
      have HNE := Lib.hid (show b7 ≠ b6 from by have h1 := HLT.out; have h2 := Hb6.out.2; omega)
      refine plan_alt rfl ?_ plan_stop
      have hN : V29.heap[b6]? = some (.cells #[.int .i64 0, .int .i64 0, .int .i64 0] 50) := HV.out.fact 0 rfl
      obtain ⟨⟨z0, z1, z2, zf⟩, hC, hG⟩ := store3 (y0 := .int .i64 va.k) (y1 := .int .i64 va.n) (y2 := .int .i64 va.s) hN
      have f0 := zf 0
      have f1 := zf 1
      have f2 := zf 2
      have HG := Lib.hid (And.intro hC hG)
      clear hC hG zf hN
      go_wp2_with fail
      clear z0 z1 z2 f0 f1 f2
      obtain ⟨Y6, hY6⟩ : ∃ w, w = ((V29.setCell ⟨b6, 0, none⟩ (.int .i64 va.k)).setCell ⟨b6, 1, none⟩ (.int .i64 va.n)).setCell ⟨b6, 2, none⟩ (.int .i64 va.s) := ⟨_, rfl⟩
      rw [← hY6] at HG ⊢
      clear hY6
      have he6 : Env Z [fkC bx (isC' x (.slice xa xn xc))] Y6 := Env.grown1 (show Env Z [fkC bx (isC' x (.slice xa xn xc))] V29 from HV.out.drop 2) HG.out.2 (fun q e => by injection e with e; have h1 := Hb6.out.1; have h2 := HB.out.2; omega)
      have hN : Y6.heap[b7]? = some (.cells #[.int .i64 0, .int .i64 0, .int .i64 0] 50) := by rw [HG.out.2.block b7 (lt_fkH (HV.out.fact 1 rfl)) (fun e => HNE.out.symm (Option.some.inj e).symm)]; exact HV.out.fact 1 rfl
      have HG6 := Lib.hid (And.intro HG.out.1 he6)
      clear HG he6
      obtain ⟨⟨z0, z1, z2, zf⟩, hC, hG⟩ := store3 (y0 := .int .i64 vb.k) (y1 := .int .i64 vb.n) (y2 := .int .i64 vb.s) hN
      have f0 := zf 0
      have f1 := zf 1
      have f2 := zf 2
      have HG := Lib.hid (And.intro hC hG)
      clear hC hG zf hN
      refine tail_mk (HG6.out.2.fact 0 rfl) ?_
      refine plan_alt rfl ?_ plan_stop
      go_wp2_with fail
      clear z0 z1 z2 f0 f1 f2
      obtain ⟨Y7, hY7⟩ : ∃ w, w = ((Y6.setCell ⟨b7, 0, none⟩ (.int .i64 vb.k)).setCell ⟨b7, 1, none⟩ (.int .i64 vb.n)).setCell ⟨b7, 2, none⟩ (.int .i64 vb.s) := ⟨_, rfl⟩
      rw [← hY7] at HG ⊢
      clear hY7
      have he7 : Env Z [fkC b6 [.int .i64 va.k, .int .i64 va.n, .int .i64 va.s], fkC b7 [.int .i64 vb.k, .int .i64 vb.n, .int .i64 vb.s], fkC bx (isC' x (.slice xa xn xc))] Y7 := ((HG6.out.2.grown1 HG.out.2 (fun q e => by injection e with e; have h1 := Hb7.out.1; have h2 := HB.out.2; omega)).add (q := fkC b7 [.int .i64 vb.k, .int .i64 vb.n, .int .i64 vb.s]) HG.out.1).add (q := fkC b6 [.int .i64 va.k, .int .i64 va.n, .int .i64 va.s]) (fkC_grown HG6.out.1 HG.out.2 (fun e => HNE.out.symm (Option.some.inj e)))
      have HE7 := Lib.hid he7
      clear he7
      refine tail_mk (HE7.out.fact 2 rfl) ?_
      refine plan_done ?_
      go_wp2_with fail
      go_meet
      case rel => exact ⟨b6, b7, rfl, rfl, HE7.out⟩
    refine plan_alt rfl ?_ plan_stop
    ·skip
     have HLT := Lib.hid (show b7 < V27.heap.size from lt_fkH (HV.out.fact 0 rfl))
     go_wp2_with fail
     have hv := (HV.out.below ((Below.refl _ _).alloc (Nat.le_refl _) (.cells #[.int .i64 0, .int .i64 0, .int .i64 0] 50))).add (q := fkH V27.heap.size (.cells #[.int .i64 0, .int .i64 0, .int .i64 0] 50)) (heap_alloc_new _ _)
     obtain ⟨b6, hb⟩ : ∃ b, b = V27.heap.size := ⟨_, rfl⟩
     have Hb6 := Lib.hid (show bx < b6 ∧ b6 = V27.heap.size from ⟨by rw [hb]; exact World.block_lt_of_cell? _ _ (HV.out.fact 1 rfl 0 _ rfl), hb⟩)
     obtain ⟨V30, hw⟩ : ∃ w, w = V27.alloc (.cells #[.int .i64 0, .int .i64 0, .int .i64 0] 50) := ⟨_, rfl⟩
     rw [← hw, ← hb] at hv
     rw [← hw, ← hb]
     have HV := Lib.hid hv
     clear hv hb hw
     refine tail_mk (HV.out.fact 2 rfl) ?_
     have HNE := Lib.hid (show b7 ≠ b6 from by have h1 := HLT.out; have h2 := Hb6.out.2; omega)
     refine plan_alt rfl ?_ plan_stop
     ·skip
      go_wp2_with fail
      refine (rRead_any (HC.out.1.below HV.out.bel) HC.out.2.1 HC.out.2.2.1 HC.out.2.2.2.1.2 HC.out.2.2.2.2.1 HBB.out.1 HBB.out.2.1 HBB.out.2.2).mono ?_
      rintro E V31 ⟨rfl, b5⟩
      rw [← HVB.out]
      have HV := Lib.hid (HV.out.below b5)
      clear b5
      go_wp2_with fail
      refine tail_mk (HV.out.fact 2 rfl) ?_
      refine plan_alt rfl ?_ plan_stop
      have hN : V31.heap[b6]? = some (.cells #[.int .i64 0, .int .i64 0, .int .i64 0] 50) := HV.out.fact 0 rfl
      obtain ⟨⟨z0, z1, z2, zf⟩, hC, hG⟩ := store3 (y0 := .int .i64 va.k) (y1 := .int .i64 va.n) (y2 := .int .i64 va.s) hN
      have f0 := zf 0
      have f1 := zf 1
      have f2 := zf 2
      have HG := Lib.hid (And.intro hC hG)
      clear hC hG zf hN
      go_wp2_with fail
      clear z0 z1 z2 f0 f1 f2
      obtain ⟨Y6, hY6⟩ : ∃ w, w = ((V31.setCell ⟨b6, 0, none⟩ (.int .i64 va.k)).setCell ⟨b6, 1, none⟩ (.int .i64 va.n)).setCell ⟨b6, 2, none⟩ (.int .i64 va.s) := ⟨_, rfl⟩
      rw [← hY6] at HG ⊢
      clear hY6
      have he6 : Env Z [fkC bx (isC' x (.slice xa xn xc))] Y6 := Env.grown1 (show Env Z [fkC bx (isC' x (.slice xa xn xc))] V31 from HV.out.drop 2) HG.out.2 (fun q e => by injection e with e; have h1 := Hb6.out.1; have h2 := HB.out.2; omega)
      have hN : Y6.heap[b7]? = some (.cells #[.int .i64 0, .int .i64 0, .int .i64 0] 50) := by rw [HG.out.2.block b7 (lt_fkH (HV.out.fact 1 rfl)) (fun e => HNE.out.symm (Option.some.inj e).symm)]; exact HV.out.fact 1 rfl
      have HG6 := Lib.hid (And.intro HG.out.1 he6)
      clear HG he6
      obtain ⟨⟨z0, z1, z2, zf⟩, hC, hG⟩ := store3 (y0 := .int .i64 vb.k) (y1 := .int .i64 vb.n) (y2 := .int .i64 vb.s) hN
      have f0 := zf 0
      have f1 := zf 1
      have f2 := zf 2
      have HG := Lib.hid (And.intro hC hG)
      clear hC hG zf hN
      refine tail_mk (HG6.out.2.fact 0 rfl) ?_
      refine plan_alt rfl ?_ plan_stop
      go_wp2_with fail
      clear z0 z1 z2 f0 f1 f2
      obtain ⟨Y7, hY7⟩ : ∃ w, w = ((Y6.setCell ⟨b7, 0, none⟩ (.int .i64 vb.k)).setCell ⟨b7, 1, none⟩ (.int .i64 vb.n)).setCell ⟨b7, 2, none⟩ (.int .i64 vb.s) := ⟨_, rfl⟩
      rw [← hY7] at HG ⊢
      clear hY7
      have he7 : Env Z [fkC b6 [.int .i64 va.k, .int .i64 va.n, .int .i64 va.s], fkC b7 [.int .i64 vb.k, .int .i64 vb.n, .int .i64 vb.s], fkC bx (isC' x (.slice xa xn xc))] Y7 := ((HG6.out.2.grown1 HG.out.2 (fun q e => by injection e with e; have h1 := Hb7.out.1; have h2 := HB.out.2; omega)).add (q := fkC b7 [.int .i64 vb.k, .int .i64 vb.n, .int .i64 vb.s]) HG.out.1).add (q := fkC b6 [.int .i64 va.k, .int .i64 va.n, .int .i64 va.s]) (fkC_grown HG6.out.1 HG.out.2 (fun e => HNE.out.symm (Option.some.inj e)))
      have HE7 := Lib.hid he7
      clear he7
      refine tail_mk (HE7.out.fact 2 rfl) ?_
      refine plan_done ?_
      go_wp2_with fail
      go_meet
      case rel => exact ⟨b6, b7, rfl, rfl, HE7.out⟩
   refine plan_alt rfl ?_ plan_stop
   ·skip
    have HLT := Lib.hid (show b7 < V26.heap.size from lt_fkH (HV.out.fact 0 rfl))
    go_wp2_with fail
    have hv := (HV.out.below ((Below.refl _ _).alloc (Nat.le_refl _) (.cells #[.int .i64 0, .int .i64 0, .int .i64 0] 50))).add (q := fkH V26.heap.size (.cells #[.int .i64 0, .int .i64 0, .int .i64 0] 50)) (heap_alloc_new _ _)
    obtain ⟨b6, hb⟩ : ∃ b, b = V26.heap.size := ⟨_, rfl⟩
    have Hb6 := Lib.hid (show bx < b6 ∧ b6 = V26.heap.size from ⟨by rw [hb]; exact World.block_lt_of_cell? _ _ (HV.out.fact 1 rfl 0 _ rfl), hb⟩)
    obtain ⟨V32, hw⟩ : ∃ w, w = V26.alloc (.cells #[.int .i64 0, .int .i64 0, .int .i64 0] 50) := ⟨_, rfl⟩
    rw [← hw, ← hb] at hv
    rw [← hw, ← hb]
    have HV := Lib.hid hv
    clear hv hb hw
    refine tail_mk (HV.out.fact 2 rfl) ?_
    have HNE := Lib.hid (show b7 ≠ b6 from by have h1 := HLT.out; have h2 := Hb6.out.2; omega)
    refine plan_alt rfl ?_ plan_stop
    ·skip
     go_wp2_with fail
     refine (rRead_any (HC.out.1.below HV.out.bel) HC.out.2.1 HC.out.2.2.1 HC.out.2.2.2.1.2 HC.out.2.2.2.2.1 HA.out.1 HA.out.2.1 HA.out.2.2).mono ?_
     rintro E V33 ⟨rfl, b5⟩
     rw [← HVA.out]
     have HV := Lib.hid (HV.out.below b5)
     clear b5
     go_wp2_with fail
     refine tail_mk (HV.out.fact 2 rfl) ?_
     refine plan_alt rfl ?_ plan_stop
     ·skip
      go_wp2_with fail
      refine (rRead_any (HC.out.1.below HV.out.bel) HC.out.2.1 HC.out.2.2.1 HC.out.2.2.2.1.2 HC.out.2.2.2.2.1 HBB.out.1 HBB.out.2.1 HBB.out.2.2).mono ?_
      rintro E V34 ⟨rfl, b5⟩
      rw [← HVB.out]
      have HV := Lib.hid (HV.out.below b5)
      clear b5
      go_wp2_with fail
      refine tail_mk (HV.out.fact 2 rfl) ?_
      refine plan_alt rfl ?_ plan_stop
      have hN : V34.heap[b6]? = some (.cells #[.int .i64 0, .int .i64 0, .int .i64 0] 50) := HV.out.fact 0 rfl
      obtain ⟨⟨z0, z1, z2, zf⟩, hC, hG⟩ := store3 (y0 := .int .i64 va.k) (y1 := .int .i64 va.n) (y2 := .int .i64 va.s) hN
      have f0 := zf 0
      have f1 := zf 1
      have f2 := zf 2
      have HG := Lib.hid (And.intro hC hG)
      clear hC hG zf hN
      go_wp2_with fail
      clear z0 z1 z2 f0 f1 f2
      obtain ⟨Y6, hY6⟩ : ∃ w, w = ((V34.setCell ⟨b6, 0, none⟩ (.int .i64 va.k)).setCell ⟨b6, 1, none⟩ (.int .i64 va.n)).setCell ⟨b6, 2, none⟩ (.int .i64 va.s) := ⟨_, rfl⟩
      rw [← hY6] at HG ⊢
      clear hY6
      have he6 : Env Z [fkC bx (isC' x (.slice xa xn xc))] Y6 := Env.grown1 (show Env Z [fkC bx (isC' x (.slice xa xn xc))] V34 from HV.out.drop 2) HG.out.2 (fun q e => by injection e with e; have h1 := Hb6.out.1; have h2 := HB.out.2; omega)
      have hN : Y6.heap[b7]? = some (.cells #[.int .i64 0, .int .i64 0, .int .i64 0] 50) := by rw [HG.out.2.block b7 (lt_fkH (HV.out.fact 1 rfl)) (fun e => HNE.out.symm (Option.some.inj e).symm)]; exact HV.out.fact 1 rfl
      have HG6 := Lib.hid (And.intro HG.out.1 he6)
      clear HG he6
      obtain ⟨⟨z0, z1, z2, zf⟩, hC, hG⟩ := store3 (y0 := .int .i64 vb.k) (y1 := .int .i64 vb.n) (y2 := .int .i64 vb.s) hN
      have f0 := zf 0
      have f1 := zf 1
      have f2 := zf 2
      have HG := Lib.hid (And.intro hC hG)
      clear hC hG zf hN
      refine tail_mk (HG6.out.2.fact 0 rfl) ?_
      refine plan_alt rfl ?_ plan_stop
      go_wp2_with fail
      clear z0 z1 z2 f0 f1 f2
      obtain ⟨Y7, hY7⟩ : ∃ w, w = ((Y6.setCell ⟨b7, 0, none⟩ (.int .i64 vb.k)).setCell ⟨b7, 1, none⟩ (.int .i64 vb.n)).setCell ⟨b7, 2, none⟩ (.int .i64 vb.s) := ⟨_, rfl⟩
      rw [← hY7] at HG ⊢
      clear hY7
      have he7 : Env Z [fkC b6 [.int .i64 va.k, .int .i64 va.n, .int .i64 va.s], fkC b7 [.int .i64 vb.k, .int .i64 vb.n, .int .i64 vb.s], fkC bx (isC' x (.slice xa xn xc))] Y7 := ((HG6.out.2.grown1 HG.out.2 (fun q e => by injection e with e; have h1 := Hb7.out.1; have h2 := HB.out.2; omega)).add (q := fkC b7 [.int .i64 vb.k, .int .i64 vb.n, .int .i64 vb.s]) HG.out.1).add (q := fkC b6 [.int .i64 va.k, .int .i64 va.n, .int .i64 va.s]) (fkC_grown HG6.out.1 HG.out.2 (fun e => HNE.out.symm (Option.some.inj e)))
      have HE7 := Lib.hid he7
      clear he7
      refine tail_mk (HE7.out.fact 2 rfl) ?_
      refine plan_done ?_
      go_wp2_with fail
      go_meet
      case rel => exact ⟨b6, b7, rfl, rfl, HE7.out⟩
 case rest =>
 obtain ⟨b6, b7, rfl, rfl, hE⟩ := hcut
 have HE2 := Lib.hid hE
 have a0 := hE.cell 0 rfl 0 rfl
 have a1 := hE.cell 0 rfl 1 rfl
 have a2 := hE.cell 0 rfl 2 rfl
 have c0 := hE.cell 1 rfl 0 rfl
 have c1 := hE.cell 1 rfl 1 rfl
 have c2 := hE.cell 1 rfl 2 rfl
 clear hE HM
 go_wp2_with fail
 refine (rEqual_any va vb _).mono ?_
 rintro E W4 ⟨rfl, b4⟩
 have H4 := Lib.hid (HE2.out.below b4)
 clear b4 a0 a1 a2 c0 c1 c2
 obtain ⟨q0, hq0⟩ : ∃ q, q = eqV va vb := ⟨_, rfl⟩
 rw [← hq0]
 have HQ0 := Lib.hid hq0
 have a0 := H4.out.cell 0 rfl 0 rfl
 clear hq0
 go_upto_if 97 with fail
 go_cut [8] (fun q wx => q = .int .i64 (if va.k = 1 then binV x.n va.n vb.n else eqV va vb) ∧ Env Z [fkC b6 [.int .i64 va.k, .int .i64 va.n, .int .i64 va.s], fkC b7 [.int .i64 vb.k, .int .i64 vb.n, .int .i64 vb.s], fkC bx (isC' x (.slice xa xn xc))] wx)
 case first =>
  by_cases hk : va.k = 1
  ·have t1 : (va.k == 1) = true := by simp [hk]
   have a1 := H4.out.cell 0 rfl 1 rfl
   have c1 := H4.out.cell 1 rfl 1 rfl
   have e4 := H4.out.cell 2 rfl 4 rfl
   have HK := Lib.hid hk
   clear hk
   go_wp2_with fail
   refine (rBin_any x.n va.n vb.n _).mono ?_
   rintro E W5 ⟨n, rfl, rfl⟩
   go_wp2_with fail
   go_meet
   case rel => exact ⟨by rw [if_pos HK.out], H4.out⟩
  ·have t1 : (va.k == 1) = false := by simpa using hk
   have HK := Lib.hid hk
   clear hk
   go_wp2_with fail
   go_meet
   case rel => exact ⟨by rw [if_neg HK.out, HQ0.out], H4.out⟩
 case rest =>
 obtain ⟨rfl, hE⟩ := hcut
 obtain ⟨w, hw⟩ : ∃ w : Int, w = if va.k = 1 then binV x.n va.n vb.n else eqV va vb := ⟨_, rfl⟩
 rw [← hw] at HT ⊢
 have HM6 := Lib.hid (HC.out.1.below hE.bel)
 have e1 := hE.cell 2 rfl 1 rfl
 have HS := Lib.hid (show wc.drew.cell? ⟨bx, 1, none⟩ = some (.int .i64 x.d) from e1)
 clear hw hE a0
 go_upto_region 22 with fail
 clear e1
 refine wp_region_mix [0, 1, 2, 3] [4, 5] (fun w' => w'.cell? ⟨bx, 1, none⟩ = some (.int .i64 x.d)) (by kernel_rfl) (by kernel_rfl) (by kernel_rfl) HS.out ?_
 repeat (
  refine wpHeads_cons (v := ?_) rfl (Or.inl ⟨by rfl, ?_⟩) ?_
  rotate_left
  ·(intro W hW; have x1 := hW; (try go_simp); try with_reducible rfl)
  simp only [Act.put, List.setIfInBounds_toArray, List.getElem_toArray, List.getElem_cons_zero, List.getElem_cons_succ, List.set_cons_succ, List.set_cons_zero])
 refine wpHeads_nil ?_
 refine wpTails_cons rfl ?_
 go_wp2_with fail
 refine (rInteger_any w _).mono ?_
 rintro E W5 ⟨rfl, b5⟩
 have g5 := grownBy_below b5
 have HM7 := Lib.hid ((HM6.out.below ((Below.refl _ _).drew)).below b5)
 have HS5 := Lib.hid (g5.cell HS.out (by simp))
 clear b5 g5
 go_wp2_with fail
 refine tail_mk HS5.out ?_
 refine wpTails_one rfl ?_
 go_wp2_with fail
 refine (rSet_any HM7.out HC.out.2.1 HC.out.2.2.1 HC.out.2.2.2.2.2.2.1 HC.out.2.2.2.2.2.2.2 HC.out.2.2.2.2.2.1 ⟨1, w, 0⟩).mono ?_
 rintro E W9 ⟨rfl, hM9, -⟩
 have H9 := Lib.hid hM9
 clear hM9
 go_wp2_with fail
 refine thenQ_mk ?_
 go_wp2_with fail
 refine bodyPost_end (v := .tuple #[]) (results_none rfl _ _ _) rfl ?_
 exact ⟨by first | rfl | trivial, y, by rw [HT.out]; exact H9.out, rfl⟩
end
end Go.Proofs.YtnklnklkblgnfaaGreatDoor
end
section
namespace Go.Proofs.YtnklnklkblgnfaaGreatDoor
open Go.RowKit Go.Dfl Go.Obs Go.Hir
open Go.Gra (gen_code gen_calls)
section
variable {W0 : World} {u : Un} {v0 v1 : Value} {b : Nat} {y : Ly} {m : Mch} {Z : World} (h : MM W0.heap.size W0 u v0 v1 b y m Z) (hp : 0 < m.fr.length) (hd : m.fr.length ≤ 64) (hu : UnIn W0 v0 v1 u) (hf : (tp m).f < u.fs.length) (hi : (tp m).i ≤ 1048576) (x : Is) (xv : Value) (hxv : InS vI W0 xv x.ar) (hd0 : 0 ≤ x.d) (hd1 : x.d < (tp m).vs.length)
 (hcl : u.cs.length ≤ 64) (hF : ∀ d ∈ u.cs, d.fs.length ≤ 1048576) (hcn : cdN u.fs ≤ 1048576) (hic : (tp m).i < (nth u.fs (tp m).f).cd.length) (hhl : m.hp.length ≤ 1048576)
set_option maxHeartbeats 6400000 in
set_option maxRecDepth 8000 in
include h hp hd hu hf hi hxv hd0 hd1 hcl hF hcn hic hhl in
theorem rComp6_any (hop : x.op = 6) : Calls Tryz.prog 35 #[.pointer (some ⟨b, 0, none⟩), isV x xv] Z (CmpR W0 u v0 v1 b y (cpP u m x)) := by
 have HL := Lib.hid (And.intro hcl (And.intro hF (And.intro hcn (And.intro hic hhl))))
 clear hcl hF hcn hic hhl
 obtain ⟨xa, xc, rfl⟩ := hxv.shape
 obtain ⟨xn, hxn⟩ : ∃ n, n = x.ar.length := ⟨_, rfl⟩
 rw [← hxn]
 have HE := Lib.hid ((Env.refl Z).alloc (isC' x (.slice xa xn xc)) 79)
 have HC := Lib.hid (And.intro h (And.intro hp (And.intro hd (And.intro hu (And.intro hf (And.intro hi (And.intro hd0 hd1)))))))
 have HOP := Lib.hid hop
 clear h hp hd hu hf hi hd0 hd1 hxv hxn hop
 unfold isV
 go_enter Tryz.func35, Tryz.ntmps35
 go_upto_region 1 with fail
 refine gen_code (fun Z' => Env Z [fkC Z.heap.size (isC' x (.slice xa xn xc))] Z') HE.out ?_
 intro Z1 hZ1
 obtain ⟨bx, hbx⟩ : ∃ b, b = Z.heap.size := ⟨_, rfl⟩
 have hbn : y.rl bx = .no := HC.out.1.rlo _ (by omega)
 have HB := Lib.hid (And.intro hbn hbx)
 rw [← hbx] at hZ1 ⊢
 have HZ1 := Lib.hid hZ1
 clear hZ1 hbx HE hbn
 go_wp2_with fail
 refine (rTop_any (HC.out.1.below HZ1.out.bel) HC.out.2.1 HC.out.2.2.1).mono ?_
 rintro E W2 ⟨rfl, b2⟩
 have H2 := Lib.hid (HZ1.out.below b2)
 have HM := Lib.hid (HC.out.1.below H2.out.bel)
 have e0 : W2.cell? ⟨bx, 0, none⟩ = some (.int .i64 6) := by rw [← HOP.out]; exact H2.out.cell 0 rfl 0 rfl
 have e1 := H2.out.cell 0 rfl 1 rfl
 have e2 := H2.out.cell 0 rfl 2 rfl
 have e3 := H2.out.cell 0 rfl 3 rfl
 have e4 := H2.out.cell 0 rfl 4 rfl
 clear b2 HZ1
 have e5 := H2.out.cell 0 rfl 5 rfl
 have HT := Lib.hid (show cpP u m x = setV { m with hp := m.hp ++ [newO u x.c] } x.d ⟨3, (m.hp.length : Int), ((siU u.fs (tp m).f (tp m).i).length : Int)⟩ by
  unfold cpP cpM cpW; rw [if_neg (by rw [HOP.out]; decide), if_pos HOP.out, if_pos HOP.out])
 have c4 : W2.cell? ⟨b, 4, none⟩ = some (.slice y.hs.a y.hs.n y.hs.c) := HM.out.bx 4 _ rfl
 have HS := Lib.hid (show W2.drew.cell? ⟨b, 0, none⟩ = some v0 ∧ W2.drew.cell? ⟨b, 1, none⟩ = some v1 ∧ W2.drew.cell? ⟨b, 2, none⟩ = some (.int .i64 u.mn) ∧ W2.drew.cell? ⟨b, 4, none⟩ = some (.slice y.hs.a y.hs.n y.hs.c) ∧ W2.drew.cell? ⟨bx, 5, none⟩ = some (.string x.c) from ⟨HM.out.bx 0 _ rfl, HM.out.bx 1 _ rfl, HM.out.bx 2 _ rfl, c4, e5⟩)
 go_upto_region 24 with fail
 clear e0 e1 e2 e3 e4 e5 c4
 refine wp_region_mix [0, 1, 2, 3, 4, 5, 6, 7, 8, 9, 10] [11, 12, 13, 14, 15, 16] (fun w' => w'.cell? ⟨b, 0, none⟩ = some v0 ∧ w'.cell? ⟨b, 1, none⟩ = some v1 ∧ w'.cell? ⟨b, 2, none⟩ = some (.int .i64 u.mn) ∧ w'.cell? ⟨b, 4, none⟩ = some (.slice y.hs.a y.hs.n y.hs.c) ∧ w'.cell? ⟨bx, 5, none⟩ = some (.string x.c)) (by kernel_rfl) (by kernel_rfl) (by kernel_rfl) HS.out ?_
 repeat (
  refine wpHeads_cons (v := ?_) rfl (Or.inl ⟨by rfl, ?_⟩) ?_
  rotate_left
  ·(intro W hW; obtain ⟨x1, x2, x3, x4, x5⟩ := hW; (try go_simp); try with_reducible rfl)
  simp only [Act.put, List.setIfInBounds_toArray, List.getElem_toArray, List.getElem_cons_zero, List.getElem_cons_succ, List.set_cons_succ, List.set_cons_zero])
 refine wpHeads_nil ?_
 have HED := Lib.hid H2.out.drew
 have HMD := Lib.hid (HM.out.below ((Below.refl _ _).drew))
 clear HM
 generalize W2.drew = V at *
 refine wpTails_cons rfl ?_
 go_wp2_with fail
 refine (rObject_any u v0 v1 x.c _ (HC.out.2.2.2.1.below HMD.out.bel) HL.out.1 HL.out.2.1).mono ?_
 rintro E W5 ⟨s, rfl, hso, b5⟩
 have g5 := grownBy_below b5
 have hS5 := And.intro (g5.cell HS.out.1 (by simp)) (And.intro (g5.cell HS.out.2.1 (by simp)) (And.intro (g5.cell HS.out.2.2.1 (by simp)) (And.intro (g5.cell HS.out.2.2.2.1 (by simp)) (g5.cell HS.out.2.2.2.2 (by simp)))))
 have g6 := grownBy_alloc W5 (.cells #[.string x.c, .slice s.a s.n s.c] 102)
 have hS6 := And.intro (g6.cell hS5.1 (by simp)) (And.intro (g6.cell hS5.2.1 (by simp)) (And.intro (g6.cell hS5.2.2.1 (by simp)) (And.intro (g6.cell hS5.2.2.2.1 (by simp)) (g6.cell hS5.2.2.2.2 (by simp)))))
 have hE6 := (HED.out.below b5).below ((Below.refl _ _).alloc (Nat.le_refl _) (.cells #[.string x.c, .slice s.a s.n s.c] 102))
 have hM6 := (HMD.out.below b5).below ((Below.refl _ _).alloc (Nat.le_refl _) (.cells #[.string x.c, .slice s.a s.n s.c] 102))
 have hR6 : OwnE elT (W5.alloc (.cells #[.string x.c, .slice s.a s.n s.c] 102)) V.heap.size 125 s.v (newO u x.c).sl := hso.grown g6 (by cases s.v.ownBlock <;> simp)
 have H5 := Lib.hid hS5
 have H6 := Lib.hid (And.intro hS6 (And.intro hM6 (And.intro hR6 hE6)))
 have HVZ := Lib.hid HED.out.bel.size
 have hfl : (hps m y.sv).length ≤ 1048576 := by rw [hps_len]; exact HL.out.2.2.2.2
 have hl1 : ((hps m y.sv).length + 1) * 40 ≤ 140737488355328 := by omega
 have hl2 : (hps m y.sv).length + 1 ≤ 1000000000000 := by omega
 have HLN := Lib.hid (And.intro hl1 hl2)
 clear b5 g5 g6 hS5 hS6 hE6 hM6 hR6 hso hfl hl1 hl2
 go_wp2_with fail
 refine tail_mk H5.out ?_
 refine wpTails_cons rfl ?_
 go_wp2_with fail
 refine tail_mk H6.out.1 ?_
 refine wpTails_cons rfl ?_
 refine wp_appendE (E := elO) sOj rfl rfl _ _ rfl (v := .slice y.hs.a y.hs.n y.hs.c) (l := hps m y.sv) (base := W0.heap.size) rfl W5.heap.size rfl H6.out.2.1.hp (x.c, s) (cells_new (W := W5) (cs := [.string x.c, .slice s.a s.n s.c]) (t := 102) rfl) HLN.out.1 HLN.out.2 H6.out.2.1.bel.size ?_
 intro v' w3 hown hgr hat
 obtain ⟨s9, c9, rfl⟩ := hown.shape (n := (hps m y.sv).length + 1) (by simp)
 have hlow : ∀ q, s.v.ownBlock = some q → y.rl q = .no := fun q e => HC.out.1.rlo q (Nat.le_trans HVZ.out (OwnE.lt H6.out.2.2.1 q e).1)
 obtain ⟨⟨z4, f4⟩, rl', hno', hMF⟩ := H6.out.2.1.pushH (o := newO u x.c) (s := s) (v' := ⟨s9, (hps m y.sv).length + 1, c9⟩) (H6.out.2.2.1.mono9 HMD.out.bel.size) hlow hown hgr hat
 have hrow : ∀ q, y.hs.v.ownBlock = some q → y.rl q = .hp := fun q e => (H6.out.2.1.own .hp).2 q e
 have hnb : some b ≠ y.hs.v.ownBlock := fun e => by have h1 := hrow b e.symm; rw [H6.out.2.1.rb] at h1; cases h1
 have hnx : some bx ≠ y.hs.v.ownBlock := fun e => by have h1 := hrow bx e.symm; rw [HB.out.1] at h1; cases h1
 have hS7 := And.intro (hgr.cell H6.out.1.1 hnb) (And.intro (hgr.cell H6.out.1.2.1 hnb) (And.intro (hgr.cell H6.out.1.2.2.1 hnb) (And.intro (hgr.cell H6.out.1.2.2.2.1 hnb) (hgr.cell H6.out.1.2.2.2.2 hnx))))
 have hfx : (fkC bx (isC' x (.slice xa xn xc))).p w3 := fkC_grown (H6.out.2.2.2.fact 0 rfl) hgr hnx
 have hfy : (fkC bx (isC' x (.slice xa xn xc))).p (w3.setCell ⟨b, 4, none⟩ (.slice s9 ((hps m y.sv).length + 1) c9)) := fkC_grown hfx (grownBy_setCell _ _ _) (fun e => by
  have h1 := HB.out.1
  rw [Option.some.inj e, HC.out.1.rb] at h1; cases h1)
 have z4 : w3.cell? ⟨b, 4, none⟩ = some (.slice y.hs.a y.hs.n y.hs.c) := z4
 have H7 := Lib.hid (And.intro hS7 (And.intro hMF hfy))
 clear hown hgr hat hno' hMF hrow hnb hnx hS7 hfx hfy hlow
 refine tail_mk H7.out.1 ?_
 refine wpTails_cons rfl ?_
 go_wp2_with fail
 refine tail_mk H7.out.1 ?_
 refine wpTails_cons rfl ?_
 go_wp2_with fail
 refine tail_mk H7.out.1 ?_
 refine wpTails_one rfl ?_
 go_wp2_with fail
 refine thenQ_mk ?_
 go_upto_region 25 with fail
 clear z4 f4
 obtain ⟨m2, hm2⟩ : ∃ m2 : Mch, m2 = { m with hp := m.hp ++ [newO u x.c] } := ⟨_, rfl⟩
 obtain ⟨N, hN⟩ : ∃ N, N = m.hp.length := ⟨_, rfl⟩
 have hNl : N ≤ 1048576 := by rw [hN]; exact HL.out.2.2.2.2
 have H8 := H7.out.2
 rw [hps_len, ← hN, ← hm2] at H8
 rw [hps_len, ← hN]
 obtain ⟨M, hM⟩ : ∃ M, M = N + 1 := ⟨_, rfl⟩
 rw [← hM] at H8 ⊢
 obtain ⟨W8, hW8⟩ : ∃ W8, W8 = w3.setCell ⟨b, 4, none⟩ (.slice s9 M c9) := ⟨_, rfl⟩
 obtain ⟨y2, hy2⟩ : ∃ y2 : Ly, y2 = { y with rl := rl', hs := ⟨s9, M, c9⟩, sv := y.sv ++ [s] } := ⟨_, rfl⟩
 have H8 : MM W0.heap.size W0 u v0 v1 b y2 m2 W8 ∧ (fkC bx (isC' x (.slice xa xn xc))).p W8 := by rw [hW8, hy2]; exact H8
 rw [← hW8]
 have HM8 := Lib.hid H8.1
 have HFX := Lib.hid H8.2
 have HEN := Lib.hid (show y2.en = y.en ∧ y2.fs = y.fs by rw [hy2]; exact ⟨rfl, rfl⟩)
 have HP2 := Lib.hid (show 0 < m2.fr.length ∧ m2.fr.length ≤ 64 ∧ x.d < (tp m2).vs.length ∧ (tp m2).i ≤ 1048576 by rw [hm2]; exact ⟨HC.out.2.1, HC.out.2.2.1, HC.out.2.2.2.2.2.2.2, HC.out.2.2.2.2.2.1⟩)
 have HTP := Lib.hid (show tp m2 = tp m ∧ tpN m2 = tpN m by rw [hm2]; exact ⟨rfl, rfl⟩)
 obtain ⟨S, hS⟩ : ∃ S, S = (siU u.fs (tp m).f (tp m).i).length := ⟨_, rfl⟩
 have HT2 := Lib.hid (show cpP u m x = setV m2 x.d ⟨3, (N : Int), (S : Int)⟩ by rw [HT.out, hm2, hN, hS])
 have HSS := Lib.hid hS
 have c4 : W8.cell? ⟨b, 4, none⟩ = some (.slice s9 M c9) := by
  have h1 := H8.1.bx 4 _ rfl
  rw [hy2] at h1; exact h1
 obtain ⟨q0, q1, -⟩ := H8.1.rdT HP2.out.1
 rw [HTP.out.1, HTP.out.2, HEN.out.2] at q0 q1
 obtain ⟨F, hF⟩ : ∃ F, F = (tp m).f := ⟨_, rfl⟩
 obtain ⟨I, hI⟩ : ∃ I, I = (tp m).i := ⟨_, rfl⟩
 rw [← hF] at q0
 rw [← hI] at q1
 have HFI := Lib.hid (And.intro hF hI)
 have HSF := Lib.hid (show S = (siU u.fs F I).length by rw [hF, hI]; exact HSS.out)
 have w1 : IntKind.i64.wrap ((M : Int) - 1) = (N : Int) := by rw [IntWalk.i64_in _ (by omega)]; omega
 have w2 : (M : Int) - 1 = (N : Int) := by omega
 have HW5 := Lib.hid (show wrap64 (N : Int) = (N : Int) by rw [← IntWalk.i64_left]; exact IntWalk.i64_in _ (by omega))
 have HS8 := Lib.hid (show W8.drew.cell? ⟨b, 0, none⟩ = some v0 ∧ W8.drew.cell? ⟨b, 1, none⟩ = some v1 ∧ W8.drew.cell? ⟨b, 2, none⟩ = some (.int .i64 u.mn) ∧ W8.drew.cell? ⟨b, 4, none⟩ = some (.slice s9 M c9) ∧ W8.drew.cell? ⟨bx, 1, none⟩ = some (.int .i64 x.d) ∧ W8.drew.cell? ⟨blk y.fs.a, ofs y.fs.a + tpN m * 8, none⟩ = some (.int .i64 (F : Int)) ∧ W8.drew.cell? ⟨blk y.fs.a, ofs y.fs.a + tpN m * 8 + 1, none⟩ = some (.int .i64 (I : Int)) from
  ⟨H8.1.bx 0 _ rfl, H8.1.bx 1 _ rfl, H8.1.bx 2 _ rfl, c4, H8.2 1 _ rfl, q0, q1⟩)
 clear hM hm2 hN hNl H8 hW8 hy2 hS c4 q0 q1 hF hI
 refine wp_region_mix [0, 1, 2, 3, 4, 5, 6, 7, 8, 9, 10, 11, 12, 13, 14, 15, 16, 17, 18, 19, 20] [21, 22, 23] (fun w' => w'.cell? ⟨b, 0, none⟩ = some v0 ∧ w'.cell? ⟨b, 1, none⟩ = some v1 ∧ w'.cell? ⟨b, 2, none⟩ = some (.int .i64 u.mn) ∧ w'.cell? ⟨b, 4, none⟩ = some (.slice s9 M c9) ∧ w'.cell? ⟨bx, 1, none⟩ = some (.int .i64 x.d) ∧ w'.cell? ⟨blk y.fs.a, ofs y.fs.a + tpN m * 8, none⟩ = some (.int .i64 (F : Int)) ∧ w'.cell? ⟨blk y.fs.a, ofs y.fs.a + tpN m * 8 + 1, none⟩ = some (.int .i64 (I : Int))) (by kernel_rfl) (by kernel_rfl) (by kernel_rfl) HS8.out ?_
 repeat (
  refine wpHeads_cons (v := ?_) rfl (Or.inl ⟨by rfl, ?_⟩) ?_
  rotate_left
  ·(intro W hW; obtain ⟨x1, x2, x3, x4, x5, x6, x7⟩ := hW; (try go_simp); try with_reducible rfl)
  simp only [Act.put, List.setIfInBounds_toArray, List.getElem_toArray, List.getElem_cons_zero, List.getElem_cons_succ, List.set_cons_succ, List.set_cons_zero])
 refine wpHeads_nil ?_
 have HMD8 := Lib.hid (HM8.out.below ((Below.refl _ _).drew))
 generalize W8.drew = V8 at *
 refine wpTails_cons rfl ?_
 go_wp2_with fail
 refine (rSite_any u v0 v1 F I _ (HC.out.2.2.2.1.below HMD8.out.bel) (by rw [HFI.out.1]; exact HC.out.2.2.2.2.1) (by rw [HFI.out.1, HFI.out.2]; exact HL.out.2.2.2.1) HL.out.2.2.1).mono ?_
 rintro E W9 ⟨rfl, b9⟩
 rw [← HSF.out]
 have g9 := grownBy_below b9
 have HM9 := Lib.hid (HMD8.out.below b9)
 have HS9 := Lib.hid (And.intro (g9.cell HS8.out.1 (by simp)) (And.intro (g9.cell HS8.out.2.1 (by simp)) (And.intro (g9.cell HS8.out.2.2.1 (by simp)) (And.intro (g9.cell HS8.out.2.2.2.1 (by simp)) (And.intro (g9.cell HS8.out.2.2.2.2.1 (by simp)) (And.intro (g9.cell HS8.out.2.2.2.2.2.1 (by simp)) (g9.cell HS8.out.2.2.2.2.2.2 (by simp))))))))
 clear b9 g9 w1 w2
 go_wp2_with fail
 refine tail_mk HS9.out ?_
 refine wpTails_cons rfl ?_
 go_wp2_with fail
 refine tail_mk HS9.out ?_
 refine wpTails_one rfl ?_
 go_wp2_with fail
 rw [HW5.out]
 refine (rSet_any HM9.out HP2.out.1 HP2.out.2.1 HC.out.2.2.2.2.2.2.1 HP2.out.2.2.1 HP2.out.2.2.2 ⟨3, (N : Int), (S : Int)⟩).mono ?_
 rintro E W9 ⟨rfl, hM9, -⟩
 have H9 := Lib.hid hM9
 clear hM9
 go_wp2_with fail
 refine thenQ_mk ?_
 go_wp2_with fail
 refine bodyPost_end (v := .tuple #[]) (results_none rfl _ _ _) rfl ?_
 exact ⟨by first | rfl | trivial, y2, by rw [HT2.out]; exact H9.out, HEN.out.1⟩
include h hp hd hu hf hi hxv hd0 hd1 hcl hF hcn hic hhl in
theorem rCompute_any (hop : x.op = 1 ∨ x.op = 2 ∨ x.op = 3 ∨ x.op = 4 ∨ x.op = 5 ∨ x.op = 6 ∨ x.op = 16) (ha : x.op = 3 ∨ x.op = 4 ∨ x.op = 16 → RdV u (tp m) x.a) (hb : x.op = 4 → RdV u (tp m) x.b) : Calls Tryz.prog 35 #[.pointer (some ⟨b, 0, none⟩), isV x xv] Z (CmpR W0 u v0 v1 b y (cpP u m x)) := by
 rcases hop with e | e | e | e | e | e | e
 ·exact rComp1_any h hp hd hu hf hi x xv hxv hd0 hd1 e
 ·exact rComp2_any h hp hd hu hf hi x xv hxv hd0 hd1 e
 ·exact rComp3_any h hp hd hu hf hi x xv hxv hd0 hd1 e (ha (.inl e))
 ·exact rComp4_any h hp hd hu hf hi x xv hxv hd0 hd1 e (ha (.inr (.inl e))) (hb e)
 ·exact rComp5_any h hp hd hu hf hi x xv hxv hd0 hd1 e
 ·exact rComp6_any h hp hd hu hf hi x xv hxv hd0 hd1 hcl hF hcn hic hhl e
 ·exact rComp16_any h hp hd hu hf hi x xv hxv hd0 hd1 e (ha (.inr (.inr e)))
end
end Go.Proofs.YtnklnklkblgnfaaGreatDoor
end
section
namespace Go.Hir
open Go.Dfl (nth nth_mem mem_nth nth_eq nth_ext take_snoc nth_set nth_append nth_out)
open Go.Obs
section
variable {u : Un} {m : Mch} (H : UOk u) (M : MT u m) (R : Rcd m)
include H M R
theorem callee_ok (h : (isOf u (tp m)).op = 9 ∨ (isOf u (tp m)).op = 10) (h3 : ¬ ((isOf u (tp m)).op = 9 ∧ (rd u (tp m) (isOf u (tp m)).a).k ≠ 3)) :
  ∃ fn : Nat, callee u m (isOf u (tp m)) = (fn : Int) ∧ fn < u.fs.length ∧ (nth u.fs fn).vs.length ≤ 256 ∧ (args u m (isOf u (tp m))).length ≤ (nth u.fs fn).vs.length := by
 have I := (M.top R.pos).iok H
 have ht := M.top R.pos
 have hl := I.rng.l (by show hasB (isOf u (tp m)).op 108 = true; rcases h with h | h <;> rw [h] <;> rfl)
 obtain ⟨fn, d, s, hfn, hflt, hfit, hsig, hmay, hhead⟩ : ∃ (fn : Nat) (d : ByteArray) (s : Sg), callee u m (isOf u (tp m)) = (fn : Int) ∧ fn < u.fs.length ∧ FitF (nth u.fs fn) d s ∧ Sig u.cs (fnOf u (tp m)) (isOf u (tp m)) s ∧ May u (isOf u (tp m)) fn ∧
   ((s.st = true ∧ (isOf u (tp m)).op = 10) ∨ (s.st = false ∧ (isOf u (tp m)).op = 9 ∧ TV u.cs (hcs m) (sts u) d (rd u (tp m) (isOf u (tp m)).a))) := by
  rcases h with h | h
  ·obtain ⟨h1, h2, c, s, h4, h5, h6⟩ := I.typ.call h
   have ha := a_ok H M R (by rw [h]; rfl) (by omega)
   have hk : (rd u (tp m) (isOf u (tp m)).a).k = 3 := by
    by_cases e : (rd u (tp m) (isOf u (tp m)).a).k = 3
    ·exact e
    ·exact absurd ⟨h, e⟩ h3
   rcases ha with ⟨hk1, -⟩ | ⟨hk1, -⟩ | ⟨-, -, hr, hs⟩
   ·omega
   ·omega
   have hlen : (hcs m).length = m.hp.length := by simp [hcs]
   have hb : (rd u (tp m) (isOf u (tp m)).a).n.toNat < m.hp.length := by have := hr.1; have := hr.2.1; omega
   have hcc : nth (hcs m) (rd u (tp m) (isOf u (tp m)).a).n.toNat = (nth m.hp (rd u (tp m) (isOf u (tp m)).a).n.toNat).c := by unfold hcs; rw [nth_mapO _ _ hb]
   have hs : vty (fnOf u (tp m)) (isOf u (tp m)).a ∈ sups u.cs (nth m.hp (rd u (tp m) (isOf u (tp m)).a).n.toNat).c := by rw [hcc] at hs; exact hs
   have h2 : vty (fnOf u (tp m)) (isOf u (tp m)).a = (isOf u (tp m)).c := h2
   rw [h2] at hs
   obtain ⟨c', s', k1, k2, k3⟩ := H.h.meth hs h4 h5
   obtain ⟨k4, k5⟩ := H.meth k1
   have hd : dsp u (nth m.hp (rd u (tp m) (isOf u (tp m)).a).n.toNat).c (isOf u (tp m)).m = (fu u.fs c' (isOf u (tp m)).m : Int) := by
    unfold dsp
    rw [k1]
    show (if s'.st = true then _ else _) = _
    rw [k2]
    show fuI _ _ _ = _
    unfold fuI; rw [if_pos k4]
   obtain ⟨m1, -, -⟩ := methL_mem k1
   have hcc' := (M.hp _ hb).c
   have hne : isC u.cs c' := sups_isC m1
   refine ⟨_, c', s', by unfold callee; rw [if_pos h, hd], k4, k5, ?_, .inr ⟨h, _, hcc', hs, hd⟩, .inr ⟨k2, h, ?_⟩⟩
   ·unfold Sig; rw [← k3.1, ← k3.2]; exact h6
   ·exact .inr (.inr ⟨hk, fun e => H.h.notC (.inl e) hne, hr, by rw [hcc]; exact m1⟩)
  ·obtain ⟨s, h4, h5, h6⟩ := I.typ.static h
   obtain ⟨k4, k5⟩ := H.meth h4
   have e : fuI u.fs (isOf u (tp m)).c (isOf u (tp m)).m = (fu u.fs (isOf u (tp m)).c (isOf u (tp m)).m : Int) := if_pos k4
   exact ⟨_, _, s, by unfold callee; rw [if_neg (by omega)]; exact e, k4, k5, h6, .inl ⟨h, e⟩, .inl ⟨h5, h⟩⟩
 have hargs : ∀ j, j < (args u m (isOf u (tp m))).length → j < (nth u.fs fn).vs.length ∧ TV u.cs (hcs m) (sts u) (nth (nth u.fs fn).vs j).t (nth (args u m (isOf u (tp m))) j) := by
  have harg : ∀ i, i < (isOf u (tp m)).ar.length → TV u.cs (hcs m) (sts u) (nth s.ps i) (nth ((isOf u (tp m)).ar.map (rd u (tp m))) i) := fun i hi => by
   have e : nth ((isOf u (tp m)).ar.map (rd u (tp m))) i = rd u (tp m) (nth (isOf u (tp m)).ar i) := by
    rw [nth_eq _ _ (by rw [List.length_map]; exact hi), nth_eq _ _ hi, List.getElem_map]
   rw [e]
   obtain ⟨h0, h1⟩ := hl _ (nth_mem _ _ hi)
   exact (rd_ok ht h1 h0).fits H.h (hsig.2.1 i hi)
  intro j hj
  unfold args at hj ⊢
  rcases hhead with ⟨hst, hop⟩ | ⟨hst, hop, hv⟩
  ·rw [if_neg (by omega), List.nil_append] at hj ⊢
   rw [List.length_map] at hj
   have h1 := hfit.ps j (by rw [hsig.1]; exact hj)
   rw [hst] at h1
   have h1 : j < (nth u.fs fn).vs.length ∧ (nth (nth u.fs fn).vs j).t = nth s.ps j := h1
   exact ⟨h1.1, by rw [h1.2]; exact harg j hj⟩
  ·rw [if_pos hop] at hj ⊢
   cases j with
   | zero =>
     have h1 := hfit.this hst
     refine ⟨h1.1, ?_⟩
     rw [h1.2]; exact hv
   | succ j =>
     have hj : j < (isOf u (tp m)).ar.length := by simpa using hj
     have h1 := hfit.ps j (by rw [hsig.1]; exact hj)
     rw [hst] at h1
     have h1 : j + 1 < (nth u.fs fn).vs.length ∧ (nth (nth u.fs fn).vs (j + 1)).t = nth s.ps j := h1
     refine ⟨h1.1, ?_⟩
     rw [h1.2]; exact harg j hj
 have hal : (args u m (isOf u (tp m))).length ≤ (nth u.fs fn).vs.length := by
  by_cases e : (args u m (isOf u (tp m))).length = 0
  ·omega
  ·have := (hargs ((args u m (isOf u (tp m))).length - 1) (by omega)).1; omega
 exact ⟨fn, hfn, hflt, (H.fn fn hflt).len.1, hal⟩
theorem slot_in (h : (isOf u (tp m)).op = 7 ∨ (isOf u (tp m)).op = 8) (h3 : (rd u (tp m) (isOf u (tp m)).a).k = 3) :
  0 ≤ (rd u (tp m) (isOf u (tp m)).a).n ∧ (rd u (tp m) (isOf u (tp m)).a).n < m.hp.length ∧ slotOf m (rd u (tp m) (isOf u (tp m)).a) (isOf u (tp m)).m < (nth m.hp (rd u (tp m) (isOf u (tp m)).a).n.toNat).sl.length := by
 have I := (M.top R.pos).iok H
 have ha := a_ok H M R (by rcases h with h | h <;> rw [h] <;> rfl) (by omega)
 have hc : isC u.cs (vty (fnOf u (tp m)) (isOf u (tp m)).a) ∧ ∃ c t, fieldP u.cs (vty (fnOf u (tp m)) (isOf u (tp m)).a) (isOf u (tp m)).m = some (c, t) := by
  rcases h with h | h
  ·obtain ⟨h1, c, t, h2, -⟩ := I.typ.load h; exact ⟨h1, c, t, h2⟩
  ·obtain ⟨h1, c, t, h2, -⟩ := I.typ.store h; exact ⟨h1, c, t, h2⟩
 obtain ⟨h1, c, t, h2⟩ := hc
 rcases ha with ⟨hk, -⟩ | ⟨hk, -⟩ | ⟨-, -, hr, hs⟩
 ·omega
 ·omega
 have hlen : (hcs m).length = m.hp.length := by simp [hcs]
 have hb : (rd u (tp m) (isOf u (tp m)).a).n.toNat < m.hp.length := by have := hr.1; have := hr.2.1; omega
 have hsl := slot_ok H.h (M.hp _ hb) (by unfold hcs at hs; rw [nth_mapO _ _ hb] at hs; exact hs) h2
 exact ⟨hr.1, by have := hr.2.1; omega, hsl.1⟩
theorem recv_ok (h : (isOf u (tp m)).op = 9) (h3 : (rd u (tp m) (isOf u (tp m)).a).k = 3) : 0 ≤ (rd u (tp m) (isOf u (tp m)).a).n ∧ (rd u (tp m) (isOf u (tp m)).a).n < m.hp.length := by
 have ha := a_ok H M R (by rw [h]; rfl) (by omega)
 rcases ha with ⟨hk, -⟩ | ⟨hk, -⟩ | ⟨-, -, hr, hs⟩
 ·omega
 ·omega
 have hlen : (hcs m).length = m.hp.length := by simp [hcs]
 exact ⟨hr.1, by have := hr.2.1; omega⟩
omit R in
theorem frs_in {k : Nat} (hk : k < m.fr.length) : (nth m.fr k).f < u.fs.length ∧ (nth m.fr k).i < (fnOf u (nth m.fr k)).cd.length ∧ (nth m.fr k).i ≤ 1048576 := by
 have ht := M.fr k hk
 have h1 := (H.fn _ ht.f).len.2
 have h2 := ht.i
 unfold fnOf at h2
 exact ⟨ht.f, ht.i, by omega⟩
omit H in
theorem vars_len : (tp m).vs.length = (fnOf u (tp m)).vs.length := (M.top R.pos).len
theorem a_in (h : hasB (isOf u (tp m)).op 97 = true) (h13 : (isOf u (tp m)).op ≠ 13) : 0 ≤ (isOf u (tp m)).a ∧ (isOf u (tp m)).a < (fnOf u (tp m)).vs.length := by
 rcases ((M.top R.pos).iok H).rng.a h with h | ⟨h, -⟩
 ·exact h
 ·exact absurd h h13
theorem d_in (h : hasB (isOf u (tp m)).op 100 = true) (h9 : (isOf u (tp m)).op ≠ 9) (h10 : (isOf u (tp m)).op ≠ 10) : 0 ≤ (isOf u (tp m)).d ∧ (isOf u (tp m)).d < (fnOf u (tp m)).vs.length := by
 rcases ((M.top R.pos).iok H).rng.d h with h | ⟨h, -⟩
 ·exact h
 ·rcases h with h | h
  ·exact absurd h h9
  ·exact absurd h h10
omit R in
theorem ret_in (k : Nat) (hk : m.fr.length = k + 2) : (isOf u (nth m.fr k)).d ≠ -1 → 0 ≤ (isOf u (nth m.fr k)).d ∧ (isOf u (nth m.fr k)).d < (nth m.fr k).vs.length := fun hd => by
 have hg := M.fr k (by omega)
 have hw := M.wt k (by omega)
 rcases (hg.iok H).rng.d (by show hasB (isOf u _).op 100 = true; rcases hw.op with h | h <;> rw [h] <;> rfl) with h | ⟨-, h⟩
 ·rw [hg.len]; exact h
 ·exact absurd h hd
end
theorem ct_ok {u : Un} (H : UOk u) : CtV u := fun f hf x hx => by
 obtain ⟨i, hi, rfl⟩ := mem_nth hf
 obtain ⟨j, hj, rfl⟩ := mem_nth hx
 have h1 := (H.fn i hi).len.2
 rcases ((H.fn i hi).ins j hj).rng.ct with h | ⟨h2, h3, -⟩
 ·exact .inl h
 ·exact .inr ⟨h2, by omega⟩
end Go.Hir
end
section
namespace Go.Proofs.YtnklnklkblgnfaaGreatDoor
open Go.RowKit Go.Dfl Go.Obs Go.Hir
open Go.Gra (gen_code gen_calls)
def StpR (W0 : World) (u : Un) (v0 v1 : Value) (b : Nat) (y : Ly) (r : Mch × Int) (e : Ending) (Z' : World) : Prop := e = .returned (.int .i64 r.2) ∧ ∃ y', MM W0.heap.size W0 u v0 v1 b y' r.1 Z' ∧ y'.en = y.en
section
variable {W0 : World} {u : Un} {v0 v1 : Value} {b : Nat} {y : Ly} {m : Mch} {Z : World} (h : MM W0.heap.size W0 u v0 v1 b y m Z) (H : UOk u) (M : MT u m) (R : Rcd m) (hu : UnIn W0 v0 v1 u)
 (hcl : u.cs.length ≤ 64) (hF : ∀ d ∈ u.cs, d.fs.length ≤ 1048576) (hcn : cdN u.fs ≤ 1048576) (hol : m.ob.length ≤ 1048576) (har : ∀ f ∈ u.fs, ∀ x ∈ f.cd, x.ar.length ≤ 1048576)
set_option maxHeartbeats 6400000 in
set_option maxRecDepth 8000 in
include h H M R hu hcl hF hcn hol har in
theorem rStep0_any (hop : (isOf u (tp m)).op = 0) : Calls Tryz.prog 13 #[.pointer (some ⟨b, 0, none⟩)] Z (StpR W0 u v0 v1 b y (stepP u m)) := by
 have HC := Lib.hid (And.intro h (And.intro H (And.intro M (And.intro R (And.intro hu (And.intro hcl (And.intro hF (And.intro hcn (And.intro hol har)))))))))
 have HP := Lib.hid R.pos
 have HD := Lib.hid M.dep
 have HFR := Lib.hid (frs_in H M (k := tpN m) (by have := R.pos; unfold tpN; omega))
 have HOP := Lib.hid hop
 clear h H M R hu hcl hF hcn hol har hop
 go_enter Tryz.func13, Tryz.ntmps13
 go_wp2_with fail
 refine (rTop_any HC.out.1 HP.out HD.out).mono ?_
 rintro E W2 ⟨rfl, b2⟩
 have HM2 := Lib.hid (HC.out.1.below b2)
 have HB2 := Lib.hid b2
 clear b2
 obtain ⟨x, hx⟩ : ∃ x, x = isOf u (tp m) := ⟨_, rfl⟩
 obtain ⟨F, hF⟩ : ∃ F, F = (tp m).f := ⟨_, rfl⟩
 obtain ⟨I, hI⟩ : ∃ I, I = (tp m).i := ⟨_, rfl⟩
 obtain ⟨t, ht⟩ : ∃ t, t = tpN m := ⟨_, rfl⟩
 have HFI := Lib.hid (And.intro (And.intro hF hI) (And.intro ht hx))
 have hxe : x = nth (nth u.fs F).cd I := by rw [hx, hF, hI]; rfl
 obtain ⟨fa, fc, xa, xc, v7, hv1, jf, ji, hv7, hz⟩ := code_at (f := F) (i := I) HC.out.2.2.2.2.1.2 (by rw [hF]; exact HFR.out.1) (by rw [hF, hI]; exact HFR.out.2.1)
 rw [← hxe] at hv7 hz
 obtain ⟨aa, ac, rfl⟩ := hv7.shape
 obtain ⟨an, han⟩ : ∃ an, an = x.ar.length := ⟨_, rfl⟩
 rw [← han] at hv7 hz
 obtain ⟨FL, hFL⟩ : ∃ FL, FL = u.fs.length := ⟨_, rfl⟩
 obtain ⟨L, hL⟩ : ∃ L, L = (nth u.fs F).cd.length := ⟨_, rfl⟩
 rw [← hFL] at hv1 jf
 rw [← hL] at ji hz
 have HXW := Lib.hid (show ∀ W, Below W2.heap.size W2 W → (W.cell? ⟨b, 1, none⟩ = some (.slice fa FL fc) ∧ W.cell? ⟨blk y.fs.a, ofs y.fs.a + t * 8, none⟩ = some (.int .i64 (F : Int)) ∧ W.cell? ⟨blk y.fs.a, ofs y.fs.a + t * 8 + 1, none⟩ = some (.int .i64 (I : Int)) ∧ W.cell? ⟨blk fa, ofs fa + F * 7 + 6, none⟩ = some (.slice xa L xc)) ∧
   W.cell? ⟨blk xa, ofs xa + I * 10, none⟩ = some (.int .i64 x.op) ∧ W.cell? ⟨blk xa, ofs xa + I * 10 + 1, none⟩ = some (.int .i64 x.d) ∧ W.cell? ⟨blk xa, ofs xa + I * 10 + 2, none⟩ = some (.int .i64 x.a) ∧ W.cell? ⟨blk xa, ofs xa + I * 10 + 3, none⟩ = some (.int .i64 x.b) ∧ W.cell? ⟨blk xa, ofs xa + I * 10 + 4, none⟩ = some (.int .i64 x.n) ∧ W.cell? ⟨blk xa, ofs xa + I * 10 + 5, none⟩ = some (.string x.c) ∧ W.cell? ⟨blk xa, ofs xa + I * 10 + 6, none⟩ = some (.string x.m) ∧ W.cell? ⟨blk xa, ofs xa + I * 10 + 7, none⟩ = some (.slice aa an ac) ∧ W.cell? ⟨blk xa, ofs xa + I * 10 + 8, none⟩ = some (.int .i64 x.g) ∧ W.cell? ⟨blk xa, ofs xa + I * 10 + 9, none⟩ = some (.int .i64 x.ct) from fun W hW => by
  have hMW := HM2.out.below hW
  obtain ⟨q0, q1, -⟩ := hMW.rdT HP.out
  rw [← ht, ← hF] at q0
  rw [← ht, ← hI] at q1
  have c1 := hMW.bx 1 _ rfl
  rw [hv1] at c1
  obtain ⟨p6, hc⟩ := hz W hMW.bel
  exact ⟨⟨c1, q0, q1, p6⟩, hc 0 _ rfl, hc 1 _ rfl, hc 2 _ rfl, hc 3 _ rfl, hc 4 _ rfl, hc 5 _ rfl, hc 6 _ rfl, hc 7 _ rfl, hc 8 _ rfl, hc 9 _ rfl⟩)
 have HV7 := Lib.hid (And.intro hv7 han)
 rw [← ht]
 clear hx hF hI ht hxe hv1 hv7 hz han hFL hL
 go_upto_region 2 with fail
 refine wp_region_plan (.take 0 (.take 1 (.take 2 (.take 3 (.take 4 (.take 5 (.take 6 (.take 7 (.take 8 (.take 9 (.take 10 (.take 11 (.take 12 (.take 13 (.take 14 (.take 15 (.take 16 (.take 17 (.alt 18 (.alt 19 .done .stop) .stop))))))))))))))))))) (fun w' => Below W2.heap.size W2 w') (by kernel_rfl) (by kernel_rfl) (by kernel_rfl) (by kernel_rfl) ((Below.refl _ _).drew) ?_
 have HY := Lib.hid ((Below.refl W2.heap.size W2).drew)
 generalize W2.drew = V at *
 repeat (
  refine plan_take (v := ?_) rfl (Or.inl ⟨by rfl, ?_⟩) ?_
  rotate_left
  ·(intro W hW; obtain ⟨⟨c1, q0, q1, p6⟩, z0, z1, z2, z3, z4, z5, z6, z7, z8, z9⟩ := HXW.out W hW; (try go_simp); try with_reducible rfl)
  simp only [Act.put, List.setIfInBounds_toArray, List.getElem_toArray, List.getElem_cons_zero, List.getElem_cons_succ, List.set_cons_succ, List.set_cons_zero])
 clear jf ji
 refine plan_alt rfl ?_ plan_stop
 go_wp2_with fail
 refine tail_mk (HY.out.alloc HY.out.size _) ?_
 refine plan_alt rfl ?_ plan_stop
 go_wp2_with fail
 refine tail_mk (HY.out.alloc HY.out.size _) ?_
 refine plan_done ?_
 go_upto_region 3 with fail
 have HMV := Lib.hid (HM2.out.below HY.out)
 refine gen_code (fun Z' => Env V [fkC V.heap.size (isC' x (.slice aa an ac))] Z') ((Env.refl V).alloc (isC' x (.slice aa an ac)) 79) ?_
 intro Z3 hZ3
 obtain ⟨bx, hbx⟩ : ∃ b, b = V.heap.size := ⟨_, rfl⟩
 have hbn : y.rl bx = .no := HMV.out.rlo _ (by omega)
 have HB := Lib.hid (And.intro hbn hbx)
 rw [← hbx] at hZ3 ⊢
 have H3 := Lib.hid hZ3
 have HM3 := Lib.hid (HMV.out.below hZ3.bel)
 have e0 := hZ3.cell 0 rfl 0 rfl
 clear hZ3 hbx hbn HXW HM2 HMV
 have t0 : (x.op == 0) = true := by rw [HFI.out.2.2, HOP.out]; rfl
 have HT := Lib.hid (show stepP u m = (goN m (I + 1), 0) by unfold stepP; dsimp only; rw [if_pos HOP.out, HFI.out.1.2])
 obtain ⟨-, q1a, -⟩ := HM3.out.rdT HP.out
 rw [← HFI.out.2.1, ← HFI.out.1.2] at q1a
 have hi9 : I ≤ 1048576 := by rw [HFI.out.1.2]; exact HFR.out.2.2
 obtain ⟨f1, hM13, -⟩ := HM3.out.setAt HP.out (I + 1)
 rw [← HFI.out.2.1] at f1 hM13
 have HE := Lib.hid hM13
 clear hM13
 go_wp2_with fail
 go_ret
 exact ⟨by rw [HT.out]; try rfl, y, by rw [HT.out]; exact HE.out, rfl⟩
set_option maxHeartbeats 6400000 in
set_option maxRecDepth 8000 in
include h H M R hu hcl hF hcn hol har in
theorem rStep12_any (hop : (isOf u (tp m)).op = 12) : Calls Tryz.prog 13 #[.pointer (some ⟨b, 0, none⟩)] Z (StpR W0 u v0 v1 b y (stepP u m)) := by
 have HC := Lib.hid (And.intro h (And.intro H (And.intro M (And.intro R (And.intro hu (And.intro hcl (And.intro hF (And.intro hcn (And.intro hol har)))))))))
 have HP := Lib.hid R.pos
 have HD := Lib.hid M.dep
 have HFR := Lib.hid (frs_in H M (k := tpN m) (by have := R.pos; unfold tpN; omega))
 have HOP := Lib.hid hop
 clear h H M R hu hcl hF hcn hol har hop
 go_enter Tryz.func13, Tryz.ntmps13
 go_wp2_with fail
 refine (rTop_any HC.out.1 HP.out HD.out).mono ?_
 rintro E W2 ⟨rfl, b2⟩
 have HM2 := Lib.hid (HC.out.1.below b2)
 have HB2 := Lib.hid b2
 clear b2
 obtain ⟨x, hx⟩ : ∃ x, x = isOf u (tp m) := ⟨_, rfl⟩
 obtain ⟨F, hF⟩ : ∃ F, F = (tp m).f := ⟨_, rfl⟩
 obtain ⟨I, hI⟩ : ∃ I, I = (tp m).i := ⟨_, rfl⟩
 obtain ⟨t, ht⟩ : ∃ t, t = tpN m := ⟨_, rfl⟩
 have HFI := Lib.hid (And.intro (And.intro hF hI) (And.intro ht hx))
 have hxe : x = nth (nth u.fs F).cd I := by rw [hx, hF, hI]; rfl
 obtain ⟨fa, fc, xa, xc, v7, hv1, jf, ji, hv7, hz⟩ := code_at (f := F) (i := I) HC.out.2.2.2.2.1.2 (by rw [hF]; exact HFR.out.1) (by rw [hF, hI]; exact HFR.out.2.1)
 rw [← hxe] at hv7 hz
 obtain ⟨aa, ac, rfl⟩ := hv7.shape
 obtain ⟨an, han⟩ : ∃ an, an = x.ar.length := ⟨_, rfl⟩
 rw [← han] at hv7 hz
 obtain ⟨FL, hFL⟩ : ∃ FL, FL = u.fs.length := ⟨_, rfl⟩
 obtain ⟨L, hL⟩ : ∃ L, L = (nth u.fs F).cd.length := ⟨_, rfl⟩
 rw [← hFL] at hv1 jf
 rw [← hL] at ji hz
 have HXW := Lib.hid (show ∀ W, Below W2.heap.size W2 W → (W.cell? ⟨b, 1, none⟩ = some (.slice fa FL fc) ∧ W.cell? ⟨blk y.fs.a, ofs y.fs.a + t * 8, none⟩ = some (.int .i64 (F : Int)) ∧ W.cell? ⟨blk y.fs.a, ofs y.fs.a + t * 8 + 1, none⟩ = some (.int .i64 (I : Int)) ∧ W.cell? ⟨blk fa, ofs fa + F * 7 + 6, none⟩ = some (.slice xa L xc)) ∧
   W.cell? ⟨blk xa, ofs xa + I * 10, none⟩ = some (.int .i64 x.op) ∧ W.cell? ⟨blk xa, ofs xa + I * 10 + 1, none⟩ = some (.int .i64 x.d) ∧ W.cell? ⟨blk xa, ofs xa + I * 10 + 2, none⟩ = some (.int .i64 x.a) ∧ W.cell? ⟨blk xa, ofs xa + I * 10 + 3, none⟩ = some (.int .i64 x.b) ∧ W.cell? ⟨blk xa, ofs xa + I * 10 + 4, none⟩ = some (.int .i64 x.n) ∧ W.cell? ⟨blk xa, ofs xa + I * 10 + 5, none⟩ = some (.string x.c) ∧ W.cell? ⟨blk xa, ofs xa + I * 10 + 6, none⟩ = some (.string x.m) ∧ W.cell? ⟨blk xa, ofs xa + I * 10 + 7, none⟩ = some (.slice aa an ac) ∧ W.cell? ⟨blk xa, ofs xa + I * 10 + 8, none⟩ = some (.int .i64 x.g) ∧ W.cell? ⟨blk xa, ofs xa + I * 10 + 9, none⟩ = some (.int .i64 x.ct) from fun W hW => by
  have hMW := HM2.out.below hW
  obtain ⟨q0, q1, -⟩ := hMW.rdT HP.out
  rw [← ht, ← hF] at q0
  rw [← ht, ← hI] at q1
  have c1 := hMW.bx 1 _ rfl
  rw [hv1] at c1
  obtain ⟨p6, hc⟩ := hz W hMW.bel
  exact ⟨⟨c1, q0, q1, p6⟩, hc 0 _ rfl, hc 1 _ rfl, hc 2 _ rfl, hc 3 _ rfl, hc 4 _ rfl, hc 5 _ rfl, hc 6 _ rfl, hc 7 _ rfl, hc 8 _ rfl, hc 9 _ rfl⟩)
 have HV7 := Lib.hid (And.intro hv7 han)
 rw [← ht]
 clear hx hF hI ht hxe hv1 hv7 hz han hFL hL
 go_upto_region 2 with fail
 refine wp_region_plan (.take 0 (.take 1 (.take 2 (.take 3 (.take 4 (.take 5 (.take 6 (.take 7 (.take 8 (.take 9 (.take 10 (.take 11 (.take 12 (.take 13 (.take 14 (.take 15 (.take 16 (.take 17 (.alt 18 (.alt 19 .done .stop) .stop))))))))))))))))))) (fun w' => Below W2.heap.size W2 w') (by kernel_rfl) (by kernel_rfl) (by kernel_rfl) (by kernel_rfl) ((Below.refl _ _).drew) ?_
 have HY := Lib.hid ((Below.refl W2.heap.size W2).drew)
 generalize W2.drew = V at *
 repeat (
  refine plan_take (v := ?_) rfl (Or.inl ⟨by rfl, ?_⟩) ?_
  rotate_left
  ·(intro W hW; obtain ⟨⟨c1, q0, q1, p6⟩, z0, z1, z2, z3, z4, z5, z6, z7, z8, z9⟩ := HXW.out W hW; (try go_simp); try with_reducible rfl)
  simp only [Act.put, List.setIfInBounds_toArray, List.getElem_toArray, List.getElem_cons_zero, List.getElem_cons_succ, List.set_cons_succ, List.set_cons_zero])
 clear jf ji
 refine plan_alt rfl ?_ plan_stop
 go_wp2_with fail
 refine tail_mk (HY.out.alloc HY.out.size _) ?_
 refine plan_alt rfl ?_ plan_stop
 go_wp2_with fail
 refine tail_mk (HY.out.alloc HY.out.size _) ?_
 refine plan_done ?_
 go_upto_region 3 with fail
 have HMV := Lib.hid (HM2.out.below HY.out)
 refine gen_code (fun Z' => Env V [fkC V.heap.size (isC' x (.slice aa an ac))] Z') ((Env.refl V).alloc (isC' x (.slice aa an ac)) 79) ?_
 intro Z3 hZ3
 obtain ⟨bx, hbx⟩ : ∃ b, b = V.heap.size := ⟨_, rfl⟩
 have hbn : y.rl bx = .no := HMV.out.rlo _ (by omega)
 have HB := Lib.hid (And.intro hbn hbx)
 rw [← hbx] at hZ3 ⊢
 have H3 := Lib.hid hZ3
 have HM3 := Lib.hid (HMV.out.below hZ3.bel)
 have e0 := hZ3.cell 0 rfl 0 rfl
 clear hZ3 hbx hbn HXW HM2 HMV
 have hop : x.op = 12 := by rw [HFI.out.2.2, HOP.out]
 have t0 : (x.op == 0) = false := by rw [hop]; rfl
 have t11 : (x.op == 11) = false := by rw [hop]; rfl
 have t12 : (x.op == 12) = true := by rw [hop]; rfl
 have HT := Lib.hid (show stepP u m = (goN m x.g.toNat, 0) by unfold stepP; dsimp only; rw [if_neg (by rw [HOP.out]; decide), if_neg (by rw [HOP.out]; decide), if_pos HOP.out, HFI.out.2.2])
 have hg0 : 0 ≤ x.g := by
  rw [HFI.out.2.2]
  exact (((HC.out.2.2.1.top HP.out).iok HC.out.2.1).rng.g (by show hasB (isOf u (tp m)).op 103 = true; rw [HOP.out]; rfl)).1
 obtain ⟨g, hg⟩ : ∃ g : Nat, x.g = (g : Int) := ⟨x.g.toNat, by omega⟩
 have HG := Lib.hid (show x.g.toNat = g by omega)
 have e8 : Z3.cell? ⟨bx, 8, none⟩ = some (.int .i64 (g : Int)) := by rw [← hg]; exact H3.out.cell 0 rfl 8 rfl
 obtain ⟨-, q1a, -⟩ := HM3.out.rdT HP.out
 rw [← HFI.out.2.1, ← HFI.out.1.2] at q1a
 obtain ⟨f1, hM13, -⟩ := HM3.out.setAt HP.out g
 rw [← HFI.out.2.1] at f1 hM13
 have HE := Lib.hid hM13
 clear hM13 hop hg0 hg
 go_wp2_with fail
 go_ret
 exact ⟨by rw [HT.out]; try rfl, y, by rw [HT.out, HG.out]; exact HE.out, rfl⟩
set_option maxHeartbeats 6400000 in
set_option maxRecDepth 8000 in
include h H M R hu hcl hF hcn hol har in
theorem rStep11_any (hop : (isOf u (tp m)).op = 11) : Calls Tryz.prog 13 #[.pointer (some ⟨b, 0, none⟩)] Z (StpR W0 u v0 v1 b y (stepP u m)) := by
 have HC := Lib.hid (And.intro h (And.intro H (And.intro M (And.intro R (And.intro hu (And.intro hcl (And.intro hF (And.intro hcn (And.intro hol har)))))))))
 have HP := Lib.hid R.pos
 have HD := Lib.hid M.dep
 have HFR := Lib.hid (frs_in H M (k := tpN m) (by have := R.pos; unfold tpN; omega))
 have HOP := Lib.hid hop
 clear h H M R hu hcl hF hcn hol har hop
 go_enter Tryz.func13, Tryz.ntmps13
 go_wp2_with fail
 refine (rTop_any HC.out.1 HP.out HD.out).mono ?_
 rintro E W2 ⟨rfl, b2⟩
 have HM2 := Lib.hid (HC.out.1.below b2)
 have HB2 := Lib.hid b2
 clear b2
 obtain ⟨x, hx⟩ : ∃ x, x = isOf u (tp m) := ⟨_, rfl⟩
 obtain ⟨F, hF⟩ : ∃ F, F = (tp m).f := ⟨_, rfl⟩
 obtain ⟨I, hI⟩ : ∃ I, I = (tp m).i := ⟨_, rfl⟩
 obtain ⟨t, ht⟩ : ∃ t, t = tpN m := ⟨_, rfl⟩
 have HFI := Lib.hid (And.intro (And.intro hF hI) (And.intro ht hx))
 have hxe : x = nth (nth u.fs F).cd I := by rw [hx, hF, hI]; rfl
 obtain ⟨fa, fc, xa, xc, v7, hv1, jf, ji, hv7, hz⟩ := code_at (f := F) (i := I) HC.out.2.2.2.2.1.2 (by rw [hF]; exact HFR.out.1) (by rw [hF, hI]; exact HFR.out.2.1)
 rw [← hxe] at hv7 hz
 obtain ⟨aa, ac, rfl⟩ := hv7.shape
 obtain ⟨an, han⟩ : ∃ an, an = x.ar.length := ⟨_, rfl⟩
 rw [← han] at hv7 hz
 obtain ⟨FL, hFL⟩ : ∃ FL, FL = u.fs.length := ⟨_, rfl⟩
 obtain ⟨L, hL⟩ : ∃ L, L = (nth u.fs F).cd.length := ⟨_, rfl⟩
 rw [← hFL] at hv1 jf
 rw [← hL] at ji hz
 have HXW := Lib.hid (show ∀ W, Below W2.heap.size W2 W → (W.cell? ⟨b, 1, none⟩ = some (.slice fa FL fc) ∧ W.cell? ⟨blk y.fs.a, ofs y.fs.a + t * 8, none⟩ = some (.int .i64 (F : Int)) ∧ W.cell? ⟨blk y.fs.a, ofs y.fs.a + t * 8 + 1, none⟩ = some (.int .i64 (I : Int)) ∧ W.cell? ⟨blk fa, ofs fa + F * 7 + 6, none⟩ = some (.slice xa L xc)) ∧
   W.cell? ⟨blk xa, ofs xa + I * 10, none⟩ = some (.int .i64 x.op) ∧ W.cell? ⟨blk xa, ofs xa + I * 10 + 1, none⟩ = some (.int .i64 x.d) ∧ W.cell? ⟨blk xa, ofs xa + I * 10 + 2, none⟩ = some (.int .i64 x.a) ∧ W.cell? ⟨blk xa, ofs xa + I * 10 + 3, none⟩ = some (.int .i64 x.b) ∧ W.cell? ⟨blk xa, ofs xa + I * 10 + 4, none⟩ = some (.int .i64 x.n) ∧ W.cell? ⟨blk xa, ofs xa + I * 10 + 5, none⟩ = some (.string x.c) ∧ W.cell? ⟨blk xa, ofs xa + I * 10 + 6, none⟩ = some (.string x.m) ∧ W.cell? ⟨blk xa, ofs xa + I * 10 + 7, none⟩ = some (.slice aa an ac) ∧ W.cell? ⟨blk xa, ofs xa + I * 10 + 8, none⟩ = some (.int .i64 x.g) ∧ W.cell? ⟨blk xa, ofs xa + I * 10 + 9, none⟩ = some (.int .i64 x.ct) from fun W hW => by
  have hMW := HM2.out.below hW
  obtain ⟨q0, q1, -⟩ := hMW.rdT HP.out
  rw [← ht, ← hF] at q0
  rw [← ht, ← hI] at q1
  have c1 := hMW.bx 1 _ rfl
  rw [hv1] at c1
  obtain ⟨p6, hc⟩ := hz W hMW.bel
  exact ⟨⟨c1, q0, q1, p6⟩, hc 0 _ rfl, hc 1 _ rfl, hc 2 _ rfl, hc 3 _ rfl, hc 4 _ rfl, hc 5 _ rfl, hc 6 _ rfl, hc 7 _ rfl, hc 8 _ rfl, hc 9 _ rfl⟩)
 have HV7 := Lib.hid (And.intro hv7 han)
 rw [← ht]
 clear hx hF hI ht hxe hv1 hv7 hz han hFL hL
 go_upto_region 2 with fail
 refine wp_region_plan (.take 0 (.take 1 (.take 2 (.take 3 (.take 4 (.take 5 (.take 6 (.take 7 (.take 8 (.take 9 (.take 10 (.take 11 (.take 12 (.take 13 (.take 14 (.take 15 (.take 16 (.take 17 (.alt 18 (.alt 19 .done .stop) .stop))))))))))))))))))) (fun w' => Below W2.heap.size W2 w') (by kernel_rfl) (by kernel_rfl) (by kernel_rfl) (by kernel_rfl) ((Below.refl _ _).drew) ?_
 have HY := Lib.hid ((Below.refl W2.heap.size W2).drew)
 generalize W2.drew = V at *
 repeat (
  refine plan_take (v := ?_) rfl (Or.inl ⟨by rfl, ?_⟩) ?_
  rotate_left
  ·(intro W hW; obtain ⟨⟨c1, q0, q1, p6⟩, z0, z1, z2, z3, z4, z5, z6, z7, z8, z9⟩ := HXW.out W hW; (try go_simp); try with_reducible rfl)
  simp only [Act.put, List.setIfInBounds_toArray, List.getElem_toArray, List.getElem_cons_zero, List.getElem_cons_succ, List.set_cons_succ, List.set_cons_zero])
 clear jf ji
 refine plan_alt rfl ?_ plan_stop
 go_wp2_with fail
 refine tail_mk (HY.out.alloc HY.out.size _) ?_
 refine plan_alt rfl ?_ plan_stop
 go_wp2_with fail
 refine tail_mk (HY.out.alloc HY.out.size _) ?_
 refine plan_done ?_
 go_upto_region 3 with fail
 have HMV := Lib.hid (HM2.out.below HY.out)
 refine gen_code (fun Z' => Env V [fkC V.heap.size (isC' x (.slice aa an ac))] Z') ((Env.refl V).alloc (isC' x (.slice aa an ac)) 79) ?_
 intro Z3 hZ3
 obtain ⟨bx, hbx⟩ : ∃ b, b = V.heap.size := ⟨_, rfl⟩
 have hbn : y.rl bx = .no := HMV.out.rlo _ (by omega)
 have HB := Lib.hid (And.intro hbn hbx)
 rw [← hbx] at hZ3 ⊢
 have H3 := Lib.hid hZ3
 have HM3 := Lib.hid (HMV.out.below hZ3.bel)
 have e0 := hZ3.cell 0 rfl 0 rfl
 clear hZ3 hbx hbn HXW HM2 HMV
 have HA := Lib.hid (show RdV u (tp m) x.a by
  rw [HFI.out.2.2]
  have h1 := a_in HC.out.2.1 HC.out.2.2.1 HC.out.2.2.2.1 (by rw [HOP.out]; rfl) (by rw [HOP.out]; decide)
  exact ⟨h1.1, by rw [vars_len HC.out.2.2.1 HC.out.2.2.2.1]; exact h1.2, h1.2⟩)
 have hop : x.op = 11 := by rw [HFI.out.2.2, HOP.out]
 have t0 : (x.op == 0) = false := by rw [hop]; rfl
 have t11 : (x.op == 11) = true := by rw [hop]; rfl
 obtain ⟨v, hv⟩ : ∃ v, v = rd u (tp m) x.a := ⟨_, rfl⟩
 have HV := Lib.hid hv
 have HT := Lib.hid (show stepP u m = if v.n ≠ 0 then (goN m x.g.toNat, 0) else (goN m (I + 1), 0) by unfold stepP; dsimp only; rw [if_neg (by rw [HOP.out]; decide), if_pos HOP.out, HFI.out.1.2, hv, HFI.out.2.2])
 have hg0 : 0 ≤ x.g := by
  rw [HFI.out.2.2]
  exact (((HC.out.2.2.1.top HP.out).iok HC.out.2.1).rng.g (by show hasB (isOf u (tp m)).op 103 = true; rw [HOP.out]; rfl)).1
 obtain ⟨g, hg⟩ : ∃ g : Nat, x.g = (g : Int) := ⟨x.g.toNat, by omega⟩
 have HG := Lib.hid (And.intro (show x.g.toNat = g by omega) hg)
 have e2 := H3.out.cell 0 rfl 2 rfl
 have hfld := fldV1
 clear hop hv hg0 hg
 go_wp2_with fail
 refine (rRead_any HM3.out HP.out HD.out HC.out.2.2.2.2.1.2 HFR.out.1 HA.out.1 HA.out.2.1 HA.out.2.2).mono ?_
 rintro E W5 ⟨rfl, b5⟩
 rw [← HV.out]
 have HM5 := Lib.hid (HM3.out.below b5)
 have e8 : W5.cell? ⟨bx, 8, none⟩ = some (.int .i64 (g : Int)) := by rw [← HG.out.2]; exact (H3.out.below b5).cell 0 rfl 8 rfl
 obtain ⟨-, q1a, -⟩ := HM5.out.rdT HP.out
 rw [← HFI.out.2.1, ← HFI.out.1.2] at q1a
 clear b5 e0 e2
 by_cases hb : v.n = 0
 ·have t1 : (v.n == 0) = true := by simp [hb]
  have t2 : (v.n != 0) = false := by simp [hb]
  have HB0 := Lib.hid hb
  have hi9 : I ≤ 1048576 := by rw [HFI.out.1.2]; exact HFR.out.2.2
  obtain ⟨f1, hM13, -⟩ := HM5.out.setAt HP.out (I + 1)
  rw [← HFI.out.2.1] at f1 hM13
  have HE := Lib.hid hM13
  clear hM13 hb
  go_wp2_with fail
  go_ret
  exact ⟨by rw [HT.out, if_neg (fun h => h HB0.out)]; try rfl, y, by rw [HT.out, if_neg (fun h => h HB0.out)]; exact HE.out, rfl⟩
 ·have t1 : (v.n == 0) = false := by simpa using hb
  have t2 : (v.n != 0) = true := by simpa using hb
  have HB0 := Lib.hid hb
  obtain ⟨f1, hM13, -⟩ := HM5.out.setAt HP.out g
  rw [← HFI.out.2.1] at f1 hM13
  have HE := Lib.hid hM13
  clear hM13 hb
  go_wp2_with fail
  go_ret
  exact ⟨by rw [HT.out, if_pos HB0.out]; try rfl, y, by rw [HT.out, if_pos HB0.out, HG.out.1]; exact HE.out, rfl⟩
set_option maxHeartbeats 6400000 in
set_option maxRecDepth 8000 in
include h H M R hu hcl hF hcn hol har in
theorem rStepM_any (hop : (isOf u (tp m)).op = 7 ∨ (isOf u (tp m)).op = 8) : Calls Tryz.prog 13 #[.pointer (some ⟨b, 0, none⟩)] Z (StpR W0 u v0 v1 b y (stepP u m)) := by
 have HC := Lib.hid (And.intro h (And.intro H (And.intro M (And.intro R (And.intro hu (And.intro hcl (And.intro hF (And.intro hcn (And.intro hol har)))))))))
 have HP := Lib.hid R.pos
 have HD := Lib.hid M.dep
 have HFR := Lib.hid (frs_in H M (k := tpN m) (by have := R.pos; unfold tpN; omega))
 have HOP := Lib.hid hop
 clear h H M R hu hcl hF hcn hol har hop
 go_enter Tryz.func13, Tryz.ntmps13
 go_wp2_with fail
 refine (rTop_any HC.out.1 HP.out HD.out).mono ?_
 rintro E W2 ⟨rfl, b2⟩
 have HM2 := Lib.hid (HC.out.1.below b2)
 have HB2 := Lib.hid b2
 clear b2
 obtain ⟨x, hx⟩ : ∃ x, x = isOf u (tp m) := ⟨_, rfl⟩
 obtain ⟨F, hF⟩ : ∃ F, F = (tp m).f := ⟨_, rfl⟩
 obtain ⟨I, hI⟩ : ∃ I, I = (tp m).i := ⟨_, rfl⟩
 obtain ⟨t, ht⟩ : ∃ t, t = tpN m := ⟨_, rfl⟩
 have HFI := Lib.hid (And.intro (And.intro hF hI) (And.intro ht hx))
 have hxe : x = nth (nth u.fs F).cd I := by rw [hx, hF, hI]; rfl
 obtain ⟨fa, fc, xa, xc, v7, hv1, jf, ji, hv7, hz⟩ := code_at (f := F) (i := I) HC.out.2.2.2.2.1.2 (by rw [hF]; exact HFR.out.1) (by rw [hF, hI]; exact HFR.out.2.1)
 rw [← hxe] at hv7 hz
 obtain ⟨aa, ac, rfl⟩ := hv7.shape
 obtain ⟨an, han⟩ : ∃ an, an = x.ar.length := ⟨_, rfl⟩
 rw [← han] at hv7 hz
 obtain ⟨FL, hFL⟩ : ∃ FL, FL = u.fs.length := ⟨_, rfl⟩
 obtain ⟨L, hL⟩ : ∃ L, L = (nth u.fs F).cd.length := ⟨_, rfl⟩
 rw [← hFL] at hv1 jf
 rw [← hL] at ji hz
 have HXW := Lib.hid (show ∀ W, Below W2.heap.size W2 W → (W.cell? ⟨b, 1, none⟩ = some (.slice fa FL fc) ∧ W.cell? ⟨blk y.fs.a, ofs y.fs.a + t * 8, none⟩ = some (.int .i64 (F : Int)) ∧ W.cell? ⟨blk y.fs.a, ofs y.fs.a + t * 8 + 1, none⟩ = some (.int .i64 (I : Int)) ∧ W.cell? ⟨blk fa, ofs fa + F * 7 + 6, none⟩ = some (.slice xa L xc)) ∧
   W.cell? ⟨blk xa, ofs xa + I * 10, none⟩ = some (.int .i64 x.op) ∧ W.cell? ⟨blk xa, ofs xa + I * 10 + 1, none⟩ = some (.int .i64 x.d) ∧ W.cell? ⟨blk xa, ofs xa + I * 10 + 2, none⟩ = some (.int .i64 x.a) ∧ W.cell? ⟨blk xa, ofs xa + I * 10 + 3, none⟩ = some (.int .i64 x.b) ∧ W.cell? ⟨blk xa, ofs xa + I * 10 + 4, none⟩ = some (.int .i64 x.n) ∧ W.cell? ⟨blk xa, ofs xa + I * 10 + 5, none⟩ = some (.string x.c) ∧ W.cell? ⟨blk xa, ofs xa + I * 10 + 6, none⟩ = some (.string x.m) ∧ W.cell? ⟨blk xa, ofs xa + I * 10 + 7, none⟩ = some (.slice aa an ac) ∧ W.cell? ⟨blk xa, ofs xa + I * 10 + 8, none⟩ = some (.int .i64 x.g) ∧ W.cell? ⟨blk xa, ofs xa + I * 10 + 9, none⟩ = some (.int .i64 x.ct) from fun W hW => by
  have hMW := HM2.out.below hW
  obtain ⟨q0, q1, -⟩ := hMW.rdT HP.out
  rw [← ht, ← hF] at q0
  rw [← ht, ← hI] at q1
  have c1 := hMW.bx 1 _ rfl
  rw [hv1] at c1
  obtain ⟨p6, hc⟩ := hz W hMW.bel
  exact ⟨⟨c1, q0, q1, p6⟩, hc 0 _ rfl, hc 1 _ rfl, hc 2 _ rfl, hc 3 _ rfl, hc 4 _ rfl, hc 5 _ rfl, hc 6 _ rfl, hc 7 _ rfl, hc 8 _ rfl, hc 9 _ rfl⟩)
 have HV7 := Lib.hid (And.intro hv7 han)
 rw [← ht]
 clear hx hF hI ht hxe hv1 hv7 hz han hFL hL
 go_upto_region 2 with fail
 refine wp_region_plan (.take 0 (.take 1 (.take 2 (.take 3 (.take 4 (.take 5 (.take 6 (.take 7 (.take 8 (.take 9 (.take 10 (.take 11 (.take 12 (.take 13 (.take 14 (.take 15 (.take 16 (.take 17 (.alt 18 (.alt 19 .done .stop) .stop))))))))))))))))))) (fun w' => Below W2.heap.size W2 w') (by kernel_rfl) (by kernel_rfl) (by kernel_rfl) (by kernel_rfl) ((Below.refl _ _).drew) ?_
 have HY := Lib.hid ((Below.refl W2.heap.size W2).drew)
 generalize W2.drew = V at *
 repeat (
  refine plan_take (v := ?_) rfl (Or.inl ⟨by rfl, ?_⟩) ?_
  rotate_left
  ·(intro W hW; obtain ⟨⟨c1, q0, q1, p6⟩, z0, z1, z2, z3, z4, z5, z6, z7, z8, z9⟩ := HXW.out W hW; (try go_simp); try with_reducible rfl)
  simp only [Act.put, List.setIfInBounds_toArray, List.getElem_toArray, List.getElem_cons_zero, List.getElem_cons_succ, List.set_cons_succ, List.set_cons_zero])
 clear jf ji
 refine plan_alt rfl ?_ plan_stop
 go_wp2_with fail
 refine tail_mk (HY.out.alloc HY.out.size _) ?_
 refine plan_alt rfl ?_ plan_stop
 go_wp2_with fail
 refine tail_mk (HY.out.alloc HY.out.size _) ?_
 refine plan_done ?_
 go_upto_region 3 with fail
 have HMV := Lib.hid (HM2.out.below HY.out)
 refine gen_code (fun Z' => Env V [fkC V.heap.size (isC' x (.slice aa an ac))] Z') ((Env.refl V).alloc (isC' x (.slice aa an ac)) 79) ?_
 intro Z3 hZ3
 obtain ⟨bx, hbx⟩ : ∃ b, b = V.heap.size := ⟨_, rfl⟩
 have hbn : y.rl bx = .no := HMV.out.rlo _ (by omega)
 have HB := Lib.hid (And.intro hbn hbx)
 rw [← hbx] at hZ3 ⊢
 have H3 := Lib.hid hZ3
 have HM3 := Lib.hid (HMV.out.below hZ3.bel)
 have e0 := hZ3.cell 0 rfl 0 rfl
 clear hZ3 hbx hbn HXW HM2 HMV
 have HA := Lib.hid (show RdV u (tp m) x.a by
  rw [HFI.out.2.2]
  have h1 := a_in HC.out.2.1 HC.out.2.2.1 HC.out.2.2.2.1 (by rcases HOP.out with e | e <;> rw [e] <;> rfl) (by have := HOP.out; omega)
  exact ⟨h1.1, by rw [vars_len HC.out.2.2.1 HC.out.2.2.2.1]; exact h1.2, h1.2⟩)
 have HOR := Lib.hid (show x.op = 7 ∨ x.op = 8 by rw [HFI.out.2.2]; exact HOP.out)
 have HR := Lib.hid (show (rd u (tp m) x.a).k = 3 → 0 ≤ (rd u (tp m) x.a).n ∧ (rd u (tp m) x.a).n < m.hp.length ∧ slotOf m (rd u (tp m) x.a) x.m < (nth m.hp (rd u (tp m) x.a).n.toNat).sl.length by
  rw [HFI.out.2.2]; exact slot_in HC.out.2.1 HC.out.2.2.1 HC.out.2.2.2.1 HOP.out)
 have H7 := Lib.hid (show x.op = 7 → 0 ≤ x.d ∧ x.d < (tp m).vs.length by
  rw [HFI.out.2.2, vars_len HC.out.2.2.1 HC.out.2.2.2.1]
  exact fun e => d_in HC.out.2.1 HC.out.2.2.1 HC.out.2.2.2.1 (by rw [e]; rfl) (by rw [e]; decide) (by rw [e]; decide))
 have H8 := Lib.hid (show x.op = 8 → RdV u (tp m) x.b by
  rw [HFI.out.2.2]
  intro e
  have h1 := ((HC.out.2.2.1.top HP.out).iok HC.out.2.1).rng.b (by show hasB (isOf u (tp m)).op 98 = true; rw [e]; rfl)
  exact ⟨h1.1, by rw [vars_len HC.out.2.2.1 HC.out.2.2.2.1]; exact h1.2, h1.2⟩)
 have HT := Lib.hid (show stepP u m = memP u m x by
  unfold stepP; dsimp only
  rw [if_neg (by have := HOP.out; omega), if_neg (by have := HOP.out; omega), if_neg (by have := HOP.out; omega), if_pos HOP.out, HFI.out.2.2])
 have t0 : (x.op == 0) = false := by rcases HOR.out with e | e <;> rw [e] <;> rfl
 have t11 : (x.op == 11) = false := by rcases HOR.out with e | e <;> rw [e] <;> rfl
 have t12 : (x.op == 12) = false := by rcases HOR.out with e | e <;> rw [e] <;> rfl
 by_cases hop : x.op = 7
 ·have t7 : (x.op == 7) = true := by rw [hop]; rfl
  clear hop
  have e1 := H3.out.cell 0 rfl 1 rfl
  have e2 := H3.out.cell 0 rfl 2 rfl
  have e3 := H3.out.cell 0 rfl 3 rfl
  have e4 := H3.out.cell 0 rfl 4 rfl
  have e5 := H3.out.cell 0 rfl 5 rfl
  have e6 := H3.out.cell 0 rfl 6 rfl
  have e7 := H3.out.cell 0 rfl 7 rfl
  have e8 := H3.out.cell 0 rfl 8 rfl
  have e9 := H3.out.cell 0 rfl 9 rfl
  go_wp2_with fail
  refine (rMemory_any HM3.out HP.out HD.out HC.out.2.2.2.2.1.2 HFR.out.1 HFR.out.2.2 x (.slice aa an ac) HV7.out.1 HOR.out HA.out HR.out H7.out H8.out).mono ?_
  rintro E W5 ⟨rfl, y', hM5, hen⟩
  have H5 := Lib.hid (And.intro hM5 hen)
  clear hM5 hen e0 e1 e2 e3 e4 e5 e6 e7 e8 e9
  go_wp2_with fail
  go_ret
  exact ⟨by rw [HT.out]; try rfl, y', by rw [HT.out]; exact H5.out.1, H5.out.2⟩
 ·have t7 : (x.op == 7) = false := by simpa using hop
  have t8 : (x.op == 8) = true := by rcases HOR.out with e | e; exact absurd e hop; rw [e]; rfl
  clear hop
  have e1 := H3.out.cell 0 rfl 1 rfl
  have e2 := H3.out.cell 0 rfl 2 rfl
  have e3 := H3.out.cell 0 rfl 3 rfl
  have e4 := H3.out.cell 0 rfl 4 rfl
  have e5 := H3.out.cell 0 rfl 5 rfl
  have e6 := H3.out.cell 0 rfl 6 rfl
  have e7 := H3.out.cell 0 rfl 7 rfl
  have e8 := H3.out.cell 0 rfl 8 rfl
  have e9 := H3.out.cell 0 rfl 9 rfl
  go_wp2_with fail
  refine (rMemory_any HM3.out HP.out HD.out HC.out.2.2.2.2.1.2 HFR.out.1 HFR.out.2.2 x (.slice aa an ac) HV7.out.1 HOR.out HA.out HR.out H7.out H8.out).mono ?_
  rintro E W5 ⟨rfl, y', hM5, hen⟩
  have H5 := Lib.hid (And.intro hM5 hen)
  clear hM5 hen e0 e1 e2 e3 e4 e5 e6 e7 e8 e9
  go_wp2_with fail
  go_ret
  exact ⟨by rw [HT.out]; try rfl, y', by rw [HT.out]; exact H5.out.1, H5.out.2⟩
set_option maxHeartbeats 6400000 in
set_option maxRecDepth 8000 in
include h H M R hu hcl hF hcn hol har in
theorem rStepC_any (hop : (isOf u (tp m)).op = 9 ∨ (isOf u (tp m)).op = 10) : Calls Tryz.prog 13 #[.pointer (some ⟨b, 0, none⟩)] Z (StpR W0 u v0 v1 b y (stepP u m)) := by
 have HC := Lib.hid (And.intro h (And.intro H (And.intro M (And.intro R (And.intro hu (And.intro hcl (And.intro hF (And.intro hcn (And.intro hol har)))))))))
 have HP := Lib.hid R.pos
 have HD := Lib.hid M.dep
 have HFR := Lib.hid (frs_in H M (k := tpN m) (by have := R.pos; unfold tpN; omega))
 have HOP := Lib.hid hop
 clear h H M R hu hcl hF hcn hol har hop
 go_enter Tryz.func13, Tryz.ntmps13
 go_wp2_with fail
 refine (rTop_any HC.out.1 HP.out HD.out).mono ?_
 rintro E W2 ⟨rfl, b2⟩
 have HM2 := Lib.hid (HC.out.1.below b2)
 have HB2 := Lib.hid b2
 clear b2
 obtain ⟨x, hx⟩ : ∃ x, x = isOf u (tp m) := ⟨_, rfl⟩
 obtain ⟨F, hF⟩ : ∃ F, F = (tp m).f := ⟨_, rfl⟩
 obtain ⟨I, hI⟩ : ∃ I, I = (tp m).i := ⟨_, rfl⟩
 obtain ⟨t, ht⟩ : ∃ t, t = tpN m := ⟨_, rfl⟩
 have HFI := Lib.hid (And.intro (And.intro hF hI) (And.intro ht hx))
 have hxe : x = nth (nth u.fs F).cd I := by rw [hx, hF, hI]; rfl
 obtain ⟨fa, fc, xa, xc, v7, hv1, jf, ji, hv7, hz⟩ := code_at (f := F) (i := I) HC.out.2.2.2.2.1.2 (by rw [hF]; exact HFR.out.1) (by rw [hF, hI]; exact HFR.out.2.1)
 rw [← hxe] at hv7 hz
 obtain ⟨aa, ac, rfl⟩ := hv7.shape
 obtain ⟨an, han⟩ : ∃ an, an = x.ar.length := ⟨_, rfl⟩
 rw [← han] at hv7 hz
 obtain ⟨FL, hFL⟩ : ∃ FL, FL = u.fs.length := ⟨_, rfl⟩
 obtain ⟨L, hL⟩ : ∃ L, L = (nth u.fs F).cd.length := ⟨_, rfl⟩
 rw [← hFL] at hv1 jf
 rw [← hL] at ji hz
 have HXW := Lib.hid (show ∀ W, Below W2.heap.size W2 W → (W.cell? ⟨b, 1, none⟩ = some (.slice fa FL fc) ∧ W.cell? ⟨blk y.fs.a, ofs y.fs.a + t * 8, none⟩ = some (.int .i64 (F : Int)) ∧ W.cell? ⟨blk y.fs.a, ofs y.fs.a + t * 8 + 1, none⟩ = some (.int .i64 (I : Int)) ∧ W.cell? ⟨blk fa, ofs fa + F * 7 + 6, none⟩ = some (.slice xa L xc)) ∧
   W.cell? ⟨blk xa, ofs xa + I * 10, none⟩ = some (.int .i64 x.op) ∧ W.cell? ⟨blk xa, ofs xa + I * 10 + 1, none⟩ = some (.int .i64 x.d) ∧ W.cell? ⟨blk xa, ofs xa + I * 10 + 2, none⟩ = some (.int .i64 x.a) ∧ W.cell? ⟨blk xa, ofs xa + I * 10 + 3, none⟩ = some (.int .i64 x.b) ∧ W.cell? ⟨blk xa, ofs xa + I * 10 + 4, none⟩ = some (.int .i64 x.n) ∧ W.cell? ⟨blk xa, ofs xa + I * 10 + 5, none⟩ = some (.string x.c) ∧ W.cell? ⟨blk xa, ofs xa + I * 10 + 6, none⟩ = some (.string x.m) ∧ W.cell? ⟨blk xa, ofs xa + I * 10 + 7, none⟩ = some (.slice aa an ac) ∧ W.cell? ⟨blk xa, ofs xa + I * 10 + 8, none⟩ = some (.int .i64 x.g) ∧ W.cell? ⟨blk xa, ofs xa + I * 10 + 9, none⟩ = some (.int .i64 x.ct) from fun W hW => by
  have hMW := HM2.out.below hW
  obtain ⟨q0, q1, -⟩ := hMW.rdT HP.out
  rw [← ht, ← hF] at q0
  rw [← ht, ← hI] at q1
  have c1 := hMW.bx 1 _ rfl
  rw [hv1] at c1
  obtain ⟨p6, hc⟩ := hz W hMW.bel
  exact ⟨⟨c1, q0, q1, p6⟩, hc 0 _ rfl, hc 1 _ rfl, hc 2 _ rfl, hc 3 _ rfl, hc 4 _ rfl, hc 5 _ rfl, hc 6 _ rfl, hc 7 _ rfl, hc 8 _ rfl, hc 9 _ rfl⟩)
 have HV7 := Lib.hid (And.intro hv7 han)
 rw [← ht]
 clear hx hF hI ht hxe hv1 hv7 hz han hFL hL
 go_upto_region 2 with fail
 refine wp_region_plan (.take 0 (.take 1 (.take 2 (.take 3 (.take 4 (.take 5 (.take 6 (.take 7 (.take 8 (.take 9 (.take 10 (.take 11 (.take 12 (.take 13 (.take 14 (.take 15 (.take 16 (.take 17 (.alt 18 (.alt 19 .done .stop) .stop))))))))))))))))))) (fun w' => Below W2.heap.size W2 w') (by kernel_rfl) (by kernel_rfl) (by kernel_rfl) (by kernel_rfl) ((Below.refl _ _).drew) ?_
 have HY := Lib.hid ((Below.refl W2.heap.size W2).drew)
 generalize W2.drew = V at *
 repeat (
  refine plan_take (v := ?_) rfl (Or.inl ⟨by rfl, ?_⟩) ?_
  rotate_left
  ·(intro W hW; obtain ⟨⟨c1, q0, q1, p6⟩, z0, z1, z2, z3, z4, z5, z6, z7, z8, z9⟩ := HXW.out W hW; (try go_simp); try with_reducible rfl)
  simp only [Act.put, List.setIfInBounds_toArray, List.getElem_toArray, List.getElem_cons_zero, List.getElem_cons_succ, List.set_cons_succ, List.set_cons_zero])
 clear jf ji
 refine plan_alt rfl ?_ plan_stop
 go_wp2_with fail
 refine tail_mk (HY.out.alloc HY.out.size _) ?_
 refine plan_alt rfl ?_ plan_stop
 go_wp2_with fail
 refine tail_mk (HY.out.alloc HY.out.size _) ?_
 refine plan_done ?_
 go_upto_region 3 with fail
 have HMV := Lib.hid (HM2.out.below HY.out)
 refine gen_code (fun Z' => Env V [fkC V.heap.size (isC' x (.slice aa an ac))] Z') ((Env.refl V).alloc (isC' x (.slice aa an ac)) 79) ?_
 intro Z3 hZ3
 obtain ⟨bx, hbx⟩ : ∃ b, b = V.heap.size := ⟨_, rfl⟩
 have hbn : y.rl bx = .no := HMV.out.rlo _ (by omega)
 have HB := Lib.hid (And.intro hbn hbx)
 rw [← hbx] at hZ3 ⊢
 have H3 := Lib.hid hZ3
 have HM3 := Lib.hid (HMV.out.below hZ3.bel)
 have e0 := hZ3.cell 0 rfl 0 rfl
 clear hZ3 hbx hbn HXW HM2 HMV
 have HOR := Lib.hid (show x.op = 9 ∨ x.op = 10 by rw [HFI.out.2.2]; exact HOP.out)
 have HA := Lib.hid (show x.op = 9 → RdV u (tp m) x.a by
  rw [HFI.out.2.2]
  intro e
  have h1 := a_in HC.out.2.1 HC.out.2.2.1 HC.out.2.2.2.1 (by rw [e]; rfl) (by rw [e]; decide)
  exact ⟨h1.1, by rw [vars_len HC.out.2.2.1 HC.out.2.2.2.1]; exact h1.2, h1.2⟩)
 have HR := Lib.hid (show x.op = 9 → (rd u (tp m) x.a).k = 3 → 0 ≤ (rd u (tp m) x.a).n ∧ (rd u (tp m) x.a).n < m.hp.length by
  rw [HFI.out.2.2]; exact recv_ok HC.out.2.1 HC.out.2.2.1 HC.out.2.2.2.1)
 have HAR := Lib.hid (show ∀ v ∈ x.ar, RdV u (tp m) v by
  rw [HFI.out.2.2]
  intro v hv
  have h1 := ((HC.out.2.2.1.top HP.out).iok HC.out.2.1).rng.l (by show hasB (isOf u (tp m)).op 108 = true; rcases HOP.out with e | e <;> rw [e] <;> rfl) v hv
  exact ⟨h1.1, by rw [vars_len HC.out.2.2.1 HC.out.2.2.2.1]; exact h1.2, h1.2⟩)
 have HCE := Lib.hid (show ¬ (x.op = 9 ∧ (rd u (tp m) x.a).k ≠ 3) → ∃ fn : Nat, callee u m x = (fn : Int) ∧ fn < u.fs.length ∧ (nth u.fs fn).vs.length ≤ 256 ∧ (args u m x).length ≤ (nth u.fs fn).vs.length by
  rw [HFI.out.2.2]; exact callee_ok HC.out.2.1 HC.out.2.2.1 HC.out.2.2.2.1 HOP.out)
 have HNL := Lib.hid (show m.n ≤ 1048576 by have h1 := HC.out.2.2.2.1.nl; have h2 := HC.out.2.2.2.2.2.2.2.2.1; omega)
 have HAL := Lib.hid (show x.ar.length ≤ 1048576 by
  rw [HFI.out.2.2]
  exact HC.out.2.2.2.2.2.2.2.2.2 (fnOf u (tp m)) (nth_mem _ _ HFR.out.1) _ (nth_mem _ _ HFR.out.2.1))
 have HT := Lib.hid (show stepP u m = callP u m x by
  unfold stepP; dsimp only
  rw [if_neg (by have := HOP.out; omega), if_neg (by have := HOP.out; omega), if_neg (by have := HOP.out; omega), if_neg (by have := HOP.out; omega), if_pos HOP.out, HFI.out.2.2])
 have t0 : (x.op == 0) = false := by rcases HOR.out with e | e <;> rw [e] <;> rfl
 have t11 : (x.op == 11) = false := by rcases HOR.out with e | e <;> rw [e] <;> rfl
 have t12 : (x.op == 12) = false := by rcases HOR.out with e | e <;> rw [e] <;> rfl
 have t7 : (x.op == 7) = false := by rcases HOR.out with e | e <;> rw [e] <;> rfl
 have t8 : (x.op == 8) = false := by rcases HOR.out with e | e <;> rw [e] <;> rfl
 by_cases hop : x.op = 9
 ·have t9 : (x.op == 9) = true := by rw [hop]; rfl
  clear hop
  have e1 := H3.out.cell 0 rfl 1 rfl
  have e2 := H3.out.cell 0 rfl 2 rfl
  have e3 := H3.out.cell 0 rfl 3 rfl
  have e4 := H3.out.cell 0 rfl 4 rfl
  have e5 := H3.out.cell 0 rfl 5 rfl
  have e6 := H3.out.cell 0 rfl 6 rfl
  have e7 := H3.out.cell 0 rfl 7 rfl
  have e8 := H3.out.cell 0 rfl 8 rfl
  have e9 := H3.out.cell 0 rfl 9 rfl
  go_wp2_with fail
  refine (rCall_any HM3.out HP.out HD.out HC.out.2.2.2.2.1 (by have := HC.out.2.2.2.2.2.1; omega) HFR.out.1 x (.slice aa an ac) HV7.out.1 HOR.out HA.out HR.out HAR.out HCE.out HC.out.2.2.1.nl.1 HNL.out HC.out.2.2.2.2.2.2.2.2.1 HAL.out).mono ?_
  rintro E W5 ⟨rfl, y', hM5, hen⟩
  have H5 := Lib.hid (And.intro hM5 hen)
  clear hM5 hen e0 e1 e2 e3 e4 e5 e6 e7 e8 e9
  go_wp2_with fail
  go_ret
  exact ⟨by rw [HT.out]; try rfl, y', by rw [HT.out]; exact H5.out.1, H5.out.2⟩
 ·have t9 : (x.op == 9) = false := by simpa using hop
  have t10 : (x.op == 10) = true := by rcases HOR.out with e | e; exact absurd e hop; rw [e]; rfl
  clear hop
  have e1 := H3.out.cell 0 rfl 1 rfl
  have e2 := H3.out.cell 0 rfl 2 rfl
  have e3 := H3.out.cell 0 rfl 3 rfl
  have e4 := H3.out.cell 0 rfl 4 rfl
  have e5 := H3.out.cell 0 rfl 5 rfl
  have e6 := H3.out.cell 0 rfl 6 rfl
  have e7 := H3.out.cell 0 rfl 7 rfl
  have e8 := H3.out.cell 0 rfl 8 rfl
  have e9 := H3.out.cell 0 rfl 9 rfl
  go_wp2_with fail
  refine (rCall_any HM3.out HP.out HD.out HC.out.2.2.2.2.1 (by have := HC.out.2.2.2.2.2.1; omega) HFR.out.1 x (.slice aa an ac) HV7.out.1 HOR.out HA.out HR.out HAR.out HCE.out HC.out.2.2.1.nl.1 HNL.out HC.out.2.2.2.2.2.2.2.2.1 HAL.out).mono ?_
  rintro E W5 ⟨rfl, y', hM5, hen⟩
  have H5 := Lib.hid (And.intro hM5 hen)
  clear hM5 hen e0 e1 e2 e3 e4 e5 e6 e7 e8 e9
  go_wp2_with fail
  go_ret
  exact ⟨by rw [HT.out]; try rfl, y', by rw [HT.out]; exact H5.out.1, H5.out.2⟩
set_option maxHeartbeats 6400000 in
set_option maxRecDepth 8000 in
include h H M R hu hcl hF hcn hol har in
theorem rStep13_any (hop : (isOf u (tp m)).op = 13) : Calls Tryz.prog 13 #[.pointer (some ⟨b, 0, none⟩)] Z (StpR W0 u v0 v1 b y (stepP u m)) := by
 have HC := Lib.hid (And.intro h (And.intro H (And.intro M (And.intro R (And.intro hu (And.intro hcl (And.intro hF (And.intro hcn (And.intro hol har)))))))))
 have HP := Lib.hid R.pos
 have HD := Lib.hid M.dep
 have HFR := Lib.hid (frs_in H M (k := tpN m) (by have := R.pos; unfold tpN; omega))
 have HOP := Lib.hid hop
 clear h H M R hu hcl hF hcn hol har hop
 go_enter Tryz.func13, Tryz.ntmps13
 go_wp2_with fail
 refine (rTop_any HC.out.1 HP.out HD.out).mono ?_
 rintro E W2 ⟨rfl, b2⟩
 have HM2 := Lib.hid (HC.out.1.below b2)
 have HB2 := Lib.hid b2
 clear b2
 obtain ⟨x, hx⟩ : ∃ x, x = isOf u (tp m) := ⟨_, rfl⟩
 obtain ⟨F, hF⟩ : ∃ F, F = (tp m).f := ⟨_, rfl⟩
 obtain ⟨I, hI⟩ : ∃ I, I = (tp m).i := ⟨_, rfl⟩
 obtain ⟨t, ht⟩ : ∃ t, t = tpN m := ⟨_, rfl⟩
 have HFI := Lib.hid (And.intro (And.intro hF hI) (And.intro ht hx))
 have hxe : x = nth (nth u.fs F).cd I := by rw [hx, hF, hI]; rfl
 obtain ⟨fa, fc, xa, xc, v7, hv1, jf, ji, hv7, hz⟩ := code_at (f := F) (i := I) HC.out.2.2.2.2.1.2 (by rw [hF]; exact HFR.out.1) (by rw [hF, hI]; exact HFR.out.2.1)
 rw [← hxe] at hv7 hz
 obtain ⟨aa, ac, rfl⟩ := hv7.shape
 obtain ⟨an, han⟩ : ∃ an, an = x.ar.length := ⟨_, rfl⟩
 rw [← han] at hv7 hz
 obtain ⟨FL, hFL⟩ : ∃ FL, FL = u.fs.length := ⟨_, rfl⟩
 obtain ⟨L, hL⟩ : ∃ L, L = (nth u.fs F).cd.length := ⟨_, rfl⟩
 rw [← hFL] at hv1 jf
 rw [← hL] at ji hz
 have HXW := Lib.hid (show ∀ W, Below W2.heap.size W2 W → (W.cell? ⟨b, 1, none⟩ = some (.slice fa FL fc) ∧ W.cell? ⟨blk y.fs.a, ofs y.fs.a + t * 8, none⟩ = some (.int .i64 (F : Int)) ∧ W.cell? ⟨blk y.fs.a, ofs y.fs.a + t * 8 + 1, none⟩ = some (.int .i64 (I : Int)) ∧ W.cell? ⟨blk fa, ofs fa + F * 7 + 6, none⟩ = some (.slice xa L xc)) ∧
   W.cell? ⟨blk xa, ofs xa + I * 10, none⟩ = some (.int .i64 x.op) ∧ W.cell? ⟨blk xa, ofs xa + I * 10 + 1, none⟩ = some (.int .i64 x.d) ∧ W.cell? ⟨blk xa, ofs xa + I * 10 + 2, none⟩ = some (.int .i64 x.a) ∧ W.cell? ⟨blk xa, ofs xa + I * 10 + 3, none⟩ = some (.int .i64 x.b) ∧ W.cell? ⟨blk xa, ofs xa + I * 10 + 4, none⟩ = some (.int .i64 x.n) ∧ W.cell? ⟨blk xa, ofs xa + I * 10 + 5, none⟩ = some (.string x.c) ∧ W.cell? ⟨blk xa, ofs xa + I * 10 + 6, none⟩ = some (.string x.m) ∧ W.cell? ⟨blk xa, ofs xa + I * 10 + 7, none⟩ = some (.slice aa an ac) ∧ W.cell? ⟨blk xa, ofs xa + I * 10 + 8, none⟩ = some (.int .i64 x.g) ∧ W.cell? ⟨blk xa, ofs xa + I * 10 + 9, none⟩ = some (.int .i64 x.ct) from fun W hW => by
  have hMW := HM2.out.below hW
  obtain ⟨q0, q1, -⟩ := hMW.rdT HP.out
  rw [← ht, ← hF] at q0
  rw [← ht, ← hI] at q1
  have c1 := hMW.bx 1 _ rfl
  rw [hv1] at c1
  obtain ⟨p6, hc⟩ := hz W hMW.bel
  exact ⟨⟨c1, q0, q1, p6⟩, hc 0 _ rfl, hc 1 _ rfl, hc 2 _ rfl, hc 3 _ rfl, hc 4 _ rfl, hc 5 _ rfl, hc 6 _ rfl, hc 7 _ rfl, hc 8 _ rfl, hc 9 _ rfl⟩)
 have HV7 := Lib.hid (And.intro hv7 han)
 rw [← ht]
 clear hx hF hI ht hxe hv1 hv7 hz han hFL hL
 go_upto_region 2 with fail
 refine wp_region_plan (.take 0 (.take 1 (.take 2 (.take 3 (.take 4 (.take 5 (.take 6 (.take 7 (.take 8 (.take 9 (.take 10 (.take 11 (.take 12 (.take 13 (.take 14 (.take 15 (.take 16 (.take 17 (.alt 18 (.alt 19 .done .stop) .stop))))))))))))))))))) (fun w' => Below W2.heap.size W2 w') (by kernel_rfl) (by kernel_rfl) (by kernel_rfl) (by kernel_rfl) ((Below.refl _ _).drew) ?_
 have HY := Lib.hid ((Below.refl W2.heap.size W2).drew)
 generalize W2.drew = V at *
 repeat (
  refine plan_take (v := ?_) rfl (Or.inl ⟨by rfl, ?_⟩) ?_
  rotate_left
  ·(intro W hW; obtain ⟨⟨c1, q0, q1, p6⟩, z0, z1, z2, z3, z4, z5, z6, z7, z8, z9⟩ := HXW.out W hW; (try go_simp); try with_reducible rfl)
  simp only [Act.put, List.setIfInBounds_toArray, List.getElem_toArray, List.getElem_cons_zero, List.getElem_cons_succ, List.set_cons_succ, List.set_cons_zero])
 clear jf ji
 refine plan_alt rfl ?_ plan_stop
 go_wp2_with fail
 refine tail_mk (HY.out.alloc HY.out.size _) ?_
 refine plan_alt rfl ?_ plan_stop
 go_wp2_with fail
 refine tail_mk (HY.out.alloc HY.out.size _) ?_
 refine plan_done ?_
 go_upto_region 3 with fail
 have HMV := Lib.hid (HM2.out.below HY.out)
 refine gen_code (fun Z' => Env V [fkC V.heap.size (isC' x (.slice aa an ac))] Z') ((Env.refl V).alloc (isC' x (.slice aa an ac)) 79) ?_
 intro Z3 hZ3
 obtain ⟨bx, hbx⟩ : ∃ b, b = V.heap.size := ⟨_, rfl⟩
 have hbn : y.rl bx = .no := HMV.out.rlo _ (by omega)
 have HB := Lib.hid (And.intro hbn hbx)
 rw [← hbx] at hZ3 ⊢
 have H3 := Lib.hid hZ3
 have HM3 := Lib.hid (HMV.out.below hZ3.bel)
 have e0 := hZ3.cell 0 rfl 0 rfl
 clear hZ3 hbx hbn HXW HM2 HMV
 have hop : x.op = 13 := by rw [HFI.out.2.2, HOP.out]
 have HA := Lib.hid (show x.a ≠ -1 → 0 ≤ x.a ∧ x.a < (tp m).vs.length ∧ x.a < (fnOf u (tp m)).vs.length by
  rw [HFI.out.2.2]
  intro e
  rcases ((HC.out.2.2.1.top HP.out).iok HC.out.2.1).rng.a (by show hasB (isOf u (tp m)).op 97 = true; rw [HOP.out]; rfl) with h1 | ⟨-, h1⟩
  ·exact ⟨h1.1, by rw [vars_len HC.out.2.2.1 HC.out.2.2.2.1]; exact h1.2, h1.2⟩
  ·exact absurd h1 e)
 have HG := Lib.hid (show ∀ k, m.fr.length = k + 2 → (nth m.fr k).f < u.fs.length ∧ (nth m.fr k).i < (fnOf u (nth m.fr k)).cd.length ∧ (nth m.fr k).i ≤ 1048576 ∧ ((isOf u (nth m.fr k)).d ≠ -1 → 0 ≤ (isOf u (nth m.fr k)).d ∧ (isOf u (nth m.fr k)).d < (nth m.fr k).vs.length) from fun k hk => by
  have h1 := frs_in HC.out.2.1 HC.out.2.2.1 (k := k) (by omega)
  exact ⟨h1.1, h1.2.1, h1.2.2, ret_in HC.out.2.1 HC.out.2.2.1 k hk⟩)
 have HT := Lib.hid (show stepP u m = retP u m x by
  unfold stepP; dsimp only
  rw [if_neg (by rw [HOP.out]; decide), if_neg (by rw [HOP.out]; decide), if_neg (by rw [HOP.out]; decide), if_neg (by rw [HOP.out]; decide), if_neg (by rw [HOP.out]; decide), if_pos HOP.out, HFI.out.2.2])
 have t0 : (x.op == 0) = false := by rw [hop]; rfl
 have t11 : (x.op == 11) = false := by rw [hop]; rfl
 have t12 : (x.op == 12) = false := by rw [hop]; rfl
 have t7 : (x.op == 7) = false := by rw [hop]; rfl
 have t8 : (x.op == 8) = false := by rw [hop]; rfl
 have t9 : (x.op == 9) = false := by rw [hop]; rfl
 have t10 : (x.op == 10) = false := by rw [hop]; rfl
 have t13 : (x.op == 13) = true := by rw [hop]; rfl
 clear hop
 have e1 := H3.out.cell 0 rfl 1 rfl
 have e2 := H3.out.cell 0 rfl 2 rfl
 have e3 := H3.out.cell 0 rfl 3 rfl
 have e4 := H3.out.cell 0 rfl 4 rfl
 have e5 := H3.out.cell 0 rfl 5 rfl
 have e6 := H3.out.cell 0 rfl 6 rfl
 have e7 := H3.out.cell 0 rfl 7 rfl
 have e8 := H3.out.cell 0 rfl 8 rfl
 have e9 := H3.out.cell 0 rfl 9 rfl
 go_wp2_with fail
 refine (rLeave_any HM3.out HP.out HD.out HC.out.2.2.2.2.1.2 HFR.out.1 x (.slice aa an ac) HV7.out.1 HA.out HG.out).mono ?_
 rintro E W5 ⟨rfl, y', hM5, hen⟩
 have H5 := Lib.hid (And.intro hM5 hen)
 clear hM5 hen e0 e1 e2 e3 e4 e5 e6 e7 e8 e9
 go_wp2_with fail
 go_ret
 exact ⟨by rw [HT.out]; try rfl, y', by rw [HT.out]; exact H5.out.1, H5.out.2⟩
end
end Go.Proofs.YtnklnklkblgnfaaGreatDoor
end
section
namespace Go.Proofs.YtnklnklkblgnfaaGreatDoor
open Go.RowKit Go.Dfl Go.Obs Go.Hir
open Go.Gra (gen_code gen_calls)
section
variable {W0 : World} {u : Un} {v0 v1 : Value} {b : Nat} {y : Ly} {m : Mch} {Z : World} (h : MM W0.heap.size W0 u v0 v1 b y m Z) (H : UOk u) (M : MT u m) (R : Rcd m) (hu : UnIn W0 v0 v1 u)
 (hcl : u.cs.length ≤ 64) (hF : ∀ d ∈ u.cs, d.fs.length ≤ 1048576) (hcn : cdN u.fs ≤ 1048576) (hol : m.ob.length ≤ 1048576) (har : ∀ f ∈ u.fs, ∀ x ∈ f.cd, x.ar.length ≤ 1048576)
set_option maxHeartbeats 6400000 in
set_option maxRecDepth 8000 in
include h H M R hu hcl hF hcn hol har in
theorem rStep14_any (hop : (isOf u (tp m)).op = 14) : Calls Tryz.prog 13 #[.pointer (some ⟨b, 0, none⟩)] Z (StpR W0 u v0 v1 b y (stepP u m)) := by
 have HC := Lib.hid (And.intro h (And.intro H (And.intro M (And.intro R (And.intro hu (And.intro hcl (And.intro hF (And.intro hcn (And.intro hol har)))))))))
 have HP := Lib.hid R.pos
 have HD := Lib.hid M.dep
 have HFR := Lib.hid (frs_in H M (k := tpN m) (by have := R.pos; unfold tpN; omega))
 have HOP := Lib.hid hop
 clear h H M R hu hcl hF hcn hol har hop
 go_enter Tryz.func13, Tryz.ntmps13
 go_wp2_with fail
 refine (rTop_any HC.out.1 HP.out HD.out).mono ?_
 rintro E W2 ⟨rfl, b2⟩
 have HM2 := Lib.hid (HC.out.1.below b2)
 have HB2 := Lib.hid b2
 clear b2
 obtain ⟨x, hx⟩ : ∃ x, x = isOf u (tp m) := ⟨_, rfl⟩
 obtain ⟨F, hF⟩ : ∃ F, F = (tp m).f := ⟨_, rfl⟩
 obtain ⟨I, hI⟩ : ∃ I, I = (tp m).i := ⟨_, rfl⟩
 obtain ⟨t, ht⟩ : ∃ t, t = tpN m := ⟨_, rfl⟩
 have HFI := Lib.hid (And.intro (And.intro hF hI) (And.intro ht hx))
 have hxe : x = nth (nth u.fs F).cd I := by rw [hx, hF, hI]; rfl
 obtain ⟨fa, fc, xa, xc, v7, hv1, jf, ji, hv7, hz⟩ := code_at (f := F) (i := I) HC.out.2.2.2.2.1.2 (by rw [hF]; exact HFR.out.1) (by rw [hF, hI]; exact HFR.out.2.1)
 rw [← hxe] at hv7 hz
 obtain ⟨aa, ac, rfl⟩ := hv7.shape
 obtain ⟨an, han⟩ : ∃ an, an = x.ar.length := ⟨_, rfl⟩
 rw [← han] at hv7 hz
 obtain ⟨FL, hFL⟩ : ∃ FL, FL = u.fs.length := ⟨_, rfl⟩
 obtain ⟨L, hL⟩ : ∃ L, L = (nth u.fs F).cd.length := ⟨_, rfl⟩
 rw [← hFL] at hv1 jf
 rw [← hL] at ji hz
 have HXW := Lib.hid (show ∀ W, Below W2.heap.size W2 W → (W.cell? ⟨b, 1, none⟩ = some (.slice fa FL fc) ∧ W.cell? ⟨blk y.fs.a, ofs y.fs.a + t * 8, none⟩ = some (.int .i64 (F : Int)) ∧ W.cell? ⟨blk y.fs.a, ofs y.fs.a + t * 8 + 1, none⟩ = some (.int .i64 (I : Int)) ∧ W.cell? ⟨blk fa, ofs fa + F * 7 + 6, none⟩ = some (.slice xa L xc)) ∧
   W.cell? ⟨blk xa, ofs xa + I * 10, none⟩ = some (.int .i64 x.op) ∧ W.cell? ⟨blk xa, ofs xa + I * 10 + 1, none⟩ = some (.int .i64 x.d) ∧ W.cell? ⟨blk xa, ofs xa + I * 10 + 2, none⟩ = some (.int .i64 x.a) ∧ W.cell? ⟨blk xa, ofs xa + I * 10 + 3, none⟩ = some (.int .i64 x.b) ∧ W.cell? ⟨blk xa, ofs xa + I * 10 + 4, none⟩ = some (.int .i64 x.n) ∧ W.cell? ⟨blk xa, ofs xa + I * 10 + 5, none⟩ = some (.string x.c) ∧ W.cell? ⟨blk xa, ofs xa + I * 10 + 6, none⟩ = some (.string x.m) ∧ W.cell? ⟨blk xa, ofs xa + I * 10 + 7, none⟩ = some (.slice aa an ac) ∧ W.cell? ⟨blk xa, ofs xa + I * 10 + 8, none⟩ = some (.int .i64 x.g) ∧ W.cell? ⟨blk xa, ofs xa + I * 10 + 9, none⟩ = some (.int .i64 x.ct) from fun W hW => by
  have hMW := HM2.out.below hW
  obtain ⟨q0, q1, -⟩ := hMW.rdT HP.out
  rw [← ht, ← hF] at q0
  rw [← ht, ← hI] at q1
  have c1 := hMW.bx 1 _ rfl
  rw [hv1] at c1
  obtain ⟨p6, hc⟩ := hz W hMW.bel
  exact ⟨⟨c1, q0, q1, p6⟩, hc 0 _ rfl, hc 1 _ rfl, hc 2 _ rfl, hc 3 _ rfl, hc 4 _ rfl, hc 5 _ rfl, hc 6 _ rfl, hc 7 _ rfl, hc 8 _ rfl, hc 9 _ rfl⟩)
 have HV7 := Lib.hid (And.intro hv7 han)
 rw [← ht]
 clear hx hF hI ht hxe hv1 hv7 hz han hFL hL
 go_upto_region 2 with fail
 refine wp_region_plan (.take 0 (.take 1 (.take 2 (.take 3 (.take 4 (.take 5 (.take 6 (.take 7 (.take 8 (.take 9 (.take 10 (.take 11 (.take 12 (.take 13 (.take 14 (.take 15 (.take 16 (.take 17 (.alt 18 (.alt 19 .done .stop) .stop))))))))))))))))))) (fun w' => Below W2.heap.size W2 w') (by kernel_rfl) (by kernel_rfl) (by kernel_rfl) (by kernel_rfl) ((Below.refl _ _).drew) ?_
 have HY := Lib.hid ((Below.refl W2.heap.size W2).drew)
 generalize W2.drew = V at *
 repeat (
  refine plan_take (v := ?_) rfl (Or.inl ⟨by rfl, ?_⟩) ?_
  rotate_left
  ·(intro W hW; obtain ⟨⟨c1, q0, q1, p6⟩, z0, z1, z2, z3, z4, z5, z6, z7, z8, z9⟩ := HXW.out W hW; (try go_simp); try with_reducible rfl)
  simp only [Act.put, List.setIfInBounds_toArray, List.getElem_toArray, List.getElem_cons_zero, List.getElem_cons_succ, List.set_cons_succ, List.set_cons_zero])
 clear jf ji
 refine plan_alt rfl ?_ plan_stop
 go_wp2_with fail
 refine tail_mk (HY.out.alloc HY.out.size _) ?_
 refine plan_alt rfl ?_ plan_stop
 go_wp2_with fail
 refine tail_mk (HY.out.alloc HY.out.size _) ?_
 refine plan_done ?_
 go_upto_region 3 with fail
 have HMV := Lib.hid (HM2.out.below HY.out)
 refine gen_code (fun Z' => Env V [fkC V.heap.size (isC' x (.slice aa an ac))] Z') ((Env.refl V).alloc (isC' x (.slice aa an ac)) 79) ?_
 intro Z3 hZ3
 obtain ⟨bx, hbx⟩ : ∃ b, b = V.heap.size := ⟨_, rfl⟩
 have hbn : y.rl bx = .no := HMV.out.rlo _ (by omega)
 have HB := Lib.hid (And.intro hbn hbx)
 rw [← hbx] at hZ3 ⊢
 have H3 := Lib.hid hZ3
 have HM3 := Lib.hid (HMV.out.below hZ3.bel)
 have e0 := hZ3.cell 0 rfl 0 rfl
 clear hZ3 hbx hbn HXW HM2 HMV
 have hop : x.op = 14 := by rw [HFI.out.2.2, HOP.out]
 have HA := Lib.hid (show RdV u (tp m) x.a by
  rw [HFI.out.2.2]
  have h1 := a_in HC.out.2.1 HC.out.2.2.1 HC.out.2.2.2.1 (by rw [HOP.out]; rfl) (by rw [HOP.out]; decide)
  exact ⟨h1.1, by rw [vars_len HC.out.2.2.1 HC.out.2.2.2.1]; exact h1.2, h1.2⟩)
 obtain ⟨v, hv⟩ : ∃ v, v = rd u (tp m) x.a := ⟨_, rfl⟩
 have HV := Lib.hid hv
 have HT := Lib.hid (show stepP u m = if v.k ≠ 3 then (m, 3) else rsP u m v by
  unfold stepP; dsimp only
  rw [if_neg (by rw [HOP.out]; decide), if_neg (by rw [HOP.out]; decide), if_neg (by rw [HOP.out]; decide), if_neg (by rw [HOP.out]; decide), if_neg (by rw [HOP.out]; decide), if_neg (by rw [HOP.out]; decide), if_pos HOP.out, hv, HFI.out.2.2]; rfl)
 have t0 : (x.op == 0) = false := by rw [hop]; rfl
 have t11 : (x.op == 11) = false := by rw [hop]; rfl
 have t12 : (x.op == 12) = false := by rw [hop]; rfl
 have t7 : (x.op == 7) = false := by rw [hop]; rfl
 have t8 : (x.op == 8) = false := by rw [hop]; rfl
 have t9 : (x.op == 9) = false := by rw [hop]; rfl
 have t10 : (x.op == 10) = false := by rw [hop]; rfl
 have t13 : (x.op == 13) = false := by rw [hop]; rfl
 have t14 : (x.op == 14) = true := by rw [hop]; rfl
 have e2 := H3.out.cell 0 rfl 2 rfl
 clear hop hv
 go_wp2_with fail
 refine (rRead_any HM3.out HP.out HD.out HC.out.2.2.2.2.1.2 HFR.out.1 HA.out.1 HA.out.2.1 HA.out.2.2).mono ?_
 rintro E W5 ⟨rfl, b5⟩
 rw [← HV.out]
 have hM5 := HM3.out.below b5
 have H6 := Lib.hid (And.intro (hM5.below ((Below.refl _ _).alloc (Nat.le_refl _) (.cells #[.int .i64 v.k, .int .i64 v.n, .int .i64 v.s] 50))) (show (fkC W5.heap.size [.int .i64 v.k, .int .i64 v.n, .int .i64 v.s]).p (W5.alloc (.cells #[.int .i64 v.k, .int .i64 v.n, .int .i64 v.s] 50)) from cells_new rfl))
 clear b5 hM5 e0 e2 t0 t11 t12 t7 t8 t9 t10 t13 t14
 go_upto_region 23 with fail
 refine gen_code (fun Z' => MM W0.heap.size W0 u v0 v1 b y m Z' ∧ (fkC W5.heap.size [.int .i64 v.k, .int .i64 v.n, .int .i64 v.s]).p Z') H6.out ?_
 rintro Z4 ⟨hM4, hf4⟩
 obtain ⟨ba, hba⟩ : ∃ b, b = W5.heap.size := ⟨_, rfl⟩
 rw [← hba] at hf4 ⊢
 have a0 := hf4 0 _ rfl
 have a1 := hf4 1 _ rfl
 have a2 := hf4 2 _ rfl
 have HM4 := Lib.hid hM4
 clear hM4 hf4 hba H6
 by_cases hk : v.k = 3
 ·have t1 : (v.k == 3) = true := by simp [hk]
  have t2 : (v.k != 3) = false := by simp [hk]
  have HK := Lib.hid hk
  clear hk
  go_wp2_with fail
  refine (rRaise_any HM4.out HD.out HC.out.2.2.2.2.1.2 (fun j hj => ⟨(frs_in HC.out.2.1 HC.out.2.2.1 hj).1, (frs_in HC.out.2.1 HC.out.2.2.1 hj).2.1⟩) (ct_ok HC.out.2.1) v).mono ?_
  rintro E W6 ⟨rfl, y', hM6, hen⟩
  have H6 := Lib.hid (And.intro hM6 hen)
  clear hM6 hen a0 a1 a2 t1 t2
  go_wp2_with fail
  go_ret
  exact ⟨by rw [HT.out, if_neg (fun h => h HK.out)]; try rfl, y', by rw [HT.out, if_neg (fun h => h HK.out)]; exact H6.out.1, H6.out.2⟩
 ·have t1 : (v.k == 3) = false := by simpa using hk
  have t2 : (v.k != 3) = true := by simpa using hk
  have HK := Lib.hid hk
  clear hk
  go_wp2_with fail
  go_ret
  exact ⟨by rw [HT.out, if_pos HK.out]; try rfl, y, by rw [HT.out, if_pos HK.out]; exact HM4.out, rfl⟩
set_option maxHeartbeats 6400000 in
set_option maxRecDepth 8000 in
include h H M R hu hcl hF hcn hol har in
theorem rStepQ_any (hop : (isOf u (tp m)).op = 1 ∨ (isOf u (tp m)).op = 2 ∨ (isOf u (tp m)).op = 3 ∨ (isOf u (tp m)).op = 4 ∨ (isOf u (tp m)).op = 5 ∨ (isOf u (tp m)).op = 6 ∨ (isOf u (tp m)).op = 16) : Calls Tryz.prog 13 #[.pointer (some ⟨b, 0, none⟩)] Z (StpR W0 u v0 v1 b y (stepP u m)) := by
 have HC := Lib.hid (And.intro h (And.intro H (And.intro M (And.intro R (And.intro hu (And.intro hcl (And.intro hF (And.intro hcn (And.intro hol har)))))))))
 have HP := Lib.hid R.pos
 have HD := Lib.hid M.dep
 have HFR := Lib.hid (frs_in H M (k := tpN m) (by have := R.pos; unfold tpN; omega))
 have HOP := Lib.hid hop
 clear h H M R hu hcl hF hcn hol har hop
 go_enter Tryz.func13, Tryz.ntmps13
 go_wp2_with fail
 refine (rTop_any HC.out.1 HP.out HD.out).mono ?_
 rintro E W2 ⟨rfl, b2⟩
 have HM2 := Lib.hid (HC.out.1.below b2)
 have HB2 := Lib.hid b2
 clear b2
 obtain ⟨x, hx⟩ : ∃ x, x = isOf u (tp m) := ⟨_, rfl⟩
 obtain ⟨F, hF⟩ : ∃ F, F = (tp m).f := ⟨_, rfl⟩
 obtain ⟨I, hI⟩ : ∃ I, I = (tp m).i := ⟨_, rfl⟩
 obtain ⟨t, ht⟩ : ∃ t, t = tpN m := ⟨_, rfl⟩
 have HFI := Lib.hid (And.intro (And.intro hF hI) (And.intro ht hx))
 have hxe : x = nth (nth u.fs F).cd I := by rw [hx, hF, hI]; rfl
 obtain ⟨fa, fc, xa, xc, v7, hv1, jf, ji, hv7, hz⟩ := code_at (f := F) (i := I) HC.out.2.2.2.2.1.2 (by rw [hF]; exact HFR.out.1) (by rw [hF, hI]; exact HFR.out.2.1)
 rw [← hxe] at hv7 hz
 obtain ⟨aa, ac, rfl⟩ := hv7.shape
 obtain ⟨an, han⟩ : ∃ an, an = x.ar.length := ⟨_, rfl⟩
 rw [← han] at hv7 hz
 obtain ⟨FL, hFL⟩ : ∃ FL, FL = u.fs.length := ⟨_, rfl⟩
 obtain ⟨L, hL⟩ : ∃ L, L = (nth u.fs F).cd.length := ⟨_, rfl⟩
 rw [← hFL] at hv1 jf
 rw [← hL] at ji hz
 have HXW := Lib.hid (show ∀ W, Below W2.heap.size W2 W → (W.cell? ⟨b, 1, none⟩ = some (.slice fa FL fc) ∧ W.cell? ⟨blk y.fs.a, ofs y.fs.a + t * 8, none⟩ = some (.int .i64 (F : Int)) ∧ W.cell? ⟨blk y.fs.a, ofs y.fs.a + t * 8 + 1, none⟩ = some (.int .i64 (I : Int)) ∧ W.cell? ⟨blk fa, ofs fa + F * 7 + 6, none⟩ = some (.slice xa L xc)) ∧
   W.cell? ⟨blk xa, ofs xa + I * 10, none⟩ = some (.int .i64 x.op) ∧ W.cell? ⟨blk xa, ofs xa + I * 10 + 1, none⟩ = some (.int .i64 x.d) ∧ W.cell? ⟨blk xa, ofs xa + I * 10 + 2, none⟩ = some (.int .i64 x.a) ∧ W.cell? ⟨blk xa, ofs xa + I * 10 + 3, none⟩ = some (.int .i64 x.b) ∧ W.cell? ⟨blk xa, ofs xa + I * 10 + 4, none⟩ = some (.int .i64 x.n) ∧ W.cell? ⟨blk xa, ofs xa + I * 10 + 5, none⟩ = some (.string x.c) ∧ W.cell? ⟨blk xa, ofs xa + I * 10 + 6, none⟩ = some (.string x.m) ∧ W.cell? ⟨blk xa, ofs xa + I * 10 + 7, none⟩ = some (.slice aa an ac) ∧ W.cell? ⟨blk xa, ofs xa + I * 10 + 8, none⟩ = some (.int .i64 x.g) ∧ W.cell? ⟨blk xa, ofs xa + I * 10 + 9, none⟩ = some (.int .i64 x.ct) from fun W hW => by
  have hMW := HM2.out.below hW
  obtain ⟨q0, q1, -⟩ := hMW.rdT HP.out
  rw [← ht, ← hF] at q0
  rw [← ht, ← hI] at q1
  have c1 := hMW.bx 1 _ rfl
  rw [hv1] at c1
  obtain ⟨p6, hc⟩ := hz W hMW.bel
  exact ⟨⟨c1, q0, q1, p6⟩, hc 0 _ rfl, hc 1 _ rfl, hc 2 _ rfl, hc 3 _ rfl, hc 4 _ rfl, hc 5 _ rfl, hc 6 _ rfl, hc 7 _ rfl, hc 8 _ rfl, hc 9 _ rfl⟩)
 have HV7 := Lib.hid (And.intro hv7 han)
 rw [← ht]
 clear hx hF hI ht hxe hv1 hv7 hz han hFL hL
 go_upto_region 2 with fail
 refine wp_region_plan (.take 0 (.take 1 (.take 2 (.take 3 (.take 4 (.take 5 (.take 6 (.take 7 (.take 8 (.take 9 (.take 10 (.take 11 (.take 12 (.take 13 (.take 14 (.take 15 (.take 16 (.take 17 (.alt 18 (.alt 19 .done .stop) .stop))))))))))))))))))) (fun w' => Below W2.heap.size W2 w') (by kernel_rfl) (by kernel_rfl) (by kernel_rfl) (by kernel_rfl) ((Below.refl _ _).drew) ?_
 have HY := Lib.hid ((Below.refl W2.heap.size W2).drew)
 generalize W2.drew = V at *
 repeat (
  refine plan_take (v := ?_) rfl (Or.inl ⟨by rfl, ?_⟩) ?_
  rotate_left
  ·(intro W hW; obtain ⟨⟨c1, q0, q1, p6⟩, z0, z1, z2, z3, z4, z5, z6, z7, z8, z9⟩ := HXW.out W hW; (try go_simp); try with_reducible rfl)
  simp only [Act.put, List.setIfInBounds_toArray, List.getElem_toArray, List.getElem_cons_zero, List.getElem_cons_succ, List.set_cons_succ, List.set_cons_zero])
 clear jf ji
 refine plan_alt rfl ?_ plan_stop
 go_wp2_with fail
 refine tail_mk (HY.out.alloc HY.out.size _) ?_
 refine plan_alt rfl ?_ plan_stop
 go_wp2_with fail
 refine tail_mk (HY.out.alloc HY.out.size _) ?_
 refine plan_done ?_
 go_upto_region 3 with fail
 have HMV := Lib.hid (HM2.out.below HY.out)
 refine gen_code (fun Z' => Env V [fkC V.heap.size (isC' x (.slice aa an ac))] Z') ((Env.refl V).alloc (isC' x (.slice aa an ac)) 79) ?_
 intro Z3 hZ3
 obtain ⟨bx, hbx⟩ : ∃ b, b = V.heap.size := ⟨_, rfl⟩
 have hbn : y.rl bx = .no := HMV.out.rlo _ (by omega)
 have HB := Lib.hid (And.intro hbn hbx)
 rw [← hbx] at hZ3 ⊢
 have H3 := Lib.hid hZ3
 have HM3 := Lib.hid (HMV.out.below hZ3.bel)
 have e0 := hZ3.cell 0 rfl 0 rfl
 clear hZ3 hbx hbn HXW HM2 HMV
 have hop : x.op = 1 ∨ x.op = 2 ∨ x.op = 3 ∨ x.op = 4 ∨ x.op = 5 ∨ x.op = 6 ∨ x.op = 16 := by rw [HFI.out.2.2]; exact HOP.out
 have HOR := Lib.hid hop
 have HDD := Lib.hid (show 0 ≤ x.d ∧ x.d < (tp m).vs.length by
  rw [HFI.out.2.2, vars_len HC.out.2.2.1 HC.out.2.2.2.1]
  exact d_in HC.out.2.1 HC.out.2.2.1 HC.out.2.2.2.1 (by rcases HOP.out with e | e | e | e | e | e | e <;> rw [e] <;> rfl) (by have := HOP.out; omega) (by have := HOP.out; omega))
 have HA := Lib.hid (show x.op = 3 ∨ x.op = 4 ∨ x.op = 16 → RdV u (tp m) x.a by
  rw [HFI.out.2.2]
  intro e
  have h1 := a_in HC.out.2.1 HC.out.2.2.1 HC.out.2.2.2.1 (by rcases e with e | e | e <;> rw [e] <;> rfl) (by omega)
  exact ⟨h1.1, by rw [vars_len HC.out.2.2.1 HC.out.2.2.2.1]; exact h1.2, h1.2⟩)
 have HBB := Lib.hid (show x.op = 4 → RdV u (tp m) x.b by
  rw [HFI.out.2.2]
  intro e
  have h1 := ((HC.out.2.2.1.top HP.out).iok HC.out.2.1).rng.b (by show hasB (isOf u (tp m)).op 98 = true; rw [e]; rfl)
  exact ⟨h1.1, by rw [vars_len HC.out.2.2.1 HC.out.2.2.2.1]; exact h1.2, h1.2⟩)
 have HHL := Lib.hid (show m.hp.length ≤ 1048576 by have h1 := HC.out.2.2.1.hl; have h2 := HC.out.2.2.2.2.2.2.2.2.1; omega)
 have HT := Lib.hid (show stepP u m = (cpP u m x, 0) by
  unfold stepP; dsimp only
  rw [if_neg (by have := HOP.out; omega), if_neg (by have := HOP.out; omega), if_neg (by have := HOP.out; omega), if_neg (by have := HOP.out; omega), if_neg (by have := HOP.out; omega), if_neg (by have := HOP.out; omega), if_neg (by have := HOP.out; omega), if_neg (by have := HOP.out; omega), HFI.out.2.2])
 have t0 : (x.op == 0) = false := by rcases hop with e | e | e | e | e | e | e <;> rw [e] <;> rfl
 have t11 : (x.op == 11) = false := by rcases hop with e | e | e | e | e | e | e <;> rw [e] <;> rfl
 have t12 : (x.op == 12) = false := by rcases hop with e | e | e | e | e | e | e <;> rw [e] <;> rfl
 have t7 : (x.op == 7) = false := by rcases hop with e | e | e | e | e | e | e <;> rw [e] <;> rfl
 have t8 : (x.op == 8) = false := by rcases hop with e | e | e | e | e | e | e <;> rw [e] <;> rfl
 have t9 : (x.op == 9) = false := by rcases hop with e | e | e | e | e | e | e <;> rw [e] <;> rfl
 have t10 : (x.op == 10) = false := by rcases hop with e | e | e | e | e | e | e <;> rw [e] <;> rfl
 have t13 : (x.op == 13) = false := by rcases hop with e | e | e | e | e | e | e <;> rw [e] <;> rfl
 have t14 : (x.op == 14) = false := by rcases hop with e | e | e | e | e | e | e <;> rw [e] <;> rfl
 have t15 : (x.op == 15) = false := by rcases hop with e | e | e | e | e | e | e <;> rw [e] <;> rfl
 clear hop
 have e1 := H3.out.cell 0 rfl 1 rfl
 have e2 := H3.out.cell 0 rfl 2 rfl
 have e3 := H3.out.cell 0 rfl 3 rfl
 have e4 := H3.out.cell 0 rfl 4 rfl
 have e5 := H3.out.cell 0 rfl 5 rfl
 have e6 := H3.out.cell 0 rfl 6 rfl
 have e7 := H3.out.cell 0 rfl 7 rfl
 have e8 := H3.out.cell 0 rfl 8 rfl
 have e9 := H3.out.cell 0 rfl 9 rfl
 go_wp2_with fail
 refine (rCompute_any HM3.out HP.out HD.out HC.out.2.2.2.2.1 HFR.out.1 HFR.out.2.2 x (.slice aa an ac) HV7.out.1 HDD.out.1 HDD.out.2 HC.out.2.2.2.2.2.1 HC.out.2.2.2.2.2.2.1 HC.out.2.2.2.2.2.2.2.1 HFR.out.2.1 HHL.out HOR.out HA.out HBB.out).mono ?_
 rintro E W5 ⟨rfl, y', hM5, hen⟩
 have H5 := Lib.hid (And.intro hM5 hen)
 clear hM5 hen e0 e1 e2 e3 e4 e5 e6 e7 e8 e9
 go_wp2_with fail
 go_ret
 exact ⟨by rw [HT.out]; try rfl, y', by rw [HT.out]; exact H5.out.1, H5.out.2⟩
set_option maxHeartbeats 6400000 in
set_option maxRecDepth 8000 in
include h H M R hu hcl hF hcn hol har in
theorem rStep15_any (hop : (isOf u (tp m)).op = 15) : Calls Tryz.prog 13 #[.pointer (some ⟨b, 0, none⟩)] Z (StpR W0 u v0 v1 b y (stepP u m)) := by
 have HC := Lib.hid (And.intro h (And.intro H (And.intro M (And.intro R (And.intro hu (And.intro hcl (And.intro hF (And.intro hcn (And.intro hol har)))))))))
 have HP := Lib.hid R.pos
 have HD := Lib.hid M.dep
 have HFR := Lib.hid (frs_in H M (k := tpN m) (by have := R.pos; unfold tpN; omega))
 have HOP := Lib.hid hop
 clear h H M R hu hcl hF hcn hol har hop
 go_enter Tryz.func13, Tryz.ntmps13
 go_wp2_with fail
 refine (rTop_any HC.out.1 HP.out HD.out).mono ?_
 rintro E W2 ⟨rfl, b2⟩
 have HM2 := Lib.hid (HC.out.1.below b2)
 have HB2 := Lib.hid b2
 clear b2
 obtain ⟨x, hx⟩ : ∃ x, x = isOf u (tp m) := ⟨_, rfl⟩
 obtain ⟨F, hF⟩ : ∃ F, F = (tp m).f := ⟨_, rfl⟩
 obtain ⟨I, hI⟩ : ∃ I, I = (tp m).i := ⟨_, rfl⟩
 obtain ⟨t, ht⟩ : ∃ t, t = tpN m := ⟨_, rfl⟩
 have HFI := Lib.hid (And.intro (And.intro hF hI) (And.intro ht hx))
 have hxe : x = nth (nth u.fs F).cd I := by rw [hx, hF, hI]; rfl
 obtain ⟨fa, fc, xa, xc, v7, hv1, jf, ji, hv7, hz⟩ := code_at (f := F) (i := I) HC.out.2.2.2.2.1.2 (by rw [hF]; exact HFR.out.1) (by rw [hF, hI]; exact HFR.out.2.1)
 rw [← hxe] at hv7 hz
 obtain ⟨aa, ac, rfl⟩ := hv7.shape
 obtain ⟨an, han⟩ : ∃ an, an = x.ar.length := ⟨_, rfl⟩
 rw [← han] at hv7 hz
 obtain ⟨FL, hFL⟩ : ∃ FL, FL = u.fs.length := ⟨_, rfl⟩
 obtain ⟨L, hL⟩ : ∃ L, L = (nth u.fs F).cd.length := ⟨_, rfl⟩
 rw [← hFL] at hv1 jf
 rw [← hL] at ji hz
 have HXW := Lib.hid (show ∀ W, Below W2.heap.size W2 W → (W.cell? ⟨b, 1, none⟩ = some (.slice fa FL fc) ∧ W.cell? ⟨blk y.fs.a, ofs y.fs.a + t * 8, none⟩ = some (.int .i64 (F : Int)) ∧ W.cell? ⟨blk y.fs.a, ofs y.fs.a + t * 8 + 1, none⟩ = some (.int .i64 (I : Int)) ∧ W.cell? ⟨blk fa, ofs fa + F * 7 + 6, none⟩ = some (.slice xa L xc)) ∧
   W.cell? ⟨blk xa, ofs xa + I * 10, none⟩ = some (.int .i64 x.op) ∧ W.cell? ⟨blk xa, ofs xa + I * 10 + 1, none⟩ = some (.int .i64 x.d) ∧ W.cell? ⟨blk xa, ofs xa + I * 10 + 2, none⟩ = some (.int .i64 x.a) ∧ W.cell? ⟨blk xa, ofs xa + I * 10 + 3, none⟩ = some (.int .i64 x.b) ∧ W.cell? ⟨blk xa, ofs xa + I * 10 + 4, none⟩ = some (.int .i64 x.n) ∧ W.cell? ⟨blk xa, ofs xa + I * 10 + 5, none⟩ = some (.string x.c) ∧ W.cell? ⟨blk xa, ofs xa + I * 10 + 6, none⟩ = some (.string x.m) ∧ W.cell? ⟨blk xa, ofs xa + I * 10 + 7, none⟩ = some (.slice aa an ac) ∧ W.cell? ⟨blk xa, ofs xa + I * 10 + 8, none⟩ = some (.int .i64 x.g) ∧ W.cell? ⟨blk xa, ofs xa + I * 10 + 9, none⟩ = some (.int .i64 x.ct) from fun W hW => by
  have hMW := HM2.out.below hW
  obtain ⟨q0, q1, -⟩ := hMW.rdT HP.out
  rw [← ht, ← hF] at q0
  rw [← ht, ← hI] at q1
  have c1 := hMW.bx 1 _ rfl
  rw [hv1] at c1
  obtain ⟨p6, hc⟩ := hz W hMW.bel
  exact ⟨⟨c1, q0, q1, p6⟩, hc 0 _ rfl, hc 1 _ rfl, hc 2 _ rfl, hc 3 _ rfl, hc 4 _ rfl, hc 5 _ rfl, hc 6 _ rfl, hc 7 _ rfl, hc 8 _ rfl, hc 9 _ rfl⟩)
 have HV7 := Lib.hid (And.intro hv7 han)
 rw [← ht]
 clear hx hF hI ht hxe hv1 hv7 hz han hFL hL
 go_upto_region 2 with fail
 refine wp_region_plan (.take 0 (.take 1 (.take 2 (.take 3 (.take 4 (.take 5 (.take 6 (.take 7 (.take 8 (.take 9 (.take 10 (.take 11 (.take 12 (.take 13 (.take 14 (.take 15 (.take 16 (.take 17 (.alt 18 (.alt 19 .done .stop) .stop))))))))))))))))))) (fun w' => Below W2.heap.size W2 w') (by kernel_rfl) (by kernel_rfl) (by kernel_rfl) (by kernel_rfl) ((Below.refl _ _).drew) ?_
 have HY := Lib.hid ((Below.refl W2.heap.size W2).drew)
 generalize W2.drew = V at *
 repeat (
  refine plan_take (v := ?_) rfl (Or.inl ⟨by rfl, ?_⟩) ?_
  rotate_left
  ·(intro W hW; obtain ⟨⟨c1, q0, q1, p6⟩, z0, z1, z2, z3, z4, z5, z6, z7, z8, z9⟩ := HXW.out W hW; (try go_simp); try with_reducible rfl)
  simp only [Act.put, List.setIfInBounds_toArray, List.getElem_toArray, List.getElem_cons_zero, List.getElem_cons_succ, List.set_cons_succ, List.set_cons_zero])
 clear jf ji
 refine plan_alt rfl ?_ plan_stop
 go_wp2_with fail
 refine tail_mk (HY.out.alloc HY.out.size _) ?_
 refine plan_alt rfl ?_ plan_stop
 go_wp2_with fail
 refine tail_mk (HY.out.alloc HY.out.size _) ?_
 refine plan_done ?_
 go_upto_region 3 with fail
 have HMV := Lib.hid (HM2.out.below HY.out)
 refine gen_code (fun Z' => Env V [fkC V.heap.size (isC' x (.slice aa an ac))] Z') ((Env.refl V).alloc (isC' x (.slice aa an ac)) 79) ?_
 intro Z3 hZ3
 obtain ⟨bx, hbx⟩ : ∃ b, b = V.heap.size := ⟨_, rfl⟩
 have hbn : y.rl bx = .no := HMV.out.rlo _ (by omega)
 have HB := Lib.hid (And.intro hbn hbx)
 rw [← hbx] at hZ3 ⊢
 have H3 := Lib.hid hZ3
 have HM3 := Lib.hid (HMV.out.below hZ3.bel)
 have e0 := hZ3.cell 0 rfl 0 rfl
 clear hZ3 hbx hbn HXW HM2 HMV
 have hop : x.op = 15 := by rw [HFI.out.2.2, HOP.out]
 have hex := (HC.out.2.2.1.top HP.out).ex HOP.out
 obtain ⟨v, hv⟩ : ∃ v, v = (tp m).ex := ⟨_, rfl⟩
 obtain ⟨-, -, -, -, -, q5, q6, q7⟩ := HM3.out.rdT HP.out
 rw [← hv] at q5 q6 q7 hex
 rw [← HFI.out.2.1] at q5 q6 q7
 have hlen : (hcs m).length = m.hp.length := by simp [hcs]
 obtain ⟨n, hn⟩ : ∃ n : Nat, v.n = (n : Int) := ⟨v.n.toNat, by have := hex.2.1; omega⟩
 have hnl : n < m.hp.length := by have := hex.2.2.1; omega
 have hnt : v.n.toNat = n := by omega
 obtain ⟨o, ho⟩ : ∃ o, o = (nth m.hp n).c := ⟨_, rfl⟩
 obtain ⟨s, hs⟩ : ∃ s : Bool, s = decide (x.c ∈ sups u.cs o) := ⟨_, rfl⟩
 have HV := Lib.hid (And.intro hv (And.intro hn (And.intro ho (And.intro hs hnl))))
 have HDD := Lib.hid (show 0 ≤ x.d ∧ x.d < (tp m).vs.length by
  rw [HFI.out.2.2, vars_len HC.out.2.2.1 HC.out.2.2.2.1]
  exact d_in HC.out.2.1 HC.out.2.2.1 HC.out.2.2.2.1 (by rw [HOP.out]; rfl) (by rw [HOP.out]; decide) (by rw [HOP.out]; decide))
 have HT := Lib.hid (show stepP u m = if s = true then (setV m x.d v, 0) else rsP u m v by
  unfold stepP; dsimp only
  rw [if_neg (by rw [HOP.out]; decide), if_neg (by rw [HOP.out]; decide), if_neg (by rw [HOP.out]; decide), if_neg (by rw [HOP.out]; decide), if_neg (by rw [HOP.out]; decide), if_neg (by rw [HOP.out]; decide), if_neg (by rw [HOP.out]; decide), if_pos HOP.out, ← HFI.out.2.2]
  unfold catP
  rw [← hv, hnt, ← ho, hs]
  by_cases e : x.c ∈ sups u.cs o
  ·rw [if_pos e, if_pos (by simpa using e)]
  ·rw [if_neg e, if_neg (by simpa using e)])
 have t0 : (x.op == 0) = false := by rw [hop]; rfl
 have t11 : (x.op == 11) = false := by rw [hop]; rfl
 have t12 : (x.op == 12) = false := by rw [hop]; rfl
 have t7 : (x.op == 7) = false := by rw [hop]; rfl
 have t8 : (x.op == 8) = false := by rw [hop]; rfl
 have t9 : (x.op == 9) = false := by rw [hop]; rfl
 have t10 : (x.op == 10) = false := by rw [hop]; rfl
 have t13 : (x.op == 13) = false := by rw [hop]; rfl
 have t14 : (x.op == 14) = false := by rw [hop]; rfl
 have t15 : (x.op == 15) = true := by rw [hop]; rfl
 have H6 := Lib.hid (((H3.out.alloc [.int .i64 v.k, .int .i64 v.n, .int .i64 v.s] 50)))
 clear hop hex hv hlen hn hnl hnt ho hs
 go_upto_region 28 with fail
 clear q5 q6 q7 e0 t0 t11 t12 t7 t8 t9 t10 t13 t14 t15
 refine gen_code (fun Z' => Env V [fkC Z3.heap.size [.int .i64 v.k, .int .i64 v.n, .int .i64 v.s], fkC bx (isC' x (.slice aa an ac))] Z') H6.out ?_
 intro Z4 hZ4
 obtain ⟨ba, hba⟩ : ∃ b, b = Z3.heap.size := ⟨_, rfl⟩
 rw [← hba] at hZ4 ⊢
 have hM4 : MM W0.heap.size W0 u v0 v1 b y m Z4 := (HC.out.1.below HB2.out).below (HY.out.trans (hZ4.bel.mono HY.out.size))
 have H4 := Lib.hid hZ4
 have HM4 := Lib.hid hM4
 clear hZ4 hba hM4 H6
 obtain ⟨io, ro⟩ := HM4.out.rdO
 have ro0 := (ro n HV.out.2.2.2.2).1
 have jo := io (n : Int) (by omega) (by have := HV.out.2.2.2.2; omega)
 rw [Int.toNat_natCast] at jo
 rw [← HV.out.2.2.1] at ro0
 obtain ⟨Cls, hCls⟩ : ∃ Cls : World → Prop, ∀ Z', Cls Z' ↔ Below Z4.heap.size Z4 Z' := ⟨_, fun _ => Iff.rfl⟩
 have hCl : Cls Z4.drew := (hCls _).2 ((Below.refl _ _).drew)
 have k0 := fun q : Wd Cls => (hCls _).1 q.ok
 have hB : ∀ q : Wd Cls, ∀ Z', Below q.val.heap.size q.val Z' → Cls Z' := fun q Z' hb => (hCls _).2 ((k0 q).trans (hb.mono (k0 q).size))
 haveI hne : Nonempty (Wd Cls) := ⟨⟨_, hCl⟩⟩
 have g0 : ∀ q : Wd Cls, q.val.cell? ⟨b, 0, none⟩ = some v0 := fun q => (HM4.out.below (k0 q)).bx 0 _ rfl
 have g1 : ∀ q : Wd Cls, q.val.cell? ⟨b, 2, none⟩ = some (.int .i64 u.mn) := fun q => (HM4.out.below (k0 q)).bx 2 _ rfl
 have g3 : ∀ q : Wd Cls, q.val.cell? ⟨b, 4, none⟩ = some (.slice y.hs.a y.hs.n y.hs.c) := fun q => (HM4.out.below (k0 q)).bx 4 _ rfl
 have g4 : ∀ q : Wd Cls, q.val.cell? ⟨bx, 5, none⟩ = some (.string x.c) := fun q => (H4.out.below (k0 q)).cell 1 rfl 5 rfl
 have g5 : ∀ q : Wd Cls, q.val.cell? ⟨ba, 1, none⟩ = some (.int .i64 (n : Int)) := fun q => by rw [← HV.out.2.1]; exact (H4.out.below (k0 q)).cell 0 rfl 1 rfl
 have g6 : ∀ q : Wd Cls, q.val.cell? ⟨blk y.hs.a, ofs y.hs.a + n * 2, none⟩ = some (.string o) := fun q => (grownBy_below (k0 q)).cell ro0 (by simp)
 have f1 : ∀ q : Wd Cls, Calls Tryz.prog 33 #[.agg #[v0], .string o, .string x.c] q.val fun e w'' => e = .returned (.bool s) ∧ ∃ r : Wd Cls, w'' = r.val := fun q => cls_bel (hB q) (by
  rw [HV.out.2.2.2.1]
  exact rIsSub_any u.cs v0 o x.c q.val (HC.out.2.2.2.2.1.1.below (HM4.out.below (k0 q)).bel) (by have := HC.out.2.2.2.2.2.1; omega))
 have F1 := Lib.hid f1
 have HK := Lib.hid k0
 have HCC := Lib.hid hCl
 clear hCls hCl k0 hB f1 io ro ro0
 refine wp_region_class Cls (by kernel_rfl) (by kernel_rfl) HCC.out ?_
 repeat (go_big_quiet_step ((go_at_call 33; exact F1.out _)))
 refine wpQuiet_nil ?_
 rintro _ ⟨q9, rfl⟩
 have hM9 := HM4.out.below (HK.out q9)
 have hE9 := H4.out.below (HK.out q9)
 obtain ⟨V9, hV9⟩ : ∃ V, V = q9.val := ⟨_, rfl⟩
 rw [← hV9] at hM9 hE9 ⊢
 have a0 := hE9.cell 0 rfl 0 rfl
 have a1 := hE9.cell 0 rfl 1 rfl
 have a2 := hE9.cell 0 rfl 2 rfl
 have e1 := hE9.cell 1 rfl 1 rfl
 have HM9 := Lib.hid hM9
 clear g0 g1 g3 g4 g5 g6 hne hV9 hM9 hE9 jo
 cases s
 ·go_wp2_with fail
  refine (rRaise_any HM9.out HD.out HC.out.2.2.2.2.1.2 (fun j hj => ⟨(frs_in HC.out.2.1 HC.out.2.2.1 hj).1, (frs_in HC.out.2.1 HC.out.2.2.1 hj).2.1⟩) (ct_ok HC.out.2.1) v).mono ?_
  rintro E W6 ⟨rfl, y', hM6, hen⟩
  have H6 := Lib.hid (And.intro hM6 hen)
  clear hM6 hen a0 a1 a2 e1
  go_wp2_with fail
  go_ret
  exact ⟨by rw [HT.out]; try rfl, y', by rw [HT.out]; exact H6.out.1, H6.out.2⟩
 ·go_wp2_with fail
  refine (rSet_any HM9.out HP.out HD.out HDD.out.1 HDD.out.2 HFR.out.2.2 v).mono ?_
  rintro E W6 ⟨rfl, hM6, -⟩
  have H6 := Lib.hid hM6
  clear hM6 a0 a1 a2 e1
  go_wp2_with fail
  go_ret
  exact ⟨by rw [HT.out]; try rfl, y, by rw [HT.out]; exact H6.out, rfl⟩
include h H M R hu hcl hF hcn hol har in
theorem rStep_any : Calls Tryz.prog 13 #[.pointer (some ⟨b, 0, none⟩)] Z (StpR W0 u v0 v1 b y (stepP u m)) := by
 have I := (M.top R.pos).iok H
 have hop : 0 ≤ (isOf u (tp m)).op ∧ (isOf u (tp m)).op ≤ 16 := I.op
 by_cases e0 : (isOf u (tp m)).op = 0
 ·exact rStep0_any h H M R hu hcl hF hcn hol har e0
 by_cases e11 : (isOf u (tp m)).op = 11
 ·exact rStep11_any h H M R hu hcl hF hcn hol har e11
 by_cases e12 : (isOf u (tp m)).op = 12
 ·exact rStep12_any h H M R hu hcl hF hcn hol har e12
 by_cases e13 : (isOf u (tp m)).op = 13
 ·exact rStep13_any h H M R hu hcl hF hcn hol har e13
 by_cases e14 : (isOf u (tp m)).op = 14
 ·exact rStep14_any h H M R hu hcl hF hcn hol har e14
 by_cases e15 : (isOf u (tp m)).op = 15
 ·exact rStep15_any h H M R hu hcl hF hcn hol har e15
 by_cases e7 : (isOf u (tp m)).op = 7 ∨ (isOf u (tp m)).op = 8
 ·exact rStepM_any h H M R hu hcl hF hcn hol har e7
 by_cases e9 : (isOf u (tp m)).op = 9 ∨ (isOf u (tp m)).op = 10
 ·exact rStepC_any h H M R hu hcl hF hcn hol har e9
 exact rStepQ_any h H M R hu hcl hF hcn hol har (by omega)
end
end Go.Proofs.YtnklnklkblgnfaaGreatDoor
end
section
namespace Go.Hir
open Go.Dfl (nth nth_mem mem_nth nth_eq nth_ext take_snoc nth_set nth_append nth_out)
open Go.Obs
def R64 (x : Int) : Prop := -9223372036854775808 ≤ x ∧ x ≤ 9223372036854775807
instance (x : Int) : Decidable (R64 x) := by unfold R64; infer_instance
theorem r0 : R64 0 := by decide
theorem r1 : R64 1 := by decide
theorem r2 : R64 2 := by decide
theorem r3 : R64 3 := by decide
def VB (v : Vl) : Prop := R64 v.k ∧ R64 v.n ∧ R64 v.s
theorem r64_wrap (x : Int) : R64 (IntKind.i64.wrap x) := by
 unfold R64 IntKind.wrap
 simp [IntKind.bits, IntKind.signed]
 split <;> omega
theorem vb_zero : VB default := ⟨r0, r0, r0⟩
theorem vb_zV (t : ByteArray) : VB (zV t) := by
 unfold zV; split
 ·exact ⟨r1, r0, r0⟩
 ·exact ⟨r2, r0, r0⟩
variable {u : Un} {m : Mch}
structure MB (m : Mch) : Prop where
 inp : ∀ x ∈ m.inp, R64 x
 fr : ∀ k, (∀ v ∈ (nth m.fr k).vs, VB v) ∧ VB (nth m.fr k).ex
 hp : ∀ k, ∀ x ∈ (nth m.hp k).sl, VB x.2
 ob : ∀ k, ∀ v ∈ (nth m.ob k).vs, VB v
theorem vb_nth {l : List Vl} (h : ∀ v ∈ l, VB v) (k : Nat) : VB (nth l k) := by
 by_cases e : k < l.length
 ·exact h _ (nth_mem _ _ e)
 ·rw [nth_out _ _ (by omega)]; exact vb_zero
theorem vb_rd {g : Frm} (h : ∀ v ∈ g.vs, VB v) (v : Int) : VB (rd u g v) := by
 unfold rd; split
 ·exact vb_zV _
 ·exact vb_nth h _
theorem vb_set {l : List Vl} (h : ∀ v ∈ l, VB v) {x : Vl} (hx : VB x) (k : Nat) : ∀ v ∈ l.set k x, VB v := fun v hv => by
 rcases List.mem_or_eq_of_mem_set hv with h1 | h1
 ·exact h v h1
 ·rw [h1]; exact hx
section
variable (M : MB m)
include M
theorem MB.top : (∀ v ∈ (tp m).vs, VB v) ∧ VB (tp m).ex := M.fr _
theorem MB.upG {g : Frm} (h1 : ∀ v ∈ g.vs, VB v) (h2 : VB g.ex) : MB (up m g) := by
 refine ⟨M.inp, fun k => ?_, M.hp, M.ob⟩
 show (∀ v ∈ (nth (m.fr.set _ _) k).vs, VB v) ∧ VB (nth (m.fr.set _ _) k).ex
 rw [nth_set]
 split
 ·exact ⟨h1, h2⟩
 ·exact M.fr k
theorem MB.cut (k : Nat) : MB { m with fr := m.fr.take k } := by
 refine ⟨M.inp, fun j => ?_, M.hp, M.ob⟩
 show (∀ v ∈ (nth (m.fr.take k) j).vs, VB v) ∧ VB (nth (m.fr.take k) j).ex
 by_cases e : j < k
 ·rw [nth_take _ _ _ e]; exact M.fr j
 ·rw [nth_out _ _ (by rw [List.length_take]; omega)]
  exact ⟨(fun v hv => by cases hv), vb_zero⟩
theorem MB.pushF {g : Frm} (h1 : ∀ v ∈ g.vs, VB v) (h2 : VB g.ex) (n : Int) : MB { m with fr := m.fr ++ [g], n := n } := by
 refine ⟨M.inp, fun j => ?_, M.hp, M.ob⟩
 show (∀ v ∈ (nth (m.fr ++ [g]) j).vs, VB v) ∧ VB (nth (m.fr ++ [g]) j).ex
 rw [nth_append]
 split
 ·exact M.fr j
 ·by_cases e : j - m.fr.length = 0
  ·rw [e]; exact ⟨h1, h2⟩
  ·rw [nth_out _ _ (by simp; omega)]
   exact ⟨(fun v hv => by cases hv), vb_zero⟩
theorem MB.pushH {o : Obj} (h1 : ∀ x ∈ o.sl, VB x.2) : MB { m with hp := m.hp ++ [o] } := by
 refine ⟨M.inp, M.fr, fun j => ?_, M.ob⟩
 show ∀ x ∈ (nth (m.hp ++ [o]) j).sl, VB x.2
 rw [nth_append]
 split
 ·exact M.hp j
 ·by_cases e : j - m.hp.length = 0
  ·rw [e]; exact h1
  ·rw [nth_out _ _ (by simp; omega)]
   exact fun v hv => by cases hv
theorem MB.recd : MB (recM m) := by
 refine ⟨M.inp, M.fr, M.hp, fun j => ?_⟩
 show ∀ v ∈ (nth (m.ob ++ [recO m]) j).vs, VB v
 rw [nth_append]
 split
 ·exact M.ob j
 ·by_cases e : j - m.ob.length = 0
  ·rw [e]; exact M.top.1
  ·rw [nth_out _ _ (by simp; omega)]
   exact fun v hv => by cases hv
theorem MB.put {b k : Nat} {v : Vl} (hv : VB v) : MB (putS m b k v) := by
 refine ⟨M.inp, M.fr, fun j => ?_, M.ob⟩
 show ∀ x ∈ (nth (m.hp.set _ _) j).sl, VB x.2
 rw [nth_set]
 split
 ·intro x hx
  rcases List.mem_or_eq_of_mem_set hx with h1 | h1
  ·exact M.hp b x h1
  ·rw [h1]; exact hv
 ·exact M.hp j
theorem MB.set {v : Int} {x : Vl} (hx : VB x) : MB (setV m v x) := M.upG (vb_set M.top.1 hx _) M.top.2
theorem MB.go {i : Nat} : MB (goN m i) := M.upG M.top.1 M.top.2
theorem MB.rs {e : Vl} (he : VB e) : MB (rsP u m e).1 := by
 have key : ∀ k, MB { m with fr := rsK u e m.fr k } := by
  intro k
  induction k with
  | zero => exact M.cut 0
  | succ k ih =>
    unfold rsK
    split
    ·exact (M.cut k).pushF (g := { nth m.fr k with i := (isOf u (nth m.fr k)).ct.toNat, ex := e }) (M.fr k).1 he m.n
    ·exact ih
 exact key _
theorem MB.step (hn : ∀ f ∈ u.fs, ∀ x ∈ f.cd, R64 x.n) (hh : (m.hp.length : Int) ≤ 9223372036854775807) (hs : ∀ i k, ((siU u.fs i k).length : Int) ≤ 9223372036854775807) : MB (stepP u m).1 := by
 have hx : R64 (isOf u (tp m)).n := by
  unfold isOf
  by_cases h1 : (tp m).f < u.fs.length
  ·by_cases h2 : (tp m).i < (fnOf u (tp m)).cd.length
   ·exact hn _ (nth_mem _ _ h1) _ (nth_mem _ _ h2)
   ·rw [nth_out _ _ (by omega)]; decide
  ·have : (fnOf u (tp m)).cd = [] := by unfold fnOf; rw [nth_out _ _ (by omega)]; rfl
   rw [this, nth_out _ _ (by simp)]; decide
 have hrd : ∀ v, VB (rd u (tp m) v) := fun v => vb_rd M.top.1 v
 have hslot : ∀ b k, VB (nth (nth m.hp b).sl k).2 := fun b k => by
  by_cases e : k < (nth m.hp b).sl.length
  ·exact M.hp b _ (nth_mem _ _ e)
  ·rw [nth_out _ _ (by omega)]; exact vb_zero
 have hmem : MB (memP u m (isOf u (tp m))).1 := by
  unfold memP
  split
  ·exact M
  split
  ·exact M.set (hslot _ _)
  ·exact (M.put (hrd _)).go
 have hcall : MB (callP u m (isOf u (tp m))).1 := by
  unfold callP
  split
  ·exact M
  split
  ·exact M
  ·refine M.pushF (fun v hv => ?_) vb_zero _
   have hv : v ∈ pad _ _ := hv
   unfold pad args at hv
   rcases List.mem_append.1 hv with h1 | h1
   ·rcases List.mem_append.1 h1 with h1 | h1
    ·split at h1
     ·rw [List.mem_singleton] at h1; rw [h1]; exact hrd _
     ·cases h1
    ·obtain ⟨y, -, rfl⟩ := List.mem_map.1 h1; exact hrd _
   ·rw [(List.mem_replicate.1 h1).2]; exact vb_zero
 have hret : MB (retP u m (isOf u (tp m))).1 := by
  unfold retP
  have M2 : MB (popM m) := M.cut _
  split
  ·exact M2
  ·refine M2.upG ?_ M2.top.2
   unfold retG
   dsimp only
   split
   ·refine vb_set M2.top.1 ?_ _
    unfold retV; split
    ·exact hrd _
    ·exact ⟨r0, r0, r0⟩
   ·exact M2.top.1
 have hthr : MB (thrP u m (isOf u (tp m))).1 := by
  unfold thrP; split
  ·exact M
  ·exact M.rs (hrd _)
 have hcat : MB (catP u m (isOf u (tp m))).1 := by
  unfold catP; split
  ·exact M.set M.top.2
  ·exact M.rs M.top.2
 have hcp : MB (cpP u m (isOf u (tp m))) := by
  unfold cpP
  have hv : VB (cpW u m (isOf u (tp m))) := by
   unfold cpW
   split
   ·exact ⟨r3, ⟨by show _ ≤ (m.hp.length : Int); omega, hh⟩, ⟨by show _ ≤ ((siU u.fs (tp m).f (tp m).i).length : Int); omega, hs _ _⟩⟩
   ·unfold cpV
    split
    ·exact ⟨r1, hx, r0⟩
    split
    ·exact ⟨r2, r0, r0⟩
    split
    ·exact hrd _
    split
    ·exact ⟨r1, r64_wrap _, r0⟩
    split
    ·refine ⟨r1, ?_, r0⟩
     show R64 (nth m.inp 0)
     by_cases e : 0 < m.inp.length
     ·exact M.inp _ (nth_mem _ _ e)
     ·rw [nth_out _ _ (by omega)]; decide
    ·refine ⟨r1, ?_, r0⟩
     dsimp only
     split
     ·unfold binV
      split
      ·exact r64_wrap _
      split
      ·exact r64_wrap _
      split
      ·exact r64_wrap _
      split <;> decide
     ·unfold eqV; split <;> decide
  have M2 : MB (cpM u m (isOf u (tp m))) := by
   unfold cpM
   split
   ·exact ⟨fun x hx => M.inp x (List.mem_of_mem_tail hx), M.fr, M.hp, M.ob⟩
   split
   ·refine M.pushH fun x hx => ?_
    have hx : x ∈ (flds u.cs _).map _ := hx
    obtain ⟨f, -, rfl⟩ := List.mem_map.1 hx
    exact vb_zV _
   ·exact M
  exact M2.set hv
 unfold stepP
 dsimp only
 split
 ·exact M.go
 split
 ·split <;> exact M.go
 split
 ·exact M.go
 split
 ·exact hmem
 split
 ·exact hcall
 split
 ·exact hret
 split
 ·exact hthr
 split
 ·exact hcat
 ·exact hcp
end
end Go.Hir
end
section
namespace Go.Hir
open Go.Dfl (nth nth_mem mem_nth nth_eq nth_ext take_snoc nth_set nth_append nth_out)
open Go.Obs
variable {u : Un} {m : Mch}
structure NB (m : Mch) : Prop where
 n : 0 ≤ m.n
 fr : ∀ g ∈ m.fr, 0 ≤ g.no ∧ g.no ≤ m.n
 ob : ∀ o ∈ m.ob, 0 ≤ o.fr ∧ o.fr ≤ m.n
theorem NB.upG (M : NB m) {g : Frm} (hg : g.no = (tp m).no) : NB (up m g) := by
 refine ⟨M.n, fun g' hg' => ?_, M.ob⟩
 have hg' : g' ∈ m.fr.set (tpN m) g := hg'
 by_cases e : tpN m < m.fr.length
 ·rcases List.mem_or_eq_of_mem_set hg' with h1 | h1
  ·exact M.fr g' h1
  ·rw [h1, hg]; exact M.fr _ (nth_mem _ _ e)
 ·rw [List.set_eq_of_length_le (by omega)] at hg'; exact M.fr g' hg'
theorem NB.cut (M : NB m) (k : Nat) : NB { m with fr := m.fr.take k } := ⟨M.n, fun g hg => M.fr g (List.mem_of_mem_take hg), M.ob⟩
theorem NB.hps (M : NB m) (l : List Obj) : NB { m with hp := l } := ⟨M.n, M.fr, M.ob⟩
theorem NB.inp (M : NB m) (l : List Int) : NB { m with inp := l } := ⟨M.n, M.fr, M.ob⟩
theorem NB.set (M : NB m) {v : Int} {x : Vl} : NB (setV m v x) := M.upG rfl
theorem NB.go (M : NB m) {i : Nat} : NB (goN m i) := M.upG rfl
theorem NB.rs (M : NB m) {e : Vl} : NB (rsP u m e).1 := by
 have key : ∀ k, k ≤ m.fr.length → NB { m with fr := rsK u e m.fr k } := by
  intro k
  induction k with
  | zero => intro _; exact M.cut 0
  | succ k ih =>
    intro hk
    unfold rsK
    split
    ·refine ⟨M.n, fun g hg => ?_, M.ob⟩
     have hg : g ∈ m.fr.take k ++ [{ nth m.fr k with i := (isOf u (nth m.fr k)).ct.toNat, ex := e }] := hg
     rcases List.mem_append.1 hg with h | h
     ·exact M.fr g (List.mem_of_mem_take h)
     ·rw [List.mem_singleton.1 h]; exact M.fr (nth m.fr k) (nth_mem m.fr k (by omega))
    ·exact ih (by omega)
 exact key _ (Nat.le_refl _)
theorem NB.ent (M : NB m) (fn : Int) (a : List Vl) : NB (entP u m fn a) := by
 have h0 := M.n
 refine ⟨by show 0 ≤ m.n + 1; omega, fun g hg => ?_, fun o ho => ?_⟩
 ·have hg : g ∈ m.fr ++ [_] := hg
  show 0 ≤ g.no ∧ g.no ≤ m.n + 1
  rcases List.mem_append.1 hg with h | h
  ·have := M.fr g h; omega
  ·rw [List.mem_singleton.1 h]; show 0 ≤ m.n ∧ m.n ≤ m.n + 1; omega
 ·show 0 ≤ o.fr ∧ o.fr ≤ m.n + 1
  have := M.ob o ho; omega
theorem NB.recd (M : NB m) (hp : 0 < m.fr.length) : NB (recM m) := by
 refine ⟨M.n, M.fr, fun o ho => ?_⟩
 have ho : o ∈ m.ob ++ [recO m] := ho
 rcases List.mem_append.1 ho with h | h
 ·exact M.ob o h
 ·rw [List.mem_singleton.1 h]; exact M.fr _ (nth_mem m.fr (tpN m) (by unfold tpN; omega))
theorem NB.step (M : NB m) : NB (stepP u m).1 := by
 have h1 : NB (memP u m (isOf u (tp m))).1 := by
  unfold memP; split
  ·exact M
  split
  ·exact M.set
  ·exact (M.hps _).go
 have h2 : NB (callP u m (isOf u (tp m))).1 := by
  unfold callP; split
  ·exact M
  split
  ·exact M
  ·exact M.ent _ _
 have h3 : NB (retP u m (isOf u (tp m))).1 := by
  unfold retP; split
  ·exact M.cut _
  ·exact (show NB (popM m) from M.cut _).upG rfl
 have h4 : NB (thrP u m (isOf u (tp m))).1 := by
  unfold thrP; split
  ·exact M
  ·exact M.rs
 have h5 : NB (catP u m (isOf u (tp m))).1 := by
  unfold catP; split
  ·exact M.set
  ·exact M.rs
 have h6 : NB (cpP u m (isOf u (tp m))) := by
  unfold cpP cpM
  split
  ·exact (M.inp _).set
  split
  ·exact (M.hps _).set
  ·exact M.set
 unfold stepP
 dsimp only
 split
 ·exact M.go
 split
 ·split
  ·exact M.go
  ·exact M.go
 split
 ·exact M.go
 split
 ·exact h1
 split
 ·exact h2
 split
 ·exact h3
 split
 ·exact h4
 split
 ·exact h5
 ·exact h6
structure RunI (u : Un) (st : Mch) (k : Nat) : Prop where
 mt : MT u (runN u k st).1
 mb : MB (runN u k st).1
 nb : NB (runN u k st).1
 ob : (runN u k st).1.ob.length = k
 pos : (runN u k st).2 = 0 → 0 < (runN u k st).1.fr.length
theorem run_stop {st : Mch} {k : Nat} (h : (runN u k st).2 ≠ 0) : ∀ j, runN u (k + j) st = runN u k st
 | 0 => rfl
 | j + 1 => by
   have ih := run_stop h j
   rw [show k + (j + 1) = (k + j) + 1 by omega, run_step, ih, if_pos h]
theorem RunI.next (H : UOk u) (hn : ∀ f ∈ u.fs, ∀ x ∈ f.cd, R64 x.n) {st : Mch} {k : Nat} (hk : k ≤ 5000) (h : RunI u st k) (h0 : (runN u k st).2 = 0) (hs : ∀ i k, ((siU u.fs i k).length : Int) ≤ 9223372036854775807) : RunI u st (k + 1) ∧ runN u (k + 1) st = stepP u (recM (runN u k st).1) := by
 have e : runN u (k + 1) st = stepP u (recM (runN u k st).1) := by rw [run_step, if_neg (by omega)]
 obtain ⟨M1, R1⟩ := h.mt.recd (h.pos h0)
 have hst := step_ok H M1 R1
 have hl : (recM (runN u k st).1).ob.length = k + 1 := by show ((runN u k st).1.ob ++ [_]).length = _; rw [List.length_append, h.ob]; rfl
 have hh : ((recM (runN u k st).1).hp.length : Int) ≤ 9223372036854775807 := by have := M1.hl; omega
 refine ⟨⟨by rw [e]; exact hst.1, by rw [e]; exact (h.mb.recd).step hn hh hs, by rw [e]; exact (h.nb.recd (h.pos h0)).step, by rw [e, step_ob, hl], by rw [e]; exact hst.2⟩, e⟩
end Go.Hir
end
section
namespace Go.Proofs.YtnklnklkblgnfaaGreatDoor
open Go.RowKit Go.Dfl Go.Obs Go.Hir
open Go.Gra (gen_code gen_calls)
def ly0 (b : Nat) (iv : Value) : Ly := ⟨fun q => if q = b then .mb else .no, iv, ⟨none, 0, 0⟩, ⟨none, 0, 0⟩, ⟨none, 0, 0⟩, [], [], [], 0⟩
theorem MM.start {u : Un} {v0 v1 iv : Value} {W Z : World} {inp : List Int} (hW : Below W.heap.size W Z) (hi : InS vI W iv inp) (t : TypeId) :
  MM W.heap.size W u v0 v1 Z.heap.size (ly0 Z.heap.size iv) ⟨inp, [], [], 0, []⟩ (Z.alloc (.cells #[v0, v1, .int .i64 u.mn, iv, .slice none 0 0, .slice none 0 0, .int .i64 0, .int .i64 0, .slice none 0 0] t)) := by
 have hz := hW.size
 have hN := heap_alloc_new Z (.cells #[v0, v1, .int .i64 u.mn, iv, .slice none 0 0, .slice none 0 0, .int .i64 0, .int .i64 0, .slice none 0 0] t)
 refine ⟨hW.alloc hz _, ⟨Nat.le_refl _, hz, by rw [World.size_alloc]; omega⟩, if_pos rfl, fun q hq => if_neg (by rw [World.size_alloc] at hq; omega), hi, fun j v hv => ?_, fun j => by simp only [World.frozen?]; rw [hN]; simp, ⟨rfl, rfl, rfl⟩, fun r => ?_⟩
 ·exact cells_new (W := Z) (cs := [v0, v1, .int .i64 u.mn, iv, .slice none 0 0, .slice none 0 0, .int .i64 0, .int .i64 0, .slice none 0 0]) (t := t) rfl j v hv
 ·cases r with
  | no => trivial
  | mb => trivial
  | fr => exact ⟨OwnE.nil _ _ _ _, fun q hq => by cases hq⟩
  | hp => exact ⟨OwnE.nil _ _ _ _, fun q hq => by cases hq⟩
  | ob => exact ⟨OwnE.nil _ _ _ _, fun q hq => by cases hq⟩
  | ov => exact fun k hk => absurd hk (Nat.not_lt_zero k)
  | fv i => exact fun hk => absurd hk (Nat.not_lt_zero i)
  | sl i => exact fun hk => absurd hk (Nat.not_lt_zero i)
theorem El.all {α : Type} (E : El α) (x : α) : (List.range E.sz).map (fun j => ((E.c x)[j]?).getD undef) = E.c x := by
 refine List.ext_getElem (by simp [E.len]) fun n h1 h2 => ?_
 simp [List.getElem?_eq_getElem h2]
theorem own_in {α β : Type} [Inhabited α] [Inhabited β] {E : El α} {V : Vw β} {W : World} {B : Nat} {e : TypeId} {v : Value} {l : List α} {l' : List β} (h : OwnE E W B e v l) (hs : V.sz = E.sz) (hl : l.length = l'.length) (hok : ∀ i, i < l'.length → V.ok W (E.c (nth l i)) (nth l' i)) : InS V W v l' :=
 ⟨_, by rw [hs, ← hl]; exact OwnE.sliced h, fun i hi => by
  rw [hs]
  show V.ok W ((List.range E.sz).map (fun j => ((E.c (nth l i))[j]?).getD undef)) _
  rw [El.all]; exact hok i hi⟩
theorem own_inV {W : World} {B : Nat} {v : Value} {l : List Vl} (h : OwnE elV W B 50 v l) (hl : ∀ x ∈ l, VB x) : InS vVal W v l :=
 own_in h rfl rfl fun _ hi => ⟨rfl, hl _ (nth_mem _ _ hi)⟩
theorem MM.obsIn {B : Nat} {W0 : World} {u : Un} {v0 v1 : Value} {b : Nat} {y : Ly} {m : Mch} {Z Z' : World} (h : MM B W0 u v0 v1 b y m Z) {q : Nat} (hg : Z.grownBy Z' (some q)) (hq : q < B) (H : UOk u) (M : MT u m) (N : NB m) (P : MB m) (hf : u.fs.length ≤ 256) (hl : m.ob.length ≤ 1048576) : InS vOb Z' y.os.v m.ob := by
 have key : ∀ {α : Type} {E : El α} {e : TypeId} {v : Value} {l : List α}, OwnE E Z B e v l → OwnE E Z' B e v l := fun ho => ho.grown hg (by
  rename_i v _
  cases hv : v.ownBlock with
  | none => exact .inl rfl
  | some k => exact .inr fun e => by have := (OwnE.lt ho k hv).1; injection e with e; omega)
 refine own_in (key h.ob) rfl (obs_len _ _) fun i hi => ?_
 rw [nth_obs hi]
 have h1 := M.ob i hi
 have h2 := M.oc i hi
 have h3 := N.ob _ (nth_mem _ _ hi)
 have h4 := M.nl
 have h5 := (H.fn (nth m.ob i).f.toNat (by have := h1.f; omega)).len.2
 have h6 := h1.f
 have h7 := h1.i
 have h8 : -1 ≤ (nth m.ob i).c ∧ (nth m.ob i).c ≤ 1048576 := by
  rcases h2 with e | ⟨e1, e2, -⟩
  ·omega
  ·rw [List.length_take] at e2; omega
 refine ⟨(nth y.ov i).v, rfl, ⟨?_, ?_, ?_, ?_⟩, own_inV (key ((h.own .ov) i hi).1) (P.ob i)⟩ <;> (unfold inI; constructor <;> omega)
theorem OwnE.src {α : Type} {E : El α} {w : World} {base : Nat} {e : TypeId} {v : Value} {l : List α} (h : OwnE E w base e v l) : SrcE E w v l := by
 have ho := h
 obtain ⟨h1, ⟨rfl, h2⟩ | ⟨g, cap, cur, rfl, hg, hh, hc, hm, hsz, htk⟩⟩ := h
 ·have hl : l = [] := List.eq_nil_of_length_eq_zero h2
  subst hl
  exact ⟨none, 0, rfl, fun _ => rfl, fun j y hj => by simp at hj⟩
 ·refine ⟨some ⟨g, 0, none⟩, cap, rfl, by simp, fun j y hj => ⟨_, rfl, ?_⟩⟩
  have hjl := (List.getElem?_eq_some_iff.1 hj).1
  rw [flat_len] at hjl
  have := World.ownsRow.cellAt ho j hjl
  rw [add0, this]; exact hj
end Go.Proofs.YtnklnklkblgnfaaGreatDoor
end
section
namespace Go.Proofs.YtnklnklkblgnfaaGreatDoor
open Go.RowKit Go.Dfl Go.Obs Go.Hir
open Go.Gra (gen_code gen_calls)
def RunR (u : Un) (inp : List Int) (st : Int) (W : World) (E : Ending) (W' : World) : Prop := ∃ (e c : Int) (s : Sl), E = .returned (.tuple #[.agg #[.int .i64 e, .slice s.a s.n s.c], .int .i64 c]) ∧ Below W.heap.size W W' ∧
 (c = 0 → UOk u ∧ u.cs.length ≤ 64 ∧ u.fs.length ≤ 256 ∧ inp.length ≤ 1000 ∧ 0 ≤ st ∧ st ≤ 5000 ∧ MT u (Hir.runN u st.toNat (startM u inp)).1 ∧ InS vOb W' s.v (Hir.runN u st.toNat (startM u inp)).1.ob)
theorem store2 {Z : World} {b : Nat} {z0 z1 y0 y1 : Value} {t : TypeId} (h : Z.heap[b]? = some (.cells #[z0, z1] t)) :
  (Z.cell? ⟨b, 0, none⟩ = some z0 ∧ Z.cell? ⟨b, 1, none⟩ = some z1 ∧ ∀ j, Z.frozen? ⟨b, j, none⟩ = false) ∧
  Z.grownBy ((Z.setCell ⟨b, 0, none⟩ y0).setCell ⟨b, 1, none⟩ y1) (some b) := by
 refine ⟨⟨by simp [World.cell?, h], by simp [World.cell?, h], fun j => by simp [World.frozen?, h]⟩, grownBy_trans (grownBy_setCell _ _ _) (grownBy_setCell _ _ _)⟩
set_option maxHeartbeats 6400000 in
set_option maxRecDepth 8000 in
theorem rRun_any (u : Un) (v0 v1 iv : Value) (inp : List Int) (st : Int) (W : World) (h : UnIn W v0 v1 u) (hi : InS vI W iv inp) (hw : UnW u) (hF : ∀ d ∈ u.cs, d.fs.length ≤ 1048576) (hcn : cdN u.fs ≤ 1048576) (hn : ∀ f ∈ u.fs, ∀ x ∈ f.cd, R64 x.n) (hri : ∀ x ∈ inp, R64 x) (hs : ∀ i k, ((siU u.fs i k).length : Int) ≤ 9223372036854775807) :
  Calls Tryz.prog 5 #[unV u v0 v1, iv, .int .i64 st] W (RunR u inp st W) := by
 obtain ⟨ia, ic, rfl⟩ := hi.shape
 obtain ⟨N, hN⟩ : ∃ N, N = inp.length := ⟨_, rfl⟩
 rw [← hN] at hi ⊢
 have hE1 := (Env.refl W).alloc [v0, v1, .int .i64 u.mn] 27
 have hE2 := (hE1.below ((Below.refl _ _).alloc (Nat.le_refl _) (.cells #[.int .i64 0, .slice none 0 0] 32))).add (q := fkH _ (.cells #[.int .i64 0, .slice none 0 0] 32)) (heap_alloc_new _ _)
 simp only [World.size_alloc] at hE2
 have HE := Lib.hid hE2
 have HC := Lib.hid (And.intro (And.intro h hi) (And.intro hN (And.intro hw (And.intro hF (And.intro hcn (And.intro hn (And.intro hri hs)))))))
 clear h hi hN hw hF hcn hn hri hs hE1 hE2
 unfold unV
 go_enter Tryz.func5, Tryz.ntmps5
 go_upto_region 1 with fail
 refine gen_code (fun Z => Env W [fkH (W.heap.size + 1) (.cells #[.int .i64 0, .slice none 0 0] 32), fkC W.heap.size [v0, v1, .int .i64 u.mn]] Z) HE.out ?_
 intro Z hZ
 obtain ⟨bu, hbu⟩ : ∃ b, b = W.heap.size := ⟨_, rfl⟩
 obtain ⟨br, hbr⟩ : ∃ b, b = W.heap.size + 1 := ⟨_, rfl⟩
 have HB := Lib.hid (And.intro hbu hbr)
 rw [← hbr, ← hbu] at hZ ⊢
 have HZ := Lib.hid hZ
 have e0 := hZ.cell 1 rfl 0 rfl
 have e1 := hZ.cell 1 rfl 1 rfl
 have e2 := hZ.cell 1 rfl 2 rfl
 clear hZ hbu hbr HE
 go_wp2_with fail
 refine (rCheck13_any u v0 v1 _ (HC.out.1.1.below HZ.out.bel) HC.out.2.2.1).mono ?_
 rintro E W1 ⟨i, j, n, rfl, hn, b1⟩
 have HE1 := Lib.hid (HZ.out.below b1)
 have HN := Lib.hid hn
 clear hn b1 e0 e1 e2
 have hN1 : W1.heap[br]? = some (.cells #[.int .i64 0, .slice none 0 0] 32) := HE1.out.fact 0 rfl
 by_cases hn0 : n = 0
 case neg =>
  have t1 : (n == 0) = false := by simpa using hn0
  have t2 : (n != 0) = true := by simpa using hn0
  have HX := Lib.hid hn0
  obtain ⟨⟨z0, z1, zf⟩, hG⟩ := store2 (y0 := (.int .i64 0)) (y1 := (.slice none 0 0)) hN1
  have f0 := zf 0
  have f1 := zf 1
  have HG := Lib.hid hG
  clear hG zf
  clear hn0 hN1
  go_wp2_with fail
  (try simp only [Exit.inBlock, Exit.then])
  refine bodyPost_ret (v := .tuple #[.agg #[.int .i64 0, .slice none 0 0], .int .i64 n]) (by rw [results_cell_tmp rfl]; go_simp; try rfl) rfl ?_
  exact ⟨0, n, ⟨none, 0, 0⟩, rfl, HE1.out.bel.grown HG.out HE1.out.bel.size (fun q e => by injection e with e; have := HB.out.2; omega), fun e => absurd e HX.out⟩
 have t1 : (n == 0) = true := by simp [hn0]
 have t2 : (n != 0) = false := by simp [hn0]
 have HU := Lib.hid (HN.out hn0)
 clear hn0
 have hNl : N ≤ 9223372036854775807 := ins_len (HC.out.1.2) |> fun h => by rw [HC.out.2.1]; exact h
 by_cases h1000 : 1000 < N
 ·have t3 : decide ((1000 : Int) < (N : Int)) = true := decide_eq_true (by omega)
  have t4 : decide (1000 < N) = true := decide_eq_true h1000
  obtain ⟨⟨z0, z1, zf⟩, hG⟩ := store2 (y0 := (.int .i64 0)) (y1 := (.slice none 0 0)) hN1
  have f0 := zf 0
  have f1 := zf 1
  have HG := Lib.hid hG
  clear hG zf
  clear hN1
  go_wp2_with fail
  (try simp only [Exit.inBlock, Exit.then])
  refine bodyPost_ret (v := .tuple #[.agg #[.int .i64 0, .slice none 0 0], .int .i64 3]) (by rw [results_cell_tmp rfl]; go_simp; try rfl) rfl ?_
  exact ⟨0, 3, ⟨none, 0, 0⟩, rfl, HE1.out.bel.grown HG.out HE1.out.bel.size (fun q e => by injection e with e; have := HB.out.2; omega), fun e => by cases e⟩
 have t3 : decide ((1000 : Int) < (N : Int)) = false := decide_eq_false (by omega)
 have t4 : decide (1000 < N) = false := decide_eq_false h1000
 have HNN := Lib.hid h1000
 clear h1000
 by_cases hlo : st < 0
 ·have t5 : decide (st < 0) = true := decide_eq_true hlo
  obtain ⟨⟨z0, z1, zf⟩, hG⟩ := store2 (y0 := (.int .i64 0)) (y1 := (.slice none 0 0)) hN1
  have f0 := zf 0
  have f1 := zf 1
  have HG := Lib.hid hG
  clear hG zf
  clear hN1 hlo
  go_wp2_with fail
  (try simp only [Exit.inBlock, Exit.then])
  refine bodyPost_ret (v := .tuple #[.agg #[.int .i64 0, .slice none 0 0], .int .i64 4]) (by rw [results_cell_tmp rfl]; go_simp; try rfl) rfl ?_
  exact ⟨0, 4, ⟨none, 0, 0⟩, rfl, HE1.out.bel.grown HG.out HE1.out.bel.size (fun q e => by injection e with e; have := HB.out.2; omega), fun e => by cases e⟩
 have t5 : decide (st < 0) = false := decide_eq_false hlo
 by_cases hhi : 5000 < st
 ·have t6 : decide (5000 < st) = true := decide_eq_true hhi
  obtain ⟨⟨z0, z1, zf⟩, hG⟩ := store2 (y0 := (.int .i64 0)) (y1 := (.slice none 0 0)) hN1
  have f0 := zf 0
  have f1 := zf 1
  have HG := Lib.hid hG
  clear hG zf
  clear hN1 hlo hhi
  go_wp2_with fail
  (try simp only [Exit.inBlock, Exit.then])
  refine bodyPost_ret (v := .tuple #[.agg #[.int .i64 0, .slice none 0 0], .int .i64 4]) (by rw [results_cell_tmp rfl]; go_simp; try rfl) rfl ?_
  exact ⟨0, 4, ⟨none, 0, 0⟩, rfl, HE1.out.bel.grown HG.out HE1.out.bel.size (fun q e => by injection e with e; have := HB.out.2; omega), fun e => by cases e⟩
 have t6 : decide (5000 < st) = false := decide_eq_false hhi
 obtain ⟨S, hS⟩ : ∃ S : Nat, st = (S : Int) := ⟨st.toNat, by omega⟩
 have HS := Lib.hid (And.intro hS (show st.toNat = S ∧ S ≤ 5000 from ⟨by omega, by omega⟩))
 have e0 := HE1.out.cell 1 rfl 0 rfl
 have e1 := HE1.out.cell 1 rfl 1 rfl
 have e2 := HE1.out.cell 1 rfl 2 rfl
 obtain ⟨mn, hmn⟩ : ∃ mn : Nat, u.mn = (mn : Int) := ⟨u.mn.toNat, by have := HU.out.1.mn; omega⟩
 have hi1 : InS vI W1 (.slice ia N ic) inp := HC.out.1.2.below HE1.out.bel
 have hM0 := MM.start (u := u) (v0 := v0) (v1 := v1) (Below.refl W1.heap.size W1) hi1 64
 have HM0 := Lib.hid hM0
 have HMN := Lib.hid hmn
 clear hlo hhi hS hmn hi1 hM0 hN1
 go_upto_region 9 with fail
 clear t1 t2 t3 t4 t5 t6 e0 e1 e2
 refine gen_code (fun Z' => MM W1.heap.size W1 u v0 v1 W1.heap.size (ly0 W1.heap.size (.slice ia N ic)) ⟨inp, [], [], 0, []⟩ Z' ∧ Below W1.heap.size W1 Z') ⟨HM0.out, HM0.out.bel⟩ ?_
 rintro Z2 ⟨hM2, hb2⟩
 obtain ⟨bm, hbm⟩ : ∃ b, b = W1.heap.size := ⟨_, rfl⟩
 have e2 : Z2.cell? ⟨bu, 2, none⟩ = some (.int .i64 (mn : Int)) := by rw [← HMN.out]; exact (fkC bu _).k (HE1.out.fact 1 rfl) hb2 2 _ rfl
 have hM2 : MM W1.heap.size W1 u v0 v1 bm (ly0 bm (.slice ia N ic)) ⟨inp, [], [], 0, []⟩ Z2 := by rw [hbm]; exact hM2
 rw [← hbm]
 have HM2 := Lib.hid hM2
 have HMF := Lib.hid (show mn < u.fs.length by have := HU.out.1.mn; have := HMN.out; omega)
 have hbr1 : br < W1.heap.size := by
  have h1 : W1.heap[br]? = some _ := HE1.out.fact 0 rfl
  by_cases e : br < W1.heap.size
  ·exact e
  ·rw [Array.getElem?_eq_none (by omega)] at h1; cases h1
 have HBR := Lib.hid (And.intro hbr1 hbm)
 have HU1 := Lib.hid (HC.out.1.1.below HE1.out.bel)
 obtain ⟨s0, hs0⟩ : ∃ s0, s0 = startM u inp := ⟨_, rfl⟩
 have HS0 := Lib.hid hs0
 clear hM2 hb2 hbm hbr1 hs0 HM0
 go_wp2_with fail
 refine (rEnter_any HM2.out HU1.out.2 HMF.out (HU.out.1.fn mn HMF.out).len.1 [] ⟨none, 0, 0⟩ W1.heap.size (OwnE.nil _ _ _ _) (by simp) (by show 0 ≤ 64; omega) (by show (0 : Int) ≤ 0; omega) (by show (0 : Int) ≤ 1048576; omega) (by show 0 ≤ 1048576; omega)).mono ?_
 rintro E Z3 ⟨rfl, y3, hM3, hen3⟩
 have hst := start_ok HU.out.1 inp
 have hR0 : RunI u s0 0 := by
  rw [HS0.out]
  refine ⟨hst.1, ?_, ?_, rfl, fun _ => hst.2⟩
  ·show MB (startM u inp)
   have h0 : MB ⟨inp, [], [], 0, []⟩ := ⟨HC.out.2.2.2.2.2.2.1, fun k => by
    show (∀ v ∈ (nth ([] : List Frm) k).vs, VB v) ∧ VB (nth ([] : List Frm) k).ex
    rw [nth_out _ _ (by simp)]; exact ⟨fun v hv => (by cases hv), vb_zero⟩, fun k => by
    show ∀ x ∈ (nth ([] : List Hir.Obj) k).sl, VB x.2
    rw [nth_out _ _ (by simp)]; exact fun v hv => (by cases hv), fun k => by
    show ∀ v ∈ (nth ([] : List Ob) k).vs, VB v
    rw [nth_out _ _ (by simp)]; exact fun v hv => (by cases hv)⟩
   refine h0.pushF (g := ⟨u.mn.toNat, 0, 0, -1, pad [] (nth u.fs u.mn.toNat).vs.length, default⟩) (fun v hv => ?_) vb_zero 1
   have hv : v ∈ pad [] (nth u.fs u.mn.toNat).vs.length := hv
   unfold pad at hv
   rcases List.mem_append.1 hv with h1 | h1
   ·cases h1
   ·rw [(List.mem_replicate.1 h1).2]; exact vb_zero
  ·show NB (startM u inp)
   exact NB.ent (m := ⟨inp, [], [], 0, []⟩) ⟨by show (0 : Int) ≤ 0; omega, fun g hg => (by cases hg), fun o ho => (by cases ho)⟩ _ _
 have HL := Lib.hid (show RunI u s0 0 ∧ MM W1.heap.size W1 u v0 v1 bm y3 (Hir.runN u 0 s0).1 Z3 ∧ y3.en = (Hir.runN u 0 s0).2 from ⟨hR0, by
  rw [HS0.out]
  show MM _ _ _ _ _ _ _ (startM u inp) _
  unfold startM
  rw [HMN.out]; exact hM3, hen3⟩)
 clear hst hR0 hM3 hen3 e2 HM2
 go_wp2_with fail
 go_loopg [] S (fun g wr => ∃ k y, k + g = S ∧ Hid (RunI u s0 k ∧ MM W1.heap.size W1 u v0 v1 bm y (Hir.runN u k s0).1 wr ∧ y.en = (Hir.runN u k s0).2))
 case atStart => exact ⟨0, y3, by omega, HL.out⟩
 case round =>
  clear HL
  obtain ⟨k, y, hk, hh⟩ := hrel
  have HM := Lib.hid hh.out.2.1
  have HR := Lib.hid (And.intro hh.out.1 hh.out.2.2)
  have c7 : wr.cell? ⟨bm, 7, none⟩ = some (.int .i64 y.en) := HM.out.bx 7 _ rfl
  obtain ⟨en, hen⟩ : ∃ en, en = y.en := ⟨_, rfl⟩
  rw [← hen] at c7
  clear hh
  by_cases he0 : en = 0
  case neg =>
   have t1 : (en == 0) = false := by simpa using he0
   have c8 : wr.cell? ⟨bm, 8, none⟩ = some (.slice y.os.a y.os.n y.os.c) := HM.out.bx 8 _ rfl
   have hN : wr.heap[br]? = some (.cells #[.int .i64 0, .slice none 0 0] 32) := by
    rw [HM.out.bel.block br HBR.out.1]; exact HE1.out.fact 0 rfl
   obtain ⟨⟨z0, z1, zf⟩, hG⟩ := store2 (y0 := (.int .i64 en)) (y1 := (.slice y.os.a y.os.n y.os.c)) hN
   have f0 := zf 0
   have f1 := zf 1
   have HG := Lib.hid hG
   clear hG zf
   have HX := Lib.hid (And.intro (show Hir.runN u S s0 = Hir.runN u k s0 by
    rw [show S = k + gk by omega]
    exact run_stop (by rw [← HR.out.2, ← hen]; exact he0) gk) (show k ≤ S by omega))
   clear hN he0 hen hk
   go_wp2_with fail
   (try simp only [Exit.inBlock, Exit.then])
   refine bodyPost_ret (v := .tuple #[.agg #[.int .i64 en, .slice y.os.a y.os.n y.os.c], .int .i64 0]) (by rw [results_cell_tmp rfl]; go_simp; try rfl) rfl ?_
   have hk5 : k ≤ 5000 := Nat.le_trans HX.out.2 HS.out.2.2
   refine ⟨en, 0, y.os, rfl, (HE1.out.bel.trans (HM.out.bel.mono HE1.out.bel.size)).grown HG.out (HE1.out.bel.trans (HM.out.bel.mono HE1.out.bel.size)).size (fun q e => by injection e with e; have := HB.out.2; omega), fun _ => ⟨HU.out.1, HU.out.2.1, HU.out.2.2, by have h1 := HNN.out; have h2 := HC.out.2.1; omega, by have := HS.out.1; omega, by have h1 := HS.out.1; have h2 := HS.out.2; omega, ?_, ?_⟩⟩
   ·rw [HS.out.2.1, ← HS0.out, HX.out.1]; exact HR.out.1.mt
   ·rw [HS.out.2.1, ← HS0.out, HX.out.1]
    exact HM.out.obsIn HG.out HBR.out.1 HU.out.1 HR.out.1.mt HR.out.1.nb HR.out.1.mb HU.out.2.2 (by rw [HR.out.1.ob]; omega)
  have HE0 := Lib.hid (show (Hir.runN u k s0).2 = 0 by rw [← HR.out.2, ← hen]; exact he0)
  rw [he0] at c7
  have hos : y.os.n = k := HM.out.nO.trans HR.out.1.ob
  have c8 : wr.cell? ⟨bm, 8, none⟩ = some (.slice y.os.a k y.os.c) := by rw [← hos]; exact HM.out.bx 8 _ rfl
  have HOS := Lib.hid hos
  clear hen he0 hos
  by_cases hkS : k = S
  ·have t1 : ((k : Int) == st) = true := by rw [HS.out.1, hkS]; simp
   have f7 := HM.out.frz 7
   have HM4 := Lib.hid (HM.out.setE 4)
   have HX := Lib.hid (And.intro (show Hir.runN u S s0 = Hir.runN u k s0 by rw [hkS]) (show k ≤ S by omega))
   clear hkS hk
   go_upto_region 16 with fail
   refine gen_code (fun Z' => MM W1.heap.size W1 u v0 v1 bm { y with en := 4 } (Hir.runN u k s0).1 Z') HM4.out ?_
   intro Z5 hM5
   clear t1 f7 c7 c8
   have HM5 := Lib.hid hM5
   have c7 : Z5.cell? ⟨bm, 7, none⟩ = some (.int .i64 4) := hM5.bx 7 _ rfl
   have c8 : Z5.cell? ⟨bm, 8, none⟩ = some (.slice y.os.a y.os.n y.os.c) := hM5.bx 8 _ rfl
   have hN : Z5.heap[br]? = some (.cells #[.int .i64 0, .slice none 0 0] 32) := by
    rw [hM5.bel.block br HBR.out.1]; exact HE1.out.fact 0 rfl
   obtain ⟨⟨z0, z1, zf⟩, hG⟩ := store2 (y0 := (.int .i64 4)) (y1 := (.slice y.os.a y.os.n y.os.c)) hN
   have f0 := zf 0
   have f1 := zf 1
   have HG := Lib.hid hG
   clear hG zf
   clear hN hM5 HM4
   go_wp2_with fail
   (try simp only [Exit.inBlock, Exit.then])
   refine bodyPost_ret (v := .tuple #[.agg #[.int .i64 4, .slice y.os.a y.os.n y.os.c], .int .i64 0]) (by rw [results_cell_tmp rfl]; go_simp; try rfl) rfl ?_
   have hk5 : k ≤ 5000 := Nat.le_trans HX.out.2 HS.out.2.2
   refine ⟨4, 0, y.os, rfl, (HE1.out.bel.trans (HM5.out.bel.mono HE1.out.bel.size)).grown HG.out (HE1.out.bel.trans (HM5.out.bel.mono HE1.out.bel.size)).size (fun q e => by injection e with e; have := HB.out.2; omega), fun _ => ⟨HU.out.1, HU.out.2.1, HU.out.2.2, by have h1 := HNN.out; have h2 := HC.out.2.1; omega, by have := HS.out.1; omega, by have h1 := HS.out.1; have h2 := HS.out.2; omega, ?_, ?_⟩⟩
   ·rw [HS.out.2.1, ← HS0.out, HX.out.1]; exact HR.out.1.mt
   ·rw [HS.out.2.1, ← HS0.out, HX.out.1]
    exact HM5.out.obsIn HG.out HBR.out.1 HU.out.1 HR.out.1.mt HR.out.1.nb HR.out.1.mb HU.out.2.2 (by rw [HR.out.1.ob]; omega)
  have t1 : ((k : Int) == st) = false := by rw [HS.out.1]; simp; omega
  have HKS := Lib.hid (show k < S by omega)
  obtain ⟨mk, hmk⟩ : ∃ mk, mk = (Hir.runN u k s0).1 := ⟨_, rfl⟩
  rw [← hmk] at HM
  have HR9 := Lib.hid (show MT u mk ∧ mk.ob.length = k ∧ 0 < mk.fr.length by rw [hmk]; exact ⟨HR.out.1.mt, HR.out.1.ob, HR.out.1.pos HE0.out⟩)
  have HMK := Lib.hid hmk
  clear hkS hmk
  go_upto_region 13 with fail
  clear t1 c7 c8
  go_wp2_with fail
  refine (rTop_any HM.out HR9.out.2.2 HR9.out.1.dep).mono ?_
  rintro E W5 ⟨rfl, b5⟩
  have HM5 := Lib.hid (HM.out.below b5)
  clear b5
  obtain ⟨q0, q1, q2, q3, q4, -⟩ := HM5.out.rdT HR9.out.2.2
  obtain ⟨t, ht⟩ : ∃ t, t = tpN mk := ⟨_, rfl⟩
  rw [← ht] at q0 q1 q2 q3 q4 ⊢
  obtain ⟨g, hg⟩ : ∃ g, g = tp mk := ⟨_, rfl⟩
  rw [← hg] at q0 q1 q2 q3
  obtain ⟨s, hs⟩ : ∃ s, s = nth y.fv t := ⟨_, rfl⟩
  rw [← hs] at q4
  have HT := Lib.hid (And.intro ht (And.intro hg hs))
  clear ht hg hs
  have c8 : W5.cell? ⟨bm, 8, none⟩ = some (.slice y.os.a k y.os.c) := by rw [← HOS.out]; exact HM5.out.bx 8 _ rfl
  go_upto_region 14 with fail
  have HS5 := Lib.hid (show (fun w' : World => w'.cell? ⟨bm, 8, none⟩ = some (.slice y.os.a k y.os.c) ∧ w'.cell? ⟨blk y.fs.a, ofs y.fs.a + t * 8, none⟩ = some (.int .i64 (g.f : Int)) ∧ w'.cell? ⟨blk y.fs.a, ofs y.fs.a + t * 8 + 1, none⟩ = some (.int .i64 (g.i : Int)) ∧ w'.cell? ⟨blk y.fs.a, ofs y.fs.a + t * 8 + 2, none⟩ = some (.int .i64 g.no) ∧ w'.cell? ⟨blk y.fs.a, ofs y.fs.a + t * 8 + 3, none⟩ = some (.int .i64 g.cl) ∧ w'.cell? ⟨blk y.fs.a, ofs y.fs.a + t * 8 + 4, none⟩ = some (.slice s.a s.n s.c)) W5.drew from ⟨c8, q0, q1, q2, q3, q4⟩)
  have HMD := Lib.hid (HM5.out.below ((Below.refl _ _).drew))
  clear c8 q0 q1 q2 q3 q4 HM HM5
  refine wp_region_mix [0, 1, 2, 3, 4, 5, 6, 7, 8, 9, 10, 11, 12, 13, 14, 15, 16, 17, 18, 19, 20, 21, 23, 24, 25, 26] [22, 27, 28, 29, 30, 31, 32, 33, 34] (fun w' => w'.cell? ⟨bm, 8, none⟩ = some (.slice y.os.a k y.os.c) ∧ w'.cell? ⟨blk y.fs.a, ofs y.fs.a + t * 8, none⟩ = some (.int .i64 (g.f : Int)) ∧ w'.cell? ⟨blk y.fs.a, ofs y.fs.a + t * 8 + 1, none⟩ = some (.int .i64 (g.i : Int)) ∧ w'.cell? ⟨blk y.fs.a, ofs y.fs.a + t * 8 + 2, none⟩ = some (.int .i64 g.no) ∧ w'.cell? ⟨blk y.fs.a, ofs y.fs.a + t * 8 + 3, none⟩ = some (.int .i64 g.cl) ∧ w'.cell? ⟨blk y.fs.a, ofs y.fs.a + t * 8 + 4, none⟩ = some (.slice s.a s.n s.c)) (by kernel_rfl) (by kernel_rfl) (by kernel_rfl) HS5.out ?_
  repeat (
   refine wpHeads_cons (v := ?_) rfl (Or.inl ⟨by rfl, ?_⟩) ?_
   rotate_left
   ·(intro W hW; obtain ⟨x1, x2, x3, x4, x5, x6⟩ := hW; (try go_simp); try with_reducible rfl)
   simp only [Act.put, List.setIfInBounds_toArray, List.getElem_toArray, List.getElem_cons_zero, List.getElem_cons_succ, List.set_cons_succ, List.set_cons_zero])
  refine wpHeads_nil ?_
  generalize W5.drew = V at *
  have hrowV : OwnE elV V W1.heap.size 50 s.v g.vs := by
   have h1 := (HMD.out.own (.fv t) (by have := HR9.out.2.2; have := HT.out.1; unfold tpN at this; omega)).1
   rw [← HT.out.2.2] at h1
   have e : nth mk.fr t = g := by rw [HT.out.1, HT.out.2.1]; rfl
   rw [e] at h1; exact h1
  have hsn : s.n = g.vs.length := shapeV hrowV
  have hvl : g.vs.length ≤ 256 := by
   have h1 := (HR9.out.1.top HR9.out.2.2)
   rw [← HT.out.2.1] at h1
   rw [h1.len]; exact (HU.out.1.fn _ h1.f).len.1
  have hown0 : OwnE elV (V.alloc (.cells #[] 50)) V.heap.size 50 (.slice (some ⟨V.heap.size, 0, none⟩) 0 0) [] := ownE_empty0 rfl (Nat.le_refl _)
  have hb0 : Below V.heap.size V (V.alloc (.cells #[] 50)) := (Below.refl _ _).alloc (Nat.le_refl _) _
  have hS0 := HS5.out
  have hcell : ∀ V', Below V.heap.size V V' → (fun w' : World => w'.cell? ⟨bm, 8, none⟩ = some (.slice y.os.a k y.os.c) ∧ w'.cell? ⟨blk y.fs.a, ofs y.fs.a + t * 8, none⟩ = some (.int .i64 (g.f : Int)) ∧ w'.cell? ⟨blk y.fs.a, ofs y.fs.a + t * 8 + 1, none⟩ = some (.int .i64 (g.i : Int)) ∧ w'.cell? ⟨blk y.fs.a, ofs y.fs.a + t * 8 + 2, none⟩ = some (.int .i64 g.no) ∧ w'.cell? ⟨blk y.fs.a, ofs y.fs.a + t * 8 + 3, none⟩ = some (.int .i64 g.cl) ∧ w'.cell? ⟨blk y.fs.a, ofs y.fs.a + t * 8 + 4, none⟩ = some (.slice s.a s.n s.c)) V' := fun V' hb => by
   have g5 := grownBy_below hb
   exact ⟨g5.cell hS0.1 (by simp), g5.cell hS0.2.1 (by simp), g5.cell hS0.2.2.1 (by simp), g5.cell hS0.2.2.2.1 (by simp), g5.cell hS0.2.2.2.2.1 (by simp), g5.cell hS0.2.2.2.2.2 (by simp)⟩
  have hsrc : SrcE elV (V.alloc (.cells #[] 50)) (.slice s.a s.n s.c) g.vs := OwnE.src (hrowV.grown (grownBy_below hb0) (by cases s.v.ownBlock <;> simp))
  have HCE := Lib.hid hcell
  have HO := Lib.hid (And.intro hown0 (And.intro hb0 (And.intro hsrc (And.intro hrowV (And.intro hsn hvl)))))
  clear hrowV hsn hvl hown0 hb0 hS0 hcell hsrc
  refine wpTails_cons rfl ?_
  go_wp2_with fail
  refine tail_mk (HCE.out _ HO.out.2.1) ?_
  refine wpTails_cons rfl ?_
  refine wp_appendSE (E := elV) (v := .slice (some ⟨V.heap.size, 0, none⟩) 0 0) (l := []) (m := g.vs) (base := V.heap.size) sVa rfl rfl _ _ rfl rfl rfl HO.out.1 HO.out.2.2.1 (by have := HO.out.2.2.2.2.2; simp; omega) (by have := HO.out.2.2.2.2.2; simp; omega) HO.out.2.1.size ?_
  intro v' w3 hown hgr hat
  rw [List.nil_append] at hown
  obtain ⟨n9, hn9⟩ : ∃ n9, n9 = g.vs.length := ⟨_, rfl⟩
  obtain ⟨s9, c9, rfl⟩ := hown.shape hn9.symm
  have hb3 : Below V.heap.size V w3 := HO.out.2.1.grown hgr HO.out.2.1.size (fun q e => (OwnE.lt HO.out.1 q e).1)
  have H3 := Lib.hid (And.intro hown (And.intro hb3 hn9))
  have hown4 : OwnE elV (w3.alloc (.cells #[.int .i64 (g.f : Int), .int .i64 (g.i : Int), .int .i64 g.no, .int .i64 g.cl, .slice s9 n9 c9] 53)) V.heap.size 50 (.slice s9 n9 c9) g.vs := hown.grown (grownBy_alloc w3 _) (by cases (Value.slice s9 n9 c9).ownBlock <;> simp)
  have hb4 := hb3.alloc hb3.size (.cells #[.int .i64 (g.f : Int), .int .i64 (g.i : Int), .int .i64 g.no, .int .i64 g.cl, .slice s9 n9 c9] 53)
  have H4 := Lib.hid (And.intro hown4 (And.intro hb4 (HMD.out.below hb4)))
  have hol : (obs mk y.ov).length = k := by rw [obs_len]; exact HR9.out.2.1
  have hk5 : k ≤ 5000 := by have := HKS.out; have := HS.out.2.2; omega
  have HOL := Lib.hid (show ((obs mk y.ov).length + 1) * 56 ≤ 140737488355328 ∧ (obs mk y.ov).length + 1 ≤ 1000000000000 by omega)
  clear hown hgr hat hb3 hn9 hown4 hb4 hol hk5
  refine tail_mk (HCE.out _ H3.out.2.1) ?_
  refine wpTails_cons rfl ?_
  go_wp2_with fail
  refine tail_mk (HCE.out _ H3.out.2.1) ?_
  refine wpTails_cons rfl ?_
  go_wp2_with fail
  refine tail_mk (HCE.out _ H4.out.2.1) ?_
  refine wpTails_cons rfl ?_
  refine wp_appendE (E := elB) sOb5 rfl rfl _ _ rfl (v := .slice y.os.a k y.os.c) (l := obs mk y.ov) (base := W1.heap.size) rfl w3.heap.size rfl (by have h1 := H4.out.2.2.ob; unfold Sl.v at h1; rw [HOS.out] at h1; exact h1) ⟨(g.f : Int), (g.i : Int), g.no, g.cl, ⟨s9, n9, c9⟩⟩ (cells_new (W := w3) (cs := [.int .i64 (g.f : Int), .int .i64 (g.i : Int), .int .i64 g.no, .int .i64 g.cl, .slice s9 n9 c9]) (t := 53) rfl) HOL.out.1 HOL.out.2 H4.out.2.2.bel.size ?_
  intro v' w4 hown hgr hat
  obtain ⟨nb, hnb⟩ : ∃ nb, nb = (obs mk y.ov).length + 1 := ⟨_, rfl⟩
  obtain ⟨sb, cb, rfl⟩ := hown.shape (n := nb) (by rw [hnb]; simp)
  have e9 : y.os.v.ownBlock = (Value.slice y.os.a k y.os.c).ownBlock := by unfold Sl.v; rw [HOS.out]
  rw [← e9] at hgr hat
  obtain ⟨⟨z8, f8⟩, rl', -, hMF⟩ := H4.out.2.2.pushO (o := ⟨(g.f : Int), (g.i : Int), g.no, g.cl, g.vs⟩) (s := ⟨s9, n9, c9⟩) (v' := ⟨sb, nb, cb⟩) (H4.out.1.mono9 HMD.out.bel.size) (fun q e => HMD.out.rlo q (OwnE.lt H4.out.1 q e).1) hown hgr hat
  have hfr4 := keepR (H4.out.2.2.own .fr).1 (H4.out.2.2.own .fr).2 hgr (fun q e => by rw [(H4.out.2.2.own .ob).2 q e]; decide)
  have htl : t < mk.fr.length := by have := HR9.out.2.2; have := HT.out.1; unfold tpN at this; omega
  have hrd := (OwnE.reads hfr4 sFr).2 t (by rw [frs_len]; exact htl)
  rw [nth_frs htl, show nth mk.fr t = g by rw [HT.out.1, HT.out.2.1]; rfl, ← HT.out.2.2] at hrd
  have z8 : w4.cell? ⟨bm, 8, none⟩ = some (.slice y.os.a k y.os.c) := by rw [← HOS.out]; exact z8
  have H7 := Lib.hid (And.intro (show (fun w' : World => w'.cell? ⟨bm, 8, none⟩ = some (.slice y.os.a k y.os.c) ∧ w'.cell? ⟨blk y.fs.a, ofs y.fs.a + t * 8, none⟩ = some (.int .i64 (g.f : Int)) ∧ w'.cell? ⟨blk y.fs.a, ofs y.fs.a + t * 8 + 1, none⟩ = some (.int .i64 (g.i : Int)) ∧ w'.cell? ⟨blk y.fs.a, ofs y.fs.a + t * 8 + 2, none⟩ = some (.int .i64 g.no) ∧ w'.cell? ⟨blk y.fs.a, ofs y.fs.a + t * 8 + 3, none⟩ = some (.int .i64 g.cl) ∧ w'.cell? ⟨blk y.fs.a, ofs y.fs.a + t * 8 + 4, none⟩ = some (.slice s.a s.n s.c)) w4 from ⟨z8, hrd 0 _ rfl, hrd 1 _ rfl, hrd 2 _ rfl, hrd 3 _ rfl, hrd 4 _ rfl⟩) hMF)
  clear hown hgr hat e9 hMF hfr4 htl hrd hnb
  refine tail_mk H7.out.1 ?_
  refine wpTails_cons rfl ?_
  go_wp2_with fail
  refine tail_mk H7.out.1 ?_
  refine wpTails_cons rfl ?_
  go_wp2_with fail
  refine tail_mk H7.out.1 ?_
  refine wpTails_cons rfl ?_
  go_wp2_with fail
  refine tail_mk H7.out.1 ?_
  refine wpTails_one rfl ?_
  go_wp2_with fail
  refine thenQ_mk ?_
  go_upto_region 15 with fail
  clear z8 f8
  obtain ⟨y9, hy9⟩ : ∃ y9 : Ly, y9 = { y with rl := rl', os := ⟨sb, nb, cb⟩, ov := y.ov ++ [⟨s9, n9, c9⟩] } := ⟨_, rfl⟩
  refine gen_code (fun Z' => MM W1.heap.size W1 u v0 v1 bm y9 (recM mk) Z') (by
   rw [hy9]
   have h1 := H7.out.2
   have e : ({ mk with ob := mk.ob ++ [⟨(g.f : Int), (g.i : Int), g.no, g.cl, g.vs⟩] } : Mch) = recM mk := by rw [HT.out.2.1]; rfl
   rw [e] at h1; exact h1) ?_
  intro W9 hM9
  have HM9 := Lib.hid hM9
  have HMR := Lib.hid (HR9.out.1.recd HR9.out.2.2)
  have HOL2 := Lib.hid (show (recM mk).ob.length ≤ 1048576 by
   show (mk.ob ++ [recO mk]).length ≤ _
   rw [List.length_append, HR9.out.2.1]
   have := HKS.out; have := HS.out.2.2
   show k + 1 ≤ _; omega)
  clear hM9 hy9
  go_wp2_with fail
  refine (rStep_any HM9.out HU.out.1 HMR.out.1 HMR.out.2 HU1.out HU.out.2.1 HC.out.2.2.2.1 HC.out.2.2.2.2.1 HOL2.out HC.out.2.2.1.ar).mono ?_
  rintro E W10 ⟨rfl, y', hM10, hen10⟩
  obtain ⟨r, hr⟩ : ∃ r, r = stepP u (recM mk) := ⟨_, rfl⟩
  rw [← hr] at hM10 ⊢
  have c7 : W10.cell? ⟨bm, 7, none⟩ = some (.int .i64 y'.en) := hM10.bx 7 _ rfl
  have f7 := hM10.frz 7
  have HM11 := Lib.hid (hM10.setE r.2)
  have HNX := Lib.hid (RunI.next HU.out.1 HC.out.2.2.2.2.2.1 (by have := HKS.out; have := HS.out.2.2; omega) HR.out.1 HE0.out HC.out.2.2.2.2.2.2.2)
  have HRR := Lib.hid hr
  obtain ⟨g1, hg1⟩ : ∃ g1, gk = g1 + 1 := ⟨gk - 1, by have := HKS.out; omega⟩
  have HG1 := Lib.hid (show gk = g1 + 1 ∧ k + gk = S from ⟨hg1, hk⟩)
  clear hM10 hen10 hr hg1
  go_wp2_with fail
  go_roundg g1
  case rel => exact ⟨k + 1, { y' with en := r.2 }, by have := HG1.out; omega, HNX.out.1, by rw [HNX.out.2, ← HMK.out, ← HRR.out]; exact HM11.out, by rw [HNX.out.2, ← HMK.out, ← HRR.out]⟩
  case measure => exact (by have := HG1.out; omega)
end Go.Proofs.YtnklnklkblgnfaaGreatDoor
end
