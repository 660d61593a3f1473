/- Texts of the claim, merged. -/
import Derived.Laws.CopyRow
import Derived.Test.YtnklnklkblgnfaaGreatDoorVgb
section
namespace Go.Proofs.YtnklnklkblgnfaaGreatDoor
open Go.RowKit Go.Dfl Go.Obs Go.Hir
open Go.Gra (gen_code gen_calls)
def FitR (f : Fu) (c : ByteArray) (s : Sg) (W : World) (e : Ending) (W' : World) : Prop := ∃ b : Bool, e = .returned (.bool b) ∧ (b = true → FitF f c s) ∧ Below W.heap.size W W'
set_option maxHeartbeats 6400000 in
set_option maxRecDepth 8000 in
theorem rFitF_any (f : Fu) (vv cv : Value) (c : ByteArray) (s : Sg) (pv : Value) (W : World) (hvv : InS vVd W vv f.vs) (hcv : InS vIs W cv f.cd) (hp : InS vS W pv s.ps) (hpb : s.ps.length ≤ 1048576) :
  Calls Tryz.prog 65 #[fuV f vv cv, .string c, sgV s pv] W (FitR f c s W) := by
 obtain ⟨va, vc, rfl, hvl, vidx, vcell⟩ := InS.vd hvv
 obtain ⟨ca, cc, rfl⟩ := hcv.shape
 obtain ⟨pa, pc, rfl, hpl, -⟩ := InS.strs hp
 obtain ⟨n, hn⟩ : ∃ n, n = f.vs.length := ⟨_, rfl⟩
 obtain ⟨m, hm⟩ : ∃ n, n = f.cd.length := ⟨_, rfl⟩
 obtain ⟨pn, hpn⟩ : ∃ n, n = s.ps.length := ⟨_, rfl⟩
 rw [← hn] at vidx vcell hvl
 rw [← hpn] at hp hpl hpb
 rw [← hn, ← hm, ← hpn]
 have HE := Lib.hid (((Env.refl W).alloc (fuC f (.slice va n vc) (.slice ca m cc)) 95).alloc [.string s.n, .bool s.st, .slice pa pn pc, .string s.r] 115)
 have HC := Lib.hid (And.intro (And.intro vidx vcell) (And.intro hp (And.intro hn hpn)))
 have hvl2 := hvl
 have hpl2 := hpl
 clear hvv hcv hp hn hm hpn vidx vcell hvl hpl
 unfold fuV sgV
 go_enter Tryz.func65, Tryz.ntmps65
 go_upto_region 1 with fail
 refine gen_code (fun Z => Env W [fkC (W.heap.size + 1) [.string s.n, .bool s.st, .slice pa pn pc, .string s.r], fkC W.heap.size (fuC f (.slice va n vc) (.slice ca m cc))] Z) (by have h := HE.out; rw [World.size_alloc] at h; exact h) ?_
 intro Z hZ
 obtain ⟨bf, hbf⟩ : ∃ b, b = W.heap.size := ⟨_, rfl⟩
 obtain ⟨bs, hbs⟩ : ∃ b, b = W.heap.size + 1 := ⟨_, rfl⟩
 rw [← hbs, ← hbf] at hZ ⊢
 have HZ := Lib.hid hZ
 have d0 := hZ.cell 1 rfl 0 rfl
 have d1 := hZ.cell 1 rfl 1 rfl
 have d2 := hZ.cell 1 rfl 2 rfl
 have d3 := hZ.cell 1 rfl 3 rfl
 have d4 := hZ.cell 1 rfl 4 rfl
 have d5 := hZ.cell 1 rfl 5 rfl
 have s0 := hZ.cell 0 rfl 0 rfl
 have s1 := hZ.cell 0 rfl 1 rfl
 have s2 := hZ.cell 0 rfl 2 rfl
 have s3 := hZ.cell 0 rfl 3 rfl
 clear hZ hbs hbf HE
 go_cut [33] (fun q wx => ∃ en : Bool, q = .bool en ∧ (en = false → f.c = c ∧ f.m = s.n ∧ f.st = s.st ∧ f.r = s.r) ∧ Z = wx)
 case first =>
  by_cases h1 : f.c = c
  case neg =>
   have t1 := tn_ne h1
   have t1b := tl_ne h1
   clear h1
   go_wp2_with fail
   go_meet
   case rel => exact ⟨true, rfl, (fun h => by cases h), rfl⟩
  have t1 := tn_eq h1
  have t1b := tl_eq h1
  by_cases h2 : f.m = s.n
  case neg =>
   have t2 := tn_ne h2
   have t2b := tl_ne h2
   clear h1 h2
   go_wp2_with fail
   go_meet
   case rel => exact ⟨true, rfl, (fun h => by cases h), rfl⟩
  have t2 := tn_eq h2
  have t2b := tl_eq h2
  by_cases h4 : f.r = s.r
  ·have t4 := tn_eq h4
   have t4b := tl_eq h4
   have HF := Lib.hid (And.intro h1 (And.intro h2 h4))
   clear h1 h2 h4
   rcases Bool.eq_false_or_eq_true f.st with hf | hf
   ·rcases Bool.eq_false_or_eq_true s.st with hs | hs
    ·have HT := Lib.hid (hf.trans hs.symm)
     go_wp2_with fail
     go_meet
     case rel => exact ⟨false, rfl, fun _ => ⟨HF.out.1, HF.out.2.1, HT.out, HF.out.2.2⟩, rfl⟩
    ·go_wp2_with fail
     go_meet
     case rel => exact ⟨true, rfl, (fun h => by cases h), rfl⟩
   ·rcases Bool.eq_false_or_eq_true s.st with hs | hs
    ·go_wp2_with fail
     go_meet
     case rel => exact ⟨true, rfl, (fun h => by cases h), rfl⟩
    ·have HT := Lib.hid (hf.trans hs.symm)
     go_wp2_with fail
     go_meet
     case rel => exact ⟨false, rfl, fun _ => ⟨HF.out.1, HF.out.2.1, HT.out, HF.out.2.2⟩, rfl⟩
  ·have t4 := tn_ne h4
   have t4b := tl_ne h4
   clear h1 h2 h4
   rcases Bool.eq_false_or_eq_true f.st with hf | hf
   ·rcases Bool.eq_false_or_eq_true s.st with hs | hs
    ·go_wp2_with fail
     go_meet
     case rel => exact ⟨true, rfl, (fun h => by cases h), rfl⟩
    ·go_wp2_with fail
     go_meet
     case rel => exact ⟨true, rfl, (fun h => by cases h), rfl⟩
   ·rcases Bool.eq_false_or_eq_true s.st with hs | hs
    ·go_wp2_with fail
     go_meet
     case rel => exact ⟨true, rfl, (fun h => by cases h), rfl⟩
    ·go_wp2_with fail
     go_meet
     case rel => exact ⟨true, rfl, (fun h => by cases h), rfl⟩
 case rest =>
 obtain ⟨en, rfl, hen, rfl⟩ := hcut
 cases en
 case true =>
  clear hen
  go_wp2_with fail
  go_ret
  exact ⟨false, rfl, (fun h => by cases h), HZ.out.bel⟩
 have HF := Lib.hid (hen rfl)
 clear hen
 obtain ⟨o, ho⟩ : ∃ o : Nat, o = if s.st then 0 else 1 := ⟨_, rfl⟩
 obtain ⟨N, hN⟩ : ∃ N, N = pn + o := ⟨_, rfl⟩
 have ho1 : o ≤ 1 := by rw [ho]; split <;> omega
 have HO := Lib.hid (And.intro ho (And.intro hN ho1))
 clear ho hN ho1
 obtain ⟨st, hst⟩ : ∃ q, q = s.st := ⟨_, rfl⟩
 have HST := Lib.hid hst
 rw [← hst] at s1
 clear hst
 go_upto_if 39 with fail
 go_cut [7] (fun q wx => q = .int .i64 (N : Int) ∧ Z = wx)
 case first =>
  cases st
  case true =>
   have hst := HST.out.symm
   have HT := Lib.hid (show N = pn by have h1 := HO.out.2.1; have h2 := HO.out.1; rw [hst, if_pos rfl] at h2; omega)
   clear hst
   go_wp2_with fail
   go_meet
   case rel => exact ⟨by rw [HT.out], rfl⟩
  case false =>
   have hst := HST.out.symm
   have HT := Lib.hid (show N = pn + 1 by have h1 := HO.out.2.1; have h2 := HO.out.1; rw [hst, if_neg (by decide)] at h2; omega)
   clear hst
   go_wp2_with fail
   go_meet
   case rel => exact ⟨by rw [HT.out]; go_num, rfl⟩
 case rest =>
 obtain ⟨rfl, rfl⟩ := hcut
 have hN2 : N ≤ 9223372036854775807 := by have := HO.out.2.1; have := HO.out.2.2; omega
 by_cases h5 : f.ps = (N : Int)
 case neg =>
  have t5 : (f.ps != (N : Int)) = true := by simpa using h5
  have t5b : (f.ps == (N : Int)) = false := by simpa using h5
  clear h5
  go_wp2_with fail
  go_ret
  exact ⟨false, rfl, (fun h => by cases h), HZ.out.bel⟩
 have t5 : (f.ps != (N : Int)) = false := by simpa using h5
 have t5b : (f.ps == (N : Int)) = true := by simpa using h5
 clear h5
 by_cases h6 : n < N
 ·have t6 : decide ((n : Int) < (N : Int)) = true := decide_eq_true (by omega)
  have t6n : decide (n < N) = true := decide_eq_true h6
  clear h6
  go_wp2_with fail
  go_ret
  exact ⟨false, rfl, (fun h => by cases h), HZ.out.bel⟩
 have t6 : decide ((n : Int) < (N : Int)) = false := decide_eq_false (by omega)
 have t6n : decide (n < N) = false := decide_eq_false h6
 have HL := Lib.hid (show N ≤ n by omega)
 clear h6
 go_upto_region 8 with fail
 clear t5 t5b t6 t6n
 go_cut [72] (fun q wx => ∃ en : Bool, q = .bool en ∧ (en = false → s.st = false → 0 < f.vs.length ∧ (nth f.vs 0).t = c) ∧ Z = wx)
 case first =>
  cases st
  case true =>
   have hst := HST.out.symm
   have HT := Lib.hid (show s.st ≠ false by rw [hst]; decide)
   clear hst
   go_wp2_with fail
   go_meet
   case rel => exact ⟨false, rfl, fun _ h => absurd h HT.out, rfl⟩
  case false =>
   have hst := HST.out.symm
   have h0 : 0 < n := by
    have h1 := HO.out.2.1; have h2 := HO.out.1; have h3 := HL.out
    rw [hst, if_neg (by decide)] at h2; omega
   clear hst
   obtain ⟨-, -, hz⟩ := HC.out.1.2 0 h0
   obtain ⟨p0, p1⟩ := hz Z HZ.out.bel
   have j1 := HC.out.1.1 0 (by omega) (by omega)
   simp only [Int.toNat_zero, Nat.zero_mul, Nat.add_zero] at p0 p1 j1
   obtain ⟨y, hy⟩ : ∃ y, y = nth f.vs 0 := ⟨_, rfl⟩
   rw [← hy] at p0 p1
   have HY := Lib.hid (And.intro hy (show 0 < f.vs.length by rw [← HC.out.2.2.1]; exact h0))
   clear hy hz
   by_cases he : y.n = ⟨#[116, 104, 105, 115]⟩
   ·have t1 : (y.n.toList == [116, 104, 105, 115]) = true := tl_lit he
    have t2 : (y.n.toList != [116, 104, 105, 115]) = false := by rw [bne, t1]; rfl
    clear he
    by_cases hc : y.t = c
    ·have t3 := tn_eq hc
     have t3b := tl_eq hc
     have HT := Lib.hid hc
     clear hc
     go_wp2_with fail
     go_meet
     case rel => exact ⟨false, rfl, fun _ _ => ⟨HY.out.2, by rw [← HY.out.1]; exact HT.out⟩, rfl⟩
    ·have t3 := tn_ne hc
     have t3b := tl_ne hc
     clear hc
     go_wp2_with fail
     go_meet
     case rel => exact ⟨true, rfl, (fun h => by cases h), rfl⟩
   ·have t1 : (y.n.toList == [116, 104, 105, 115]) = false := tl_litn he
    have t2 : (y.n.toList != [116, 104, 105, 115]) = true := by rw [bne, t1]; rfl
    clear he
    go_wp2_with fail
    go_meet
    case rel => exact ⟨true, rfl, (fun h => by cases h), rfl⟩
 case rest =>
 obtain ⟨en, rfl, hthis, rfl⟩ := hcut
 have HTH := Lib.hid hthis
 clear hthis
 cases en
 case true =>
  go_wp2_with fail
  go_ret
  exact ⟨false, rfl, (fun h => by cases h), HZ.out.bel⟩
 clear d0 d1 d2 d3 d4 d5 s0 s1 s2 s3
 go_wp2_with fail
 go_loopw [8] (fun z wr => ∃ k : Nat, k ≤ pn ∧ z = .int .i64 (k : Int) ∧ Hid (Env W [fkC bs [.string s.n, .bool s.st, .slice pa pn pc, .string s.r], fkC bf (fuC f (.slice va n vc) (.slice ca m cc))] wr) ∧ Hid (∀ i, i < k → (nth f.vs (o + i)).t = nth s.ps i)) (fun z _ => pn - (intOf z).toNat)
 case atStart => exact ⟨0, by omega, rfl, HZ.out, fun i hi => by omega⟩
 case round =>
  obtain ⟨k, hk, rfl, hh, hF⟩ := hrel
  have s2 := hh.out.cell 0 rfl 2 rfl
  by_cases hlt : k < pn
  ·have hki : (k : Int) < (pn : Int) := by omega
   have d4 := hh.out.cell 1 rfl 4 rfl
   obtain ⟨J, hJ⟩ : ∃ J, J = o + k := ⟨_, rfl⟩
   have hJn : J < n := by have := HO.out.2.1; have := HL.out; omega
   obtain ⟨-, -, hz⟩ := HC.out.1.2 J hJn
   obtain ⟨p0, p1⟩ := hz wr hh.out.bel
   have j1 := HC.out.1.1 (J : Int) (by omega) (by omega)
   rw [Int.toNat_natCast] at j1
   obtain ⟨j2, z2⟩ := str_at HC.out.2.1 HC.out.2.2.2 hlt
   have p2 := z2 wr hh.out.bel
   have w1 : IntKind.i64.wrap ((N : Int) - (pn : Int)) = (o : Int) := by rw [IntWalk.i64_in _ (by have := HO.out.2.1; have := HO.out.2.2; omega)]; have := HO.out.2.1; omega
   have w2 : IntKind.i64.wrap ((o : Int) + (k : Int)) = (J : Int) := by rw [IntWalk.i64_in _ (by omega)]; omega
   obtain ⟨yt, hyt⟩ : ∃ y, y = (nth f.vs J).t := ⟨_, rfl⟩
   obtain ⟨us, hus⟩ : ∃ q, q = nth s.ps k := ⟨_, rfl⟩
   rw [← hyt] at p1
   rw [← hus] at p2
   have HV := Lib.hid (And.intro hyt (And.intro hus (And.intro hJ hF)))
   clear hz z2 hyt hus hJ hF p0
   by_cases he : yt = us
   ·have t1 := tn_eq he
    have t1b := tl_eq he
    have HT := Lib.hid he
    clear he
    go_wp2_with fail
    go_quiet (fail)
    go_wp2_with fail
    go_roundw
    case rel => exact ⟨k + 1, by omega, by go_num, hh.out.below (qt_below (Qt.drewN _ _)), fun i hi => by
     by_cases e : i = k
     ·rw [e, ← HV.out.2.2.1, ← HV.out.1, ← HV.out.2.1]; exact HT.out
     ·exact HV.out.2.2.2.out i (by omega)⟩
    case measure => simp [intOf]; omega
   ·have t1 := tn_ne he
    have t1b := tl_ne he
    clear he
    go_wp2_with fail
    go_quiet (fail)
    go_wp2_with fail
    go_ret
    exact ⟨false, rfl, (fun h => by cases h), (hh.out.below (qt_below (Qt.drewN _ _))).bel⟩
  ·obtain rfl : pn = k := by omega
   have HP := Lib.hid hF.out
   clear hlt hk hF
   go_wp2_with fail
   go_ret
   refine ⟨true, rfl, fun _ => ⟨HF.out.1, HF.out.2.1, HF.out.2.2.1, HF.out.2.2.2, HTH.out (by first | rfl | trivial), fun i hi => ?_⟩, hh.out.bel⟩
   have h1 := HP.out i (by rw [HC.out.2.2.2]; exact hi)
   have h2 := HO.out.1
   have h3 := HO.out.2.1
   have h4 := HL.out
   have h5 := HC.out.2.2.1
   have h6 := HC.out.2.2.2
   rcases Bool.eq_false_or_eq_true s.st with hst | hst
   ·rw [hst, if_pos rfl] at h2
    rw [hst, if_pos rfl]
    rw [h2, Nat.zero_add] at h1
    exact ⟨by omega, h1⟩
   ·rw [hst, if_neg (by decide)] at h2
    rw [hst, if_neg (by decide), Nat.add_comm i 1]
    rw [h2] at h1
    exact ⟨by omega, h1⟩
end Go.Proofs.YtnklnklkblgnfaaGreatDoor
end
section
namespace Go.Proofs.YtnklnklkblgnfaaGreatDoor
open Go.RowKit Go.Dfl Go.Obs Go.Hir
open Go.Gra (gen_code gen_calls)
def FuncR (cs : List Cl) (f : Fu) (c : ByteArray) (s : Sg) (W : World) (e : Ending) (W' : World) : Prop := ∃ i n : Int, e = .returned (.tuple #[.int .i64 i, .int .i64 n]) ∧ (n = 0 → FitF f c s ∧ FOk cs f) ∧ Below W.heap.size W W'
set_option maxHeartbeats 6400000 in
set_option maxRecDepth 8000 in
theorem rFunc_any (cs : List Cl) (hv : Value) (f : Fu) (vv cv : Value) (c : ByteArray) (s : Sg) (pv : Value) (W : World) (h : InS vCl W hv cs) (hl : cs.length ≤ 1000000) (hvv : InS vVd W vv f.vs) (hcv : InS vIs W cv f.cd) (hp : InS vS W pv s.ps) (hpb : s.ps.length ≤ 1048576) (hal : ∀ i, i < f.cd.length → (nth f.cd i).ar.length ≤ 1048576) :
  Calls Tryz.prog 45 #[.agg #[hv], fuV f vv cv, .string c, sgV s pv] W (FuncR cs f c s W) := by
 obtain ⟨ha, hc, rfl⟩ := h.shape
 have hcl2 := ins_len hcv
 have hvl2 := ins_len hvv
 obtain ⟨va, vc, rfl⟩ := hvv.shape
 obtain ⟨ca, cc, rfl⟩ := hcv.shape
 obtain ⟨pa, pc, rfl⟩ := hp.shape
 obtain ⟨n, hn⟩ : ∃ n, n = f.vs.length := ⟨_, rfl⟩
 obtain ⟨m, hm⟩ : ∃ n, n = f.cd.length := ⟨_, rfl⟩
 obtain ⟨pn, hpn⟩ : ∃ n, n = s.ps.length := ⟨_, rfl⟩
 rw [← hn] at hvv hvl2
 rw [← hm] at hcv hcl2
 rw [← hpn] at hp
 rw [← hn, ← hm, ← hpn]
 have HE := Lib.hid ((((Env.refl W).alloc [.slice ha cs.length hc] 24).alloc (fuC f (.slice va n vc) (.slice ca m cc)) 95).alloc [.string s.n, .bool s.st, .slice pa pn pc, .string s.r] 115)
 have HC := Lib.hid (And.intro h (And.intro (And.intro hvv hcv) (And.intro hp (And.intro hn (And.intro hm hal)))))
 clear h hvv hcv hp hn hm hpn hal
 unfold fuV sgV
 go_enter Tryz.func45, Tryz.ntmps45
 go_upto_region 1 with fail
 refine gen_code (fun Z => Env W [fkC (W.heap.size + 2) [.string s.n, .bool s.st, .slice pa pn pc, .string s.r], fkC (W.heap.size + 1) (fuC f (.slice va n vc) (.slice ca m cc)), fkC W.heap.size [.slice ha cs.length hc]] Z) (by have h := HE.out; rw [World.size_alloc, World.size_alloc] at h; exact h) ?_
 intro Z hZ
 obtain ⟨b, hb⟩ : ∃ b, b = W.heap.size := ⟨_, rfl⟩
 obtain ⟨bf, hbf⟩ : ∃ b, b = W.heap.size + 1 := ⟨_, rfl⟩
 obtain ⟨bs, hbs⟩ : ∃ b, b = W.heap.size + 2 := ⟨_, rfl⟩
 rw [← hbs, ← hbf, ← hb] at hZ ⊢
 have HZ := Lib.hid hZ
 clear hZ hb hbf hbs HE
 have c0 := HZ.out.cell 2 rfl 0 rfl
 have d0 := HZ.out.cell 1 rfl 0 rfl
 have d1 := HZ.out.cell 1 rfl 1 rfl
 have d2 := HZ.out.cell 1 rfl 2 rfl
 have d3 := HZ.out.cell 1 rfl 3 rfl
 have d4 := HZ.out.cell 1 rfl 4 rfl
 have d5 := HZ.out.cell 1 rfl 5 rfl
 have d6 := HZ.out.cell 1 rfl 6 rfl
 have s0 := HZ.out.cell 0 rfl 0 rfl
 have s1 := HZ.out.cell 0 rfl 1 rfl
 have s2 := HZ.out.cell 0 rfl 2 rfl
 have s3 := HZ.out.cell 0 rfl 3 rfl
 go_wp2_with fail
 refine (rFitF_any f _ _ c s _ _ (HC.out.2.1.1.below HZ.out.bel) (HC.out.2.1.2.below HZ.out.bel) (HC.out.2.2.1.below HZ.out.bel) hpb).mono ?_
 rintro e W1 ⟨q, rfl, hf, b1⟩
 have H1 := Lib.hid (And.intro (HZ.out.below b1) hf)
 clear b1 hf s0 s1 s2 s3
 clear c0 d0 d1 d2 d3 d4 d5 d6
 cases q
 case false =>
  go_wp2_with fail
  go_ret2
  exact ⟨-1, 20, rfl, (fun h => by cases h), H1.out.1.bel⟩
 have c0 := H1.out.1.cell 2 rfl 0 rfl
 have d0 := H1.out.1.cell 1 rfl 0 rfl
 have d1 := H1.out.1.cell 1 rfl 1 rfl
 have d2 := H1.out.1.cell 1 rfl 2 rfl
 have d3 := H1.out.1.cell 1 rfl 3 rfl
 have d4 := H1.out.1.cell 1 rfl 4 rfl
 have d5 := H1.out.1.cell 1 rfl 5 rfl
 have d6 := H1.out.1.cell 1 rfl 6 rfl
 by_cases h1 : 256 < n
 ·have t1 : decide ((256 : Int) < (n : Int)) = true := decide_eq_true (by omega)
  have t2 : decide (256 < n) = true := decide_eq_true h1
  clear h1
  go_wp2_with fail
  go_ret2
  exact ⟨-1, 3, rfl, (fun h => by cases h), H1.out.1.bel⟩
 have t1 : decide ((256 : Int) < (n : Int)) = false := decide_eq_false (by omega)
 have t2 : decide (256 < n) = false := decide_eq_false h1
 by_cases h2 : 1024 < m
 ·have t3 : decide ((1024 : Int) < (m : Int)) = true := decide_eq_true (by omega)
  have t4 : decide (1024 < m) = true := decide_eq_true h2
  clear h1 h2
  go_wp2_with fail
  go_ret2
  exact ⟨-1, 3, rfl, (fun h => by cases h), H1.out.1.bel⟩
 have t3 : decide ((1024 : Int) < (m : Int)) = false := decide_eq_false (by omega)
 have t4 : decide (1024 < m) = false := decide_eq_false h2
 have HL := Lib.hid (And.intro (show f.vs.length ≤ 256 by rw [← HC.out.2.2.2.1]; omega) (show f.cd.length ≤ 1024 by rw [← HC.out.2.2.2.2.1]; omega))
 clear h1 h2
 go_wp2_with fail
 refine (rNames_any cs _ f _ _ _ (HC.out.1.below H1.out.1.bel) (HC.out.2.1.1.below H1.out.1.bel) (HC.out.2.1.2.below H1.out.1.bel)).mono ?_
 rintro e W2 ⟨q, rfl, b2⟩
 have H2 := Lib.hid (H1.out.1.below b2)
 clear b2 t1 t2 t3 t4
 clear c0 d0 d1 d2 d3 d4 d5 d6
 by_cases hq : q = 0
 case neg =>
  have t1 : (q != 0) = true := by simpa using hq
  have t2 : (q == 0) = false := by simpa using hq
  have HQ := Lib.hid hq
  clear hq
  go_wp2_with fail
  go_ret2
  exact ⟨-1, q, rfl, fun h => absurd h HQ.out, H2.out.bel⟩
 subst hq
 have d6 := H2.out.cell 1 rfl 6 rfl
 by_cases hm0 : m = 0
 ·have t1 : ((m : Int) == 0) = true := by simp; omega
  have t2 : (m == 0) = true := by simp; omega
  clear hm0
  go_wp2_with fail
  go_ret2
  exact ⟨-1, 1, rfl, (fun h => by cases h), H2.out.bel⟩
 have t1 : ((m : Int) == 0) = false := by simp; omega
 have t2 : (m == 0) = false := by simp; omega
 have HM := Lib.hid (show 0 < f.cd.length by rw [← HC.out.2.2.2.2.1]; omega)
 clear hm0
 go_wp2_with fail
 clear d6 t1 t2
 go_loopw [10, 11] (fun y z wr => ∃ k : Nat, k ≤ m ∧ y = .int .i64 0 ∧ z = .int .i64 (k : Int) ∧ Hid (Env W [fkC bs [.string s.n, .bool s.st, .slice pa pn pc, .string s.r], fkC bf (fuC f (.slice va n vc) (.slice ca m cc)), fkC b [.slice ha cs.length hc]] wr) ∧ Hid (∀ i, i < k → IOk cs f i)) (fun _ z _ => m - (intOf z).toNat)
 case atStart => exact ⟨0, by omega, rfl, rfl, H2.out, fun i hi => by omega⟩
 case round =>
  obtain ⟨k, hk, rfl, rfl, hh, hF⟩ := hrel
  have c0 := hh.out.cell 2 rfl 0 rfl
  have d0 := hh.out.cell 1 rfl 0 rfl
  have d1 := hh.out.cell 1 rfl 1 rfl
  have d2 := hh.out.cell 1 rfl 2 rfl
  have d3 := hh.out.cell 1 rfl 3 rfl
  have d4 := hh.out.cell 1 rfl 4 rfl
  have d5 := hh.out.cell 1 rfl 5 rfl
  have d6 := hh.out.cell 1 rfl 6 rfl
  by_cases hlt : k < m
  ·have hki : (k : Int) < (m : Int) := by omega
   have HLT := Lib.hid (show k < f.cd.length by rw [← HC.out.2.2.2.2.1]; exact hlt)
   have HF := Lib.hid hF.out
   clear hF
   go_wp2_with fail
   refine (rInstr_any cs _ f _ _ k _ (HC.out.1.below hh.out.bel) hl (HC.out.2.1.1.below hh.out.bel) (HC.out.2.1.2.below hh.out.bel) HLT.out (HC.out.2.2.2.2.2 k HLT.out)).mono ?_
   rintro e W3 ⟨q, rfl, hi, b3⟩
   have H3 := Lib.hid (And.intro (hh.out.below b3) hi)
   clear b3 hi
   clear c0 d0 d1 d2 d3 d4 d5 d6
   by_cases hq : q = 0
   ·subst hq
    go_wp2_with fail
    go_roundw
    case rel => exact ⟨k + 1, by omega, rfl, by go_num, H3.out.1, fun i hi => by
     by_cases e : i = k
     ·rw [e]; exact H3.out.2 (by first | rfl | trivial)
     ·exact HF.out i (by omega)⟩
    case measure => simp [intOf]; omega
   ·have t1 : (q != 0) = true := by simpa using hq
    have t2 : (q == 0) = false := by simpa using hq
    have HQ := Lib.hid hq
    clear hq
    go_wp2_with fail
    go_ret2
    exact ⟨k, q, rfl, fun h => absurd h HQ.out, H3.out.1.bel⟩
  ·obtain rfl : m = k := by omega
   have HF := Lib.hid hF.out
   clear hlt hk hF
   go_wp2_with fail
   go_ret2
   exact ⟨0, 0, rfl, fun _ => ⟨H1.out.2 (by first | rfl | trivial), HM.out, fun i hi => HF.out i (by rw [HC.out.2.2.2.2.1]; exact hi), HL.out⟩, hh.out.bel⟩
end Go.Proofs.YtnklnklkblgnfaaGreatDoor
end
section
namespace Go.Proofs.YtnklnklkblgnfaaGreatDoor
open Go.RowKit Go.Dfl Go.Obs Go.Hir
open Go.Gra (gen_code gen_calls)
def NumR (cs : List Cl) (n : Nat) (W : World) (e : Ending) (W' : World) : Prop :=
 ∃ (c : ByteArray) (s : Sg) (pv : Value) (ok : Bool), e = .returned (.tuple #[.string c, sgV s pv, .bool ok]) ∧ InS vS W pv s.ps ∧ (∀ i j, i < cs.length → j < (nth cs i).ms.length → n = off cs i + j → c = (nth cs i).n ∧ s = nth (nth cs i).ms j) ∧ Below W.heap.size W W'
theorem off_uniq {cs : List Cl} {i j i' j' : Nat} (hi : i < cs.length) (hj : j < (nth cs i).ms.length) (hi' : i' < cs.length) (hj' : j' < (nth cs i').ms.length) (h : off cs i + j = off cs i' + j') : i = i' ∧ j = j' := by
 have h1 := off_succ hi
 have h2 := off_succ hi'
 rcases Nat.lt_trichotomy i i' with e | e | e
 ·have := off_mono (cs := cs) (i := i + 1) (j := i') (by omega) (by omega); omega
 ·subst e; exact ⟨rfl, by omega⟩
 ·have := off_mono (cs := cs) (i := i' + 1) (j := i) (by omega) (by omega); omega
set_option maxHeartbeats 6400000 in
set_option maxRecDepth 8000 in
theorem rNumbered_any (cs : List Cl) (hv : Value) (n0 : Nat) (W : World) (h : InS vCl W hv cs) (hn0 : n0 ≤ 1048576) :
  Calls Tryz.prog 44 #[.agg #[hv], .int .i64 (n0 : Int)] W (NumR cs n0 W) := by
 obtain ⟨ha, hc, rfl, hlen, hidx, hcell⟩ := InS.cl h
 have HE := Lib.hid (((((Env.refl W).alloc [.slice ha cs.length hc] 24).below ((Below.refl _ _).alloc (Nat.le_refl _) (.cells #[.string ⟨#[]⟩, .bool false, .slice none 0 0, .string ⟨#[]⟩] 115))).add (q := fkH (W.heap.size + 1) (.cells #[.string ⟨#[]⟩, .bool false, .slice none 0 0, .string ⟨#[]⟩] 115)) (by
  have := heap_alloc_new (W.alloc (.cells #[.slice ha cs.length hc] 24)) (.cells #[.string ⟨#[]⟩, .bool false, .slice none 0 0, .string ⟨#[]⟩] 115)
  rw [World.size_alloc] at this
  exact this)))
 obtain ⟨N, hN⟩ : ∃ N, N = cs.length := ⟨_, rfl⟩
 rw [← hN] at HE hidx hcell hlen ⊢
 have HC := Lib.hid (And.intro hidx (And.intro hcell hN))
 clear h hidx hcell hN
 go_enter Tryz.func44, Tryz.ntmps44
 go_wp2_with fail
 refine gen_code (fun Z => Env W [fkH (W.heap.size + 1) (.cells #[.string ⟨#[]⟩, .bool false, .slice none 0 0, .string ⟨#[]⟩] 115), fkC W.heap.size [.slice ha N hc]] Z) HE.out ?_
 intro Z hZ
 obtain ⟨b, hb⟩ : ∃ b, b = W.heap.size := ⟨_, rfl⟩
 obtain ⟨br, hbr⟩ : ∃ br, br = W.heap.size + 1 := ⟨_, rfl⟩
 have HB := Lib.hid (And.intro hb hbr)
 rw [← hbr, ← hb] at hZ ⊢
 have HZ := Lib.hid hZ
 clear hZ hb hbr HE
 go_loopw [1, 7] (fun x z wr => ∃ k r : Nat, k ≤ N ∧ z = .int .i64 (k : Int) ∧ x = .int .i64 (r : Int) ∧ Hid (n0 = off cs k + r) ∧ Hid (Env W [fkH br (.cells #[.string ⟨#[]⟩, .bool false, .slice none 0 0, .string ⟨#[]⟩] 115), fkC b [.slice ha N hc]] wr)) (fun _ z _ => N - (intOf z).toNat)
 case atStart => exact ⟨0, n0, by omega, rfl, rfl, by unfold Hid off; simp, HZ.out⟩
 case round =>
  clear HZ
  obtain ⟨k, r, hk, rfl, rfl, hr, hh⟩ := hrel
  have c0 := hh.out.cell 1 rfl 0 rfl
  have hrb : r ≤ 1048576 := by have := hr.out; omega
  by_cases hlt : k < N
  ·have hki : (k : Int) < (N : Int) := by omega
   obtain ⟨hab, v2, v3, ⟨-, -, -, hms⟩, hz⟩ := HC.out.2.1 k hlt
   obtain ⟨p0, -, -, p3⟩ := hz wr hh.out.bel
   have j1 := HC.out.1 (k : Int) (by omega) (by omega)
   rw [Int.toNat_natCast] at j1
   obtain ⟨za, zc, rfl, hzl, sidx, scell⟩ := InS.sg hms
   obtain ⟨cl, hcl⟩ : ∃ cl, cl = nth cs k := ⟨_, rfl⟩
   rw [← hcl] at p0 p3 hzl sidx scell hms
   obtain ⟨zn, hzn⟩ : ∃ zn, zn = cl.ms.length := ⟨_, rfl⟩
   rw [← hzn] at p3 hzl sidx scell
   have HK := Lib.hid (And.intro hcl (And.intro hzn (And.intro hab (show k < cs.length by rw [← HC.out.2.2]; exact hlt))))
   clear hz hcl hzn hms hab
   by_cases hrz : r < zn
   ·have t1 : decide ((r : Int) < (zn : Int)) = true := decide_eq_true (by omega)
    have t2 : decide (r < zn) = true := decide_eq_true hrz
    have hri : (r : Int) < (zn : Int) := by omega
    obtain ⟨hzb, pv, ⟨-, -, hps⟩, hsc⟩ := scell r hrz
    obtain ⟨s0, s1, s2, s3⟩ := hsc wr hh.out.bel
    have j2 := sidx (r : Int) (by omega) (by omega)
    rw [Int.toNat_natCast] at j2
    obtain ⟨sg, hsg⟩ : ∃ sg, sg = nth cl.ms r := ⟨_, rfl⟩
    rw [← hsg] at s0 s1 s3 hps
    obtain ⟨pa, pn, pc, rfl⟩ : ∃ pa pn pc, pv = .slice pa pn pc := by obtain ⟨a, c, e⟩ := hps.shape; exact ⟨a, _, c, e⟩
    have HR := Lib.hid (And.intro hsg (And.intro hps (show ∀ i j, i < cs.length → j < (nth cs i).ms.length → n0 = off cs i + j → cl.n = (nth cs i).n ∧ sg = nth (nth cs i).ms j from fun i j hi hj e => by
     have h1 := hr.out
     rw [h1] at e
     obtain ⟨rfl, rfl⟩ := off_uniq HK.out.2.2.2 (by rw [← HK.out.1, ← HK.out.2.1]; exact hrz) hi hj e
     exact ⟨by rw [HK.out.1], by rw [hsg, HK.out.1]⟩)))
    have HN := Lib.hid (show b ≠ br ∧ blk ha ≠ br ∧ blk za ≠ br from ⟨by have := HB.out; omega, by have := HB.out; have := HK.out.2.2.1; omega, by have := HB.out; omega⟩)
    have HED := Lib.hid hh.out.drew
    have HS := Lib.hid (show wr.drew.cell? ⟨b, 0, none⟩ = some (.slice ha N hc) ∧ wr.drew.cell? ⟨blk ha, ofs ha + k * 4, none⟩ = some (.string cl.n) ∧ wr.drew.cell? ⟨blk za, ofs za + r * 4, none⟩ = some (.string sg.n) ∧ wr.drew.cell? ⟨blk za, ofs za + r * 4 + 1, none⟩ = some (.bool sg.st) ∧ wr.drew.cell? ⟨blk za, ofs za + r * 4 + 2, none⟩ = some (.slice pa pn pc) ∧ wr.drew.cell? ⟨blk za, ofs za + r * 4 + 3, none⟩ = some (.string sg.r) from ⟨c0, p0, s0, s1, s2, s3⟩)
    clear hsg hps hsc hzb sidx scell
    go_wp2_with fail
    clear c0 p0 p3 s0 s1 s2 s3
    refine wp_region_mix [0, 1, 2, 3, 4, 5, 6, 7, 8, 9] [10, 11, 12] (fun w' => w'.cell? ⟨b, 0, none⟩ = some (.slice ha N hc) ∧ w'.cell? ⟨blk ha, ofs ha + k * 4, none⟩ = some (.string cl.n) ∧ w'.cell? ⟨blk za, ofs za + r * 4, none⟩ = some (.string sg.n) ∧ w'.cell? ⟨blk za, ofs za + r * 4 + 1, none⟩ = some (.bool sg.st) ∧ w'.cell? ⟨blk za, ofs za + r * 4 + 2, none⟩ = some (.slice pa pn pc) ∧ w'.cell? ⟨blk za, ofs za + r * 4 + 3, none⟩ = some (.string sg.r)) (by kernel_rfl) (by kernel_rfl) (by kernel_rfl) HS.out ?_
    repeat (
     refine wpHeads_cons (v := ?_) rfl (Or.inl ⟨by rfl, ?_⟩) ?_
     rotate_left
     ·(intro W hW; obtain ⟨x1, x2, x3, x4, x5, x6⟩ := hW; (try go_simp); try with_reducible rfl)
     simp only [Act.put, List.setIfInBounds_toArray, List.getElem_toArray, List.getElem_cons_zero, List.getElem_cons_succ, List.set_cons_succ, List.set_cons_zero])
    refine wpHeads_nil ?_
    generalize wr.drew = V at *
    have hNB : V.heap[br]? = some (.cells #[.string ⟨#[]⟩, .bool false, .slice none 0 0, .string ⟨#[]⟩] 115) := HED.out.fact 0 rfl
    obtain ⟨⟨z0, z1, z2, z3, zf⟩, hC, hG⟩ := store4 (y0 := .string sg.n) (y1 := .bool sg.st) (y2 := .slice pa pn pc) (y3 := .string sg.r) hNB
    have f0 := zf 0
    have f1 := zf 1
    have f2 := zf 2
    have f3 := zf 3
    have hS2 := And.intro (hG.cell HS.out.1 (fun e => HN.out.1 (Option.some.inj e))) (And.intro (hG.cell HS.out.2.1 (fun e => HN.out.2.1 (Option.some.inj e))) (And.intro (hG.cell HS.out.2.2.1 (fun e => HN.out.2.2 (Option.some.inj e))) (And.intro (hG.cell HS.out.2.2.2.1 (fun e => HN.out.2.2 (Option.some.inj e))) (And.intro (hG.cell HS.out.2.2.2.2.1 (fun e => HN.out.2.2 (Option.some.inj e))) (hG.cell HS.out.2.2.2.2.2 (fun e => HN.out.2.2 (Option.some.inj e)))))))
    have hb4 : Below W.heap.size W _ := HED.out.bel.grown hG HED.out.bel.size (fun q e => by injection e with e; have := HB.out.2; omega)
    have H4 := Lib.hid (And.intro hS2 hb4)
    clear hS2 hb4 hG hC hNB zf
    refine wpTails_cons rfl ?_
    go_wp2_with fail
    refine tail_mk HS.out ?_
    refine wpTails_cons rfl ?_
    go_wp2_with fail
    refine tail_mk H4.out.1 ?_
    refine wpTails_one rfl ?_
    go_wp2_with fail
    refine thenQ_mk ?_
    go_wp2_with fail
    (try simp only [Exit.inBlock, Exit.then])
    refine bodyPost_ret (v := .tuple #[.string cl.n, sgV sg (.slice pa pn pc), .bool true]) (by rw [results_mid rfl]; go_simp; try rfl) rfl ?_
    exact ⟨cl.n, sg, _, true, rfl, HR.out.2.1, HR.out.2.2, H4.out.2⟩
   ·have t1 : decide ((r : Int) < (zn : Int)) = false := decide_eq_false (by omega)
    have t2 : decide (r < zn) = false := decide_eq_false hrz
    have HR := Lib.hid (show n0 = off cs (k + 1) + (r - zn) by
     have h1 := hr.out
     have h2 := off_succ HK.out.2.2.2
     rw [← HK.out.1, ← HK.out.2.1] at h2
     omega)
    have hsub : (r : Int) - (zn : Int) = ((r - zn : Nat) : Int) := by omega
    obtain ⟨r2, hr2⟩ : ∃ r2, r2 = r - zn := ⟨_, rfl⟩
    rw [← hr2] at HR hsub
    have hr2b : r2 ≤ 1048576 := by omega
    have HS2 := Lib.hid hsub
    clear hrz hr2 sidx scell hsub
    go_wp2_with fail
    go_roundw
    case rel => exact ⟨k + 1, r2, by omega, by go_num, by rw [← HS2.out], HR.out, hh.out⟩
    case measure => simp [intOf]; omega
  ·obtain rfl : N = k := by omega
   have hNB : wr.heap[br]? = some (.cells #[.string ⟨#[]⟩, .bool false, .slice none 0 0, .string ⟨#[]⟩] 115) := hh.out.fact 0 rfl
   obtain ⟨⟨z0, z1, z2, z3, zf⟩, hC, hG⟩ := store4 (y0 := .string ⟨#[]⟩) (y1 := .bool false) (y2 := .slice none 0 0) (y3 := .string ⟨#[]⟩) hNB
   have f0 := zf 0
   have f1 := zf 1
   have f2 := zf 2
   have f3 := zf 3
   have HG := Lib.hid hG
   clear hlt hk hNB hC hG zf
   go_wp2_with fail
   (try simp only [Exit.inBlock, Exit.then])
   refine bodyPost_ret (v := .tuple #[.string ⟨#[]⟩, .agg #[.string ⟨#[]⟩, .bool false, .slice none 0 0, .string ⟨#[]⟩], .bool false]) (by rw [results_mid rfl]; go_simp; try rfl) rfl ?_
   refine ⟨_, sg0, _, false, rfl, InS.nil _ _, fun i j hi hj e => ?_, hh.out.bel.grown HG.out hh.out.bel.size (fun q e => by injection e with e; have := HB.out.2; omega)⟩
   exfalso
   have h1 := off_mono (cs := cs) (i := i + 1) (j := cs.length) (by omega) (Nat.le_refl _)
   have h2 := off_succ hi
   have h3 := hr.out
   rw [HC.out.2.2] at h3
   omega
end Go.Proofs.YtnklnklkblgnfaaGreatDoor
end
section
namespace Go.Hir
open Go.Dfl (nth)
open Go.Obs
structure UnW (u : Un) : Prop where
 off : off u.cs u.cs.length ≤ 1048576
 ps : ∀ c ∈ u.cs, ∀ s ∈ c.ms, s.ps.length ≤ 1048576
 ar : ∀ f ∈ u.fs, ∀ x ∈ f.cd, x.ar.length ≤ 1048576
structure WhOk (u : Un) : Prop where
 h : HOk u.cs
 cl : u.cs.length ≤ 64
 fl : u.fs.length ≤ 256
 len : u.fs.length = Go.Hir.off u.cs u.cs.length
 mn : 0 ≤ u.mn ∧ u.mn < u.fs.length
 main : (nth u.fs u.mn.toNat).st = true ∧ (nth u.fs u.mn.toNat).r = ⟨#[]⟩
end Go.Hir
namespace Go.Proofs.YtnklnklkblgnfaaGreatDoor
open Go.RowKit Go.Dfl Go.Obs Go.Hir
open Go.Gra (gen_code gen_calls)
def WholeR (u : Un) (W : World) (e : Ending) (W' : World) : Prop := ∃ n : Int, e = .returned (.int .i64 n) ∧ (n = 0 → WhOk u) ∧ Below W.heap.size W W'
set_option maxHeartbeats 6400000 in
set_option maxRecDepth 8000 in
theorem rWhole_any (u : Un) (v0 v1 : Value) (W : World) (h : UnIn W v0 v1 u) (hw : UnW u) :
  Calls Tryz.prog 43 #[unV u v0 v1] W (WholeR u W) := by
 have hcs := h.1
 have hfs := h.2
 have hfl2 := ins_len hfs
 have hcl2 := ins_len hcs
 obtain ⟨ha, hc, rfl, -, hidx, hcell⟩ := InS.cl hcs
 obtain ⟨fa, fc, rfl, -, fidx, fcell⟩ := InS.fu hfs
 obtain ⟨N, hN⟩ : ∃ N, N = u.cs.length := ⟨_, rfl⟩
 obtain ⟨F, hF⟩ : ∃ F, F = u.fs.length := ⟨_, rfl⟩
 rw [← hN] at hidx hcell hcs hcl2
 rw [← hF] at fidx fcell hfs hfl2
 rw [← hN, ← hF]
 have HE := Lib.hid ((Env.refl W).alloc [.slice ha N hc, .slice fa F fc, .int .i64 u.mn] 27)
 have HC := Lib.hid (And.intro hcs (And.intro (And.intro hidx hcell) (And.intro (And.intro fidx fcell) (And.intro hN (And.intro hF hw)))))
 clear h hcs hfs hidx hcell fidx fcell hN hF hw
 unfold unV
 go_enter Tryz.func43, Tryz.ntmps43
 go_upto_region 1 with fail
 refine gen_code (fun Z => Env W [fkC W.heap.size [.slice ha N hc, .slice fa F fc, .int .i64 u.mn]] Z) HE.out ?_
 intro Z hZ
 obtain ⟨b, hb⟩ : ∃ b, b = W.heap.size := ⟨_, rfl⟩
 rw [← hb] at hZ ⊢
 have HZ := Lib.hid hZ
 have c0 := hZ.cell 0 rfl 0 rfl
 clear hZ hb HE
 go_wp2_with fail
 refine (rHier_any u.cs _ _ (HC.out.1.below HZ.out.bel)).mono ?_
 rintro e W1 ⟨i1, n1, rfl, hh, b1⟩
 have H1 := Lib.hid (And.intro (HZ.out.below b1) hh)
 clear b1 hh c0 HZ
 by_cases hn1 : n1 = 0
 case neg =>
  have t1 : (n1 != 0) = true := by simpa using hn1
  have t2 : (n1 == 0) = false := by simpa using hn1
  have HQ := Lib.hid hn1
  clear hn1
  go_wp2_with fail
  go_ret
  exact ⟨n1, rfl, fun h => absurd h HQ.out, H1.out.1.bel⟩
 subst hn1
 have HH := Lib.hid (H1.out.2 (by first | rfl | trivial))
 have c1 := H1.out.1.cell 0 rfl 1 rfl
 by_cases h2 : 256 < F
 ·have t1 : decide ((256 : Int) < (F : Int)) = true := decide_eq_true (by omega)
  have t2 : decide (256 < F) = true := decide_eq_true h2
  clear h2
  go_wp2_with fail
  go_ret
  exact ⟨3, rfl, (fun h => by cases h), H1.out.1.bel⟩
 have t1 : decide ((256 : Int) < (F : Int)) = false := decide_eq_false (by omega)
 have t2 : decide (256 < F) = false := decide_eq_false h2
 have HL := Lib.hid (show u.fs.length ≤ 256 by rw [← HC.out.2.2.2.2.1]; omega)
 clear h2
 go_wp2_with fail
 clear c1 t1 t2
 go_loopw [5, 6] (fun x z wr => ∃ k q : Nat, k ≤ N ∧ z = .int .i64 (k : Int) ∧ x = .int .i64 (q : Int) ∧ Hid (q = off u.cs k) ∧ Hid (Env W [fkC b [.slice ha N hc, .slice fa F fc, .int .i64 u.mn]] wr)) (fun _ z _ => N - (intOf z).toNat)
 case atStart => exact ⟨0, 0, by omega, rfl, rfl, by unfold Hid off; simp, H1.out.1⟩
 case round =>
  obtain ⟨k, q, hk, rfl, rfl, hq, hh⟩ := hrel
  have c0 := hh.out.cell 0 rfl 0 rfl
  by_cases hlt : k < N
  ·have hki : (k : Int) < (N : Int) := by omega
   obtain ⟨-, v2, v3, ⟨-, -, -, hms⟩, hz⟩ := HC.out.2.1.2 k hlt
   obtain ⟨-, -, -, p3⟩ := hz wr hh.out.bel
   have j1 := HC.out.2.1.1 (k : Int) (by omega) (by omega)
   rw [Int.toNat_natCast] at j1
   obtain ⟨za, zc, rfl⟩ := hms.shape
   obtain ⟨zn, hzn⟩ : ∃ zn, zn = (nth u.cs k).ms.length := ⟨_, rfl⟩
   rw [← hzn] at p3
   have hkc : k < u.cs.length := by rw [← HC.out.2.2.2.1]; exact hlt
   have hs : q + zn = off u.cs (k + 1) := by rw [off_succ hkc, ← hzn, hq.out]
   have hsb : q + zn ≤ 1048576 := by rw [hs]; exact Nat.le_trans (off_mono (by omega) (Nat.le_refl _)) HC.out.2.2.2.2.2.off
   have HS := Lib.hid hs
   obtain ⟨q2, hq2⟩ : ∃ q2, q2 = q + zn := ⟨_, rfl⟩
   have HQ2 := Lib.hid hq2
   clear hz hzn hms hs hkc hq hq2
   go_wp2_with fail
   go_roundw
   case rel => exact ⟨k + 1, q2, by omega, by go_num, by rw [HQ2.out]; go_num, by rw [HQ2.out]; exact HS.out, hh.out⟩
   case measure => simp [intOf]; omega
  ·obtain rfl : N = k := by omega
   have HQ := Lib.hid (show q = off u.cs u.cs.length by rw [← HC.out.2.2.2.1]; exact hq.out)
   have c1 := hh.out.cell 0 rfl 1 rfl
   have c2 := hh.out.cell 0 rfl 2 rfl
   clear hlt hk hq H1
   by_cases h3 : q = F
   case neg =>
    have t1 : ((q : Int) != (F : Int)) = true := by simp; omega
    have t2 : ((q : Int) == (F : Int)) = false := by simp; omega
    clear h3
    go_wp2_with fail
    go_ret
    exact ⟨20, rfl, (fun h => by cases h), hh.out.bel⟩
   have t1 : ((q : Int) != (F : Int)) = false := by simp; omega
   have t2 : ((q : Int) == (F : Int)) = true := by simp; omega
   have HQF := Lib.hid h3
   clear h3
   by_cases h4 : u.mn < 0
   ·have t3 : decide (u.mn < 0) = true := decide_eq_true h4
    clear h4
    go_wp2_with fail
    go_ret
    exact ⟨14, rfl, (fun h => by cases h), hh.out.bel⟩
   have t3 : decide (u.mn < 0) = false := decide_eq_false h4
   by_cases h5 : (q : Int) ≤ u.mn
   ·have t4 : decide ((q : Int) ≤ u.mn) = true := decide_eq_true h5
    clear h4 h5
    go_wp2_with fail
    go_ret
    exact ⟨14, rfl, (fun h => by cases h), hh.out.bel⟩
   have t4 : decide ((q : Int) ≤ u.mn) = false := decide_eq_false h5
   have hmF : u.mn.toNat < F := by have := HQF.out; omega
   have HM := Lib.hid (show 0 ≤ u.mn ∧ u.mn < u.fs.length by rw [← HC.out.2.2.2.2.1]; have := HQF.out; omega)
   obtain ⟨-, v4, v6, ⟨-, -, -, -, hv4, hv6⟩, hz⟩ := HC.out.2.2.1.2 u.mn.toNat hmF
   obtain ⟨p0, p1, p2, p3, p4, p5, p6⟩ := hz wr hh.out.bel
   have j1 := HC.out.2.2.1.1 u.mn (by omega) (by omega)
   obtain ⟨wa, wc, rfl⟩ := hv4.shape
   obtain ⟨xa, xc, rfl⟩ := hv6.shape
   obtain ⟨f, hf⟩ : ∃ f, f = nth u.fs u.mn.toNat := ⟨_, rfl⟩
   rw [← hf] at p0 p1 p2 p3 p4 p5 p6
   obtain ⟨st, hst⟩ : ∃ q, q = f.st := ⟨_, rfl⟩
   rw [← hst] at p2
   have HF := Lib.hid (And.intro hf hst)
   clear hz hv4 hv6 hf hst h4 h5
   go_upto_region 15 with fail
   clear t1 t2 t3 t4
   go_upto_region 16 with fail
   clear p0 p1 p2 p3 p4 p5 p6 c0 c1 c2
   have HA := Lib.hid (hh.out.alloc [.string f.c, .string f.m, .bool st, .int .i64 f.ps, .slice wa f.vs.length wc, .string f.r, .slice xa f.cd.length xc] 95)
   refine gen_code (fun Z' => Env W [fkC wr.heap.size [.string f.c, .string f.m, .bool st, .int .i64 f.ps, .slice wa f.vs.length wc, .string f.r, .slice xa f.cd.length xc], fkC b [.slice ha N hc, .slice fa F fc, .int .i64 u.mn]] Z') HA.out ?_
   intro Z2 hZ2
   obtain ⟨bx, hbx⟩ : ∃ b, b = wr.heap.size := ⟨_, rfl⟩
   rw [← hbx] at hZ2 ⊢
   have H2 := Lib.hid hZ2
   have d0 := hZ2.cell 0 rfl 0 rfl
   have d1 := hZ2.cell 0 rfl 1 rfl
   have d2 := hZ2.cell 0 rfl 2 rfl
   have d3 := hZ2.cell 0 rfl 3 rfl
   have d5 := hZ2.cell 0 rfl 5 rfl
   clear hZ2 hbx HA
   go_cut [81] (fun q wx => ∃ en : Bool, q = .bool en ∧ (en = false → st = true ∧ f.r = ⟨#[]⟩) ∧ Z2 = wx)
   case first =>
    obtain ⟨q1, h1⟩ : ∃ q, (f.c.toList == [77, 97, 105, 110]) = q := ⟨_, rfl⟩
    obtain ⟨q2, h2⟩ : ∃ q, (f.m.toList == [109, 97, 105, 110]) = q := ⟨_, rfl⟩
    cases q1
    case false =>
     go_wp2_with fail
     go_meet
     case rel => exact ⟨true, rfl, (fun h => by cases h), rfl⟩
    cases q2
    case false =>
     go_wp2_with fail
     go_meet
     case rel => exact ⟨true, rfl, (fun h => by cases h), rfl⟩
    cases st
    case false =>
     go_wp2_with fail
     go_meet
     case rel => exact ⟨true, rfl, (fun h => by cases h), rfl⟩
    by_cases h3 : f.ps = 0
    case neg =>
     have t3 : (f.ps != 0) = true := by simpa using h3
     have t4 : (f.ps == 0) = false := by simpa using h3
     clear h3
     go_wp2_with fail
     go_meet
     case rel => exact ⟨true, rfl, (fun h => by cases h), rfl⟩
    have t3 : (f.ps != 0) = false := by simpa using h3
    have t4 : (f.ps == 0) = true := by simpa using h3
    clear h3
    by_cases hr : f.r = ⟨#[]⟩
    ·have t1 := tl_eq hr
     have t2 := te_eq hr
     have HR := Lib.hid hr
     clear hr
     go_wp2_with fail
     go_meet
     case rel => exact ⟨false, rfl, fun _ => ⟨by first | rfl | trivial, HR.out⟩, rfl⟩
    ·have t1 := tl_ne hr
     have t2 := te_ne hr
     clear hr
     go_wp2_with fail
     go_meet
     case rel => exact ⟨true, rfl, (fun h => by cases h), rfl⟩
   case rest =>
   obtain ⟨en, rfl, hen, rfl⟩ := hcut
   cases en
   case true =>
    clear hen
    go_wp2_with fail
    go_ret
    exact ⟨14, rfl, (fun h => by cases h), H2.out.bel⟩
   obtain ⟨hst, hr⟩ := hen rfl
   have HX := Lib.hid (And.intro hst hr)
   clear hen hst hr
   go_wp2_with fail
   go_ret
   exact ⟨0, rfl, fun _ => ⟨hier_ok HH.out.2, HH.out.1, HL.out, by rw [← HQ.out, ← HC.out.2.2.2.2.1]; exact HQF.out.symm, HM.out, by rw [← HF.out.1, ← HF.out.2]; exact HX.out⟩, H2.out.bel⟩
end Go.Proofs.YtnklnklkblgnfaaGreatDoor
end
section
namespace Go.Proofs.YtnklnklkblgnfaaGreatDoor
open Go.RowKit Go.Dfl Go.Obs Go.Hir
open Go.Gra (gen_code gen_calls)
def CheckR (u : Un) (W : World) (e : Ending) (W' : World) : Prop := ∃ i j n : Int, e = .returned (.tuple #[.int .i64 i, .int .i64 j, .int .i64 n]) ∧ (n = 0 → UOk u ∧ u.cs.length ≤ 64 ∧ u.fs.length ≤ 256) ∧ Below W.heap.size W W'
def FsOk (u : Un) (k : Nat) : Prop := ∀ p, p < k → FOk u.cs (nth u.fs p) ∧ ∀ i j, i < u.cs.length → j < (nth u.cs i).ms.length → p = off u.cs i + j → FitF (nth u.fs p) (nth u.cs i).n (nth (nth u.cs i).ms j)
theorem uok_of {u : Un} (h : WhOk u) (hf : FsOk u u.fs.length) : UOk u := by
 refine ⟨h.h, h.len, fun i j hi hj => ?_, fun i hi => (hf i hi).1, h.mn, h.main⟩
 have hk : off u.cs i + j < u.fs.length := by
  have h1 := off_succ hi
  have h2 := off_mono (cs := u.cs) (i := i + 1) (j := u.cs.length) (by omega) (Nat.le_refl _)
  rw [h.len]; omega
 exact (hf _ hk).2 i j hi hj rfl
set_option maxHeartbeats 6400000 in
set_option maxRecDepth 8000 in
theorem rCheck12_any (u : Un) (v0 v1 : Value) (W : World) (h : UnIn W v0 v1 u) (hw : UnW u) :
  Calls Tryz.prog 27 #[unV u v0 v1] W (CheckR u W) := by
 have hu := h
 have hcs := h.1
 have hfs := h.2
 have hfl2 := ins_len hfs
 obtain ⟨ha, hc, rfl⟩ := hcs.shape
 obtain ⟨fa, fc, rfl, -, fidx, fcell⟩ := InS.fu hfs
 obtain ⟨N, hN⟩ : ∃ N, N = u.cs.length := ⟨_, rfl⟩
 obtain ⟨F, hF⟩ : ∃ F, F = u.fs.length := ⟨_, rfl⟩
 rw [← hN] at hcs hu
 rw [← hF] at fidx fcell hfs hfl2 hu
 rw [← hN, ← hF]
 have HE := Lib.hid ((Env.refl W).alloc [.slice ha N hc, .slice fa F fc, .int .i64 u.mn] 27)
 have HC := Lib.hid (And.intro hcs (And.intro hu (And.intro (And.intro fidx fcell) (And.intro hN (And.intro hF hw)))))
 clear h hcs hfs fidx fcell hN hF hw hu
 unfold unV
 go_enter Tryz.func27, Tryz.ntmps27
 go_upto_region 1 with fail
 refine gen_code (fun Z => Env W [fkC W.heap.size [.slice ha N hc, .slice fa F fc, .int .i64 u.mn]] Z) HE.out ?_
 intro Z hZ
 obtain ⟨b, hb⟩ : ∃ b, b = W.heap.size := ⟨_, rfl⟩
 rw [← hb] at hZ ⊢
 have HZ := Lib.hid hZ
 have c0 := hZ.cell 0 rfl 0 rfl
 have c1 := hZ.cell 0 rfl 1 rfl
 have c2 := hZ.cell 0 rfl 2 rfl
 clear hZ hb HE
 go_wp2_with fail
 refine (rWhole_any u _ _ _ (HC.out.2.1.below HZ.out.bel) HC.out.2.2.2.2.2).mono ?_
 rintro e W1 ⟨n1, rfl, hh, b1⟩
 have H1 := Lib.hid (And.intro (HZ.out.below b1) hh)
 clear b1 hh c0 c1 c2 HZ
 by_cases hn1 : n1 = 0
 case neg =>
  have t1 : (n1 != 0) = true := by simpa using hn1
  have t2 : (n1 == 0) = false := by simpa using hn1
  have HQ := Lib.hid hn1
  clear hn1
  go_wp2_with fail
  go_ret3
  exact ⟨-1, -1, n1, rfl, fun h => absurd h HQ.out, H1.out.1.bel⟩
 subst hn1
 have HH := Lib.hid (H1.out.2 (by first | rfl | trivial))
 have hF256 : F ≤ 256 := by rw [HC.out.2.2.2.2.1]; exact HH.out.fl
 go_wp2_with fail
 go_loopw [6, 7] (fun x z wr => ∃ k q : Nat, k ≤ F ∧ z = .int .i64 (k : Int) ∧ x = .int .i64 (q : Int) ∧ q ≤ 1024 * k ∧ Hid (FsOk u k) ∧ Hid (Env W [fkC b [.slice ha N hc, .slice fa F fc, .int .i64 u.mn]] wr)) (fun _ z _ => F - (intOf z).toNat)
 case atStart => exact ⟨0, 0, by omega, rfl, rfl, by omega, (fun p hp => by omega), H1.out.1⟩
 case round =>
  obtain ⟨k, q, hk, rfl, rfl, hq, hf, hh⟩ := hrel
  have HF := Lib.hid hf.out
  clear hf
  have c0 := hh.out.cell 0 rfl 0 rfl
  have c1 := hh.out.cell 0 rfl 1 rfl
  by_cases hlt : k < F
  ·have hki : (k : Int) < (F : Int) := by omega
   go_wp2_with fail
   refine (rNumbered_any u.cs _ k _ (HC.out.1.below hh.out.bel) (by omega)).mono ?_
   rintro e W2 ⟨c, s, pv, ok, rfl, hps, hcs, b2⟩
   obtain ⟨pa, pn, pc, rfl⟩ : ∃ pa pn pc, pv = .slice pa pn pc := by obtain ⟨a, c, e⟩ := hps.shape; exact ⟨a, _, c, e⟩
   have hkl : k < u.fs.length := by rw [← HC.out.2.2.2.2.1]; exact hlt
   obtain ⟨i0, j0, hi0, hj0, hk0⟩ := off_find (cs := u.cs) (k := k) (n := u.cs.length) (Nat.le_refl _) (by rw [← HH.out.len]; exact hkl)
   have hcs0 := hcs i0 j0 hi0 hj0 hk0
   have hpb : s.ps.length ≤ 1048576 := by rw [hcs0.2]; exact HC.out.2.2.2.2.2.ps _ (nth_mem _ _ hi0) _ (nth_mem _ _ hj0)
   have HR := Lib.hid (And.intro hcs (And.intro (hps.below (b2.alloc b2.size (.cells #[.string s.n, .bool s.st, .slice pa pn pc, .string s.r] 115))) (And.intro hpb hkl)))
   have H2 := Lib.hid (hh.out.below b2)
   obtain ⟨-, v4, v6, ⟨-, -, -, -, hv4, hv6⟩, hz⟩ := HC.out.2.2.1.2 k hlt
   obtain ⟨wa, wc, rfl⟩ := hv4.shape
   obtain ⟨xa, xc, rfl, hml, xidx, xcell⟩ := InS.is hv6
   have j1 := HC.out.2.2.1.1 (k : Int) (by omega) (by omega)
   rw [Int.toNat_natCast] at j1
   obtain ⟨f, hf⟩ : ∃ f, f = nth u.fs k := ⟨_, rfl⟩
   obtain ⟨m, hm⟩ : ∃ m, m = f.cd.length := ⟨_, rfl⟩
   rw [← hf] at hz hv4 hv6 hml xidx xcell
   rw [← hm] at hz hv6 hml xidx xcell
   have HFF := Lib.hid (And.intro hf (And.intro hm (And.intro (And.intro hv4 hv6) (And.intro (And.intro xidx xcell) hz))))
   clear b2 c0 c1 hcs hps hcs0 hpb hkl hi0 hj0 hk0 hf hm hv4 hv6 xidx xcell hz
   go_upto_region 9 with fail
   have HA := Lib.hid (H2.out.alloc [.string s.n, .bool s.st, .slice pa pn pc, .string s.r] 115)
   refine gen_code (fun Z' => Env W [fkC W2.heap.size [.string s.n, .bool s.st, .slice pa pn pc, .string s.r], fkC b [.slice ha N hc, .slice fa F fc, .int .i64 u.mn]] Z' ∧ InS vS Z' (.slice pa pn pc) s.ps) ⟨HA.out, HR.out.2.1⟩ ?_
   rintro Z2 ⟨hZ2, hps2⟩
   obtain ⟨bs, hbs⟩ : ∃ b, b = W2.heap.size := ⟨_, rfl⟩
   rw [← hbs] at hZ2 ⊢
   have HZ2 := Lib.hid (And.intro hZ2 hps2)
   have c0 := hZ2.cell 1 rfl 0 rfl
   have c1 := hZ2.cell 1 rfl 1 rfl
   have s0 := hZ2.cell 0 rfl 0 rfl
   have s1 := hZ2.cell 0 rfl 1 rfl
   have s2 := hZ2.cell 0 rfl 2 rfl
   have s3 := hZ2.cell 0 rfl 3 rfl
   obtain ⟨p0, p1, p2, p3, p4, p5, p6⟩ := HFF.out.2.2.2.2 Z2 hZ2.bel
   have HE2 := Lib.hid HZ2.out.1.drew
   have HPD := Lib.hid (HZ2.out.2.below ((Below.refl _ _).drew))
   clear hZ2 hps2 hbs HA c0 c1 s0 s1 s2 s3 p0 p1 p2 p3 p4 p5 p6
   refine wp_region_plan (.take 0 (.take 1 (.take 2 (.take 3 (.take 4 (.take 5 (.take 6 (.take 7 (.take 8 (.alt 9 (.take 10 (.take 11 (.take 12 (.take 13 (.take 14 .done))))) .stop)))))))))) (fun w' => Env W [fkC bs [.string s.n, .bool s.st, .slice pa pn pc, .string s.r], fkC b [.slice ha N hc, .slice fa F fc, .int .i64 u.mn]] w') (by kernel_rfl) (by kernel_rfl) (by kernel_rfl) (by kernel_rfl) HE2.out ?_
   generalize Z2.drew = V at *
   repeat (
    refine plan_take (v := ?_) rfl (Or.inl ⟨by rfl, ?_⟩) ?_
    rotate_left
    ·(intro W hW; have c0 := hW.cell 1 rfl 0 rfl; have c1 := hW.cell 1 rfl 1 rfl; have s0 := hW.cell 0 rfl 0 rfl; have s1 := hW.cell 0 rfl 1 rfl; have s2 := hW.cell 0 rfl 2 rfl; have s3 := hW.cell 0 rfl 3 rfl; obtain ⟨p0, p1, p2, p3, p4, p5, p6⟩ := HFF.out.2.2.2.2 W hW.bel; (try go_simp); try with_reducible rfl)
    simp only [Act.put, List.setIfInBounds_toArray, List.getElem_toArray, List.getElem_cons_zero, List.getElem_cons_succ, List.set_cons_succ, List.set_cons_zero])
   refine plan_alt rfl ?_ plan_stop
   go_wp2_with fail
   refine (rFunc_any u.cs _ f _ _ c s _ _ (HC.out.1.below HE2.out.bel) (by have := HH.out.cl; omega) (HFF.out.2.2.1.1.below HE2.out.bel) (HFF.out.2.2.1.2.below HE2.out.bel) HPD.out HR.out.2.2.1 (fun i hi => by
    refine HC.out.2.2.2.2.2.ar f ?_ _ (nth_mem _ _ hi)
    rw [HFF.out.1]; exact nth_mem _ _ HR.out.2.2.2)).mono ?_
   rintro e W3 ⟨i3, n3, rfl, hf3, b3⟩
   have H3 := Lib.hid (And.intro (HE2.out.below b3) hf3)
   clear b3 hf3
   go_wp2_with fail
   refine tail_mk H3.out.1 ?_
   repeat (
    refine plan_take (v := ?_) rfl (Or.inl ⟨by rfl, ?_⟩) ?_
    rotate_left
    ·(intro W hW; have c0 := hW.cell 1 rfl 0 rfl; have c1 := hW.cell 1 rfl 1 rfl; have s0 := hW.cell 0 rfl 0 rfl; have s1 := hW.cell 0 rfl 1 rfl; have s2 := hW.cell 0 rfl 2 rfl; have s3 := hW.cell 0 rfl 3 rfl; obtain ⟨p0, p1, p2, p3, p4, p5, p6⟩ := HFF.out.2.2.2.2 W hW.bel; (try go_simp); try with_reducible rfl)
    simp only [Act.put, List.setIfInBounds_toArray, List.getElem_toArray, List.getElem_cons_zero, List.getElem_cons_succ, List.set_cons_succ, List.set_cons_zero])
   refine plan_done ?_
   by_cases hn3 : n3 = 0
   case neg =>
    have t1 : (n3 != 0) = true := by simpa using hn3
    have t2 : (n3 == 0) = false := by simpa using hn3
    have HQ := Lib.hid hn3
    clear hn3
    go_wp2_with fail
    go_ret3
    exact ⟨k, i3, n3, rfl, fun h => absurd h HQ.out, H3.out.1.bel⟩
   subst hn3
   have hFO := H3.out.2 (by first | rfl | trivial)
   have HFS := Lib.hid (show FsOk u (k + 1) from fun p hp => by
    by_cases e : p = k
    ·subst e
     rw [← HFF.out.1]
     refine ⟨hFO.2, fun i j hi hj e => ?_⟩
     obtain ⟨h1, h2⟩ := HR.out.1 i j hi hj e
     rw [← h1, ← h2]; exact hFO.1
    ·exact HF.out p (by omega))
   have hm1024 : m ≤ 1024 := by rw [HFF.out.2.1]; exact hFO.2.len.2
   have c1 := H3.out.1.cell 1 rfl 1 rfl
   obtain ⟨-, -, -, -, -, -, p6⟩ := HFF.out.2.2.2.2 W3 H3.out.1.bel
   clear hFO
   go_wp2_with fail
   go_loop [6, 13] (fun x z => ∃ j r : Nat, j ≤ m ∧ z = .int .i64 (j : Int) ∧ x = .int .i64 (r : Int) ∧ r ≤ 1024 * k + j) (fun _ z => m - (intOf z).toNat)
   case atStart => exact ⟨0, q, by omega, rfl, rfl, by omega⟩
   case round =>
    obtain ⟨j, r, hj, rfl, rfl, hr⟩ := hrel
    by_cases hjm : j < m
    ·have hji : (j : Int) < (m : Int) := by omega
     obtain ⟨-, v7, -, hy⟩ := HFF.out.2.2.2.1.2 j hjm
     have y0 := (hy W3 H3.out.1.bel).1
     have j2 := HFF.out.2.2.2.1.1 (j : Int) (by omega) (by omega)
     rw [Int.toNat_natCast] at j2
     clear hy
     obtain ⟨op, hop⟩ : ∃ o, o = (nth f.cd j).op := ⟨_, rfl⟩
     rw [← hop] at y0
     clear hop
     by_cases h6 : op = 6
     ·subst h6
      go_wp2_with fail
      go_round
      case rel => exact ⟨j + 1, r + 1, by omega, by go_num, by go_num, by omega⟩
      case measure => simp [intOf]; omega
     ·have t6 : (op == 6) = false := by simpa using h6
      clear h6
      go_wp2_with fail
      go_round
      case rel => exact ⟨j + 1, r, by omega, by go_num, rfl, by omega⟩
      case measure => simp [intOf]; omega
    ·obtain rfl : m = j := by omega
     clear hjm hj
     go_wp2_with fail
     go_roundw
     case rel => exact ⟨k + 1, r, by omega, by go_num, rfl, by omega, HFS.out, H3.out.1.sub (by simp)⟩
     case measure => simp [intOf]; omega
  ·obtain rfl : F = k := by omega
   have HU := Lib.hid (uok_of HH.out (by rw [← HC.out.2.2.2.2.1]; exact HF.out))
   clear hlt hk
   by_cases hq2 : 1024 < q
   ·have t1 : decide ((1024 : Int) < (q : Int)) = true := decide_eq_true (by omega)
    have t2 : decide (1024 < q) = true := decide_eq_true hq2
    clear hq2
    go_wp2_with fail
    go_ret3
    exact ⟨-1, -1, 3, rfl, (fun h => by cases h), hh.out.bel⟩
   ·have t1 : decide ((1024 : Int) < (q : Int)) = false := decide_eq_false (by omega)
    have t2 : decide (1024 < q) = false := decide_eq_false hq2
    clear hq2
    go_wp2_with fail
    go_ret3
    exact ⟨0, 0, 0, rfl, fun _ => ⟨HU.out, HH.out.cl, HH.out.fl⟩, hh.out.bel⟩
end Go.Proofs.YtnklnklkblgnfaaGreatDoor
end
section
namespace Go.Hir
open Go.Dfl (nth nth_mem mem_nth nth_eq nth_ext take_snoc nth_set nth_append nth_out)
open Go.Obs
structure Frm where
 f : Nat
 i : Nat
 no : Int
 cl : Int
 vs : List Vl
 ex : Vl
deriving Inhabited
structure Obj where
 c : ByteArray
 sl : List (ByteArray × Vl)
deriving Inhabited
structure Mch where
 inp : List Int
 hp : List Obj
 fr : List Frm
 n : Int
 ob : List Ob
deriving Inhabited
def zV (t : ByteArray) : Vl := if t = tI then ⟨1, 0, 0⟩ else ⟨2, 0, 0⟩
def tpN (m : Mch) : Nat := m.fr.length - 1
def tp (m : Mch) : Frm := nth m.fr (tpN m)
def fnOf (u : Un) (g : Frm) : Fu := nth u.fs g.f
def isOf (u : Un) (g : Frm) : Is := nth (fnOf u g).cd g.i
def rd (u : Un) (g : Frm) (v : Int) : Vl := if (nth g.vs v.toNat).k = 0 then zV (vty (fnOf u g) v) else nth g.vs v.toNat
def up (m : Mch) (g : Frm) : Mch := { m with fr := m.fr.set (tpN m) g }
def setG (g : Frm) (v : Int) (x : Vl) : Frm := { g with vs := g.vs.set v.toNat x, i := g.i + 1 }
def setV (m : Mch) (v : Int) (x : Vl) : Mch := up m (setG (tp m) v x)
def goN (m : Mch) (i : Nat) : Mch := up m { tp m with i := i }
def flds (cs : List Cl) (c : ByteArray) : List Vd := (sups cs c).flatMap fun d => (clOf cs d).fs
def newO (u : Un) (c : ByteArray) : Obj := ⟨c, (flds u.cs c).map fun f => (f.n, zV f.t)⟩
def slF (l : List (ByteArray × Vl)) (m : ByteArray) : Nat → Nat → Nat
 | 0, _ => 0
 | n + 1, k => if (nth l k).1 = m then k else slF l m n (k + 1)
def slt (o : Obj) (m : ByteArray) : Nat := slF o.sl m o.sl.length 0
def dsp (u : Un) (c m : ByteArray) : Int := match methP u.cs c m with
 | none => -1
 | some (d, s) => if s.st then -1 else fuI u.fs d m
def pad (a : List Vl) (n : Nat) : List Vl := a ++ List.replicate (n - a.length) default
def entP (u : Un) (m : Mch) (fn : Int) (a : List Vl) : Mch :=
 { m with fr := m.fr ++ [⟨fn.toNat, 0, m.n, (m.ob.length : Int) - 1, pad a (nth u.fs fn.toNat).vs.length, default⟩], n := m.n + 1 }
def rsK (u : Un) (e : Vl) (fr : List Frm) : Nat → List Frm
 | 0 => []
 | k + 1 => if (isOf u (nth fr k)).ct ≠ -1 then fr.take k ++ [{ nth fr k with i := (isOf u (nth fr k)).ct.toNat, ex := e }] else rsK u e fr k
def rsP (u : Un) (m : Mch) (e : Vl) : Mch × Int := ({ m with fr := rsK u e m.fr m.fr.length }, if rsK u e m.fr m.fr.length = [] then 2 else 0)
def binV (op a b : Int) : Int :=
 if op = 1 then IntKind.i64.wrap (a + b) else if op = 2 then IntKind.i64.wrap (a - b) else if op = 3 then IntKind.i64.wrap (a * b)
 else if op = 4 ∧ a < b ∨ op = 5 ∧ a = b then 1 else 0
def eqV (a b : Vl) : Int := if a.k = b.k ∧ (a.k = 2 ∨ a.n = b.n) then 1 else 0
def cpV (u : Un) (m : Mch) (x : Is) : Vl :=
 if x.op = 1 then ⟨1, x.n, 0⟩ else if x.op = 2 then ⟨2, 0, 0⟩ else if x.op = 3 then rd u (tp m) x.a else if x.op = 16 then ⟨1, IntKind.i64.wrap ((rd u (tp m) x.a).n + x.n), 0⟩
 else if x.op = 5 then ⟨1, nth m.inp 0, 0⟩
 else ⟨1, if (rd u (tp m) x.a).k = 1 then binV x.n (rd u (tp m) x.a).n (rd u (tp m) x.b).n else eqV (rd u (tp m) x.a) (rd u (tp m) x.b), 0⟩
def cpM (u : Un) (m : Mch) (x : Is) : Mch :=
 if x.op = 5 then { m with inp := m.inp.tail } else if x.op = 6 then { m with hp := m.hp ++ [newO u x.c] } else m
def cpW (u : Un) (m : Mch) (x : Is) : Vl := if x.op = 6 then ⟨3, (m.hp.length : Int), ((siU u.fs (tp m).f (tp m).i).length : Int)⟩ else cpV u m x
def cpP (u : Un) (m : Mch) (x : Is) : Mch := setV (cpM u m x) x.d (cpW u m x)
def slotOf (m : Mch) (a : Vl) (nm : ByteArray) : Nat := slt (nth m.hp a.n.toNat) nm
def putS (m : Mch) (b k : Nat) (v : Vl) : Mch := { m with hp := m.hp.set b { nth m.hp b with sl := (nth m.hp b).sl.set k ((nth (nth m.hp b).sl k).1, v) } }
def memP (u : Un) (m : Mch) (x : Is) : Mch × Int :=
 if (rd u (tp m) x.a).k ≠ 3 then (m, 3)
 else if x.op = 7 then (setV m x.d (nth (nth m.hp (rd u (tp m) x.a).n.toNat).sl (slotOf m (rd u (tp m) x.a) x.m)).2, 0)
 else (goN (putS m (rd u (tp m) x.a).n.toNat (slotOf m (rd u (tp m) x.a) x.m) (rd u (tp m) x.b)) ((tp m).i + 1), 0)
def callee (u : Un) (m : Mch) (x : Is) : Int := if x.op = 9 then dsp u (nth m.hp (rd u (tp m) x.a).n.toNat).c x.m else fuI u.fs x.c x.m
def args (u : Un) (m : Mch) (x : Is) : List Vl := (if x.op = 9 then [rd u (tp m) x.a] else []) ++ x.ar.map (rd u (tp m))
def callP (u : Un) (m : Mch) (x : Is) : Mch × Int :=
 if x.op = 9 ∧ (rd u (tp m) x.a).k ≠ 3 then (m, 3) else if 64 ≤ m.fr.length then (m, 5) else (entP u m (callee u m x) (args u m x), 0)
def retV (u : Un) (m : Mch) (x : Is) : Vl := if x.a ≠ -1 then rd u (tp m) x.a else ⟨0, 0, 0⟩
def popM (m : Mch) : Mch := { m with fr := m.fr.take (m.fr.length - 1) }
def retG (u : Un) (g : Frm) (r : Vl) : Frm := { g with vs := if (isOf u g).d ≠ -1 then g.vs.set (isOf u g).d.toNat r else g.vs, i := g.i + 1 }
def retP (u : Un) (m : Mch) (x : Is) : Mch × Int :=
 if m.fr.length = 1 then (popM m, 1) else (up (popM m) (retG u (tp (popM m)) (retV u m x)), 0)
def thrP (u : Un) (m : Mch) (x : Is) : Mch × Int := if (rd u (tp m) x.a).k ≠ 3 then (m, 3) else rsP u m (rd u (tp m) x.a)
def catP (u : Un) (m : Mch) (x : Is) : Mch × Int :=
 if x.c ∈ sups u.cs (nth m.hp (tp m).ex.n.toNat).c then (setV m x.d (tp m).ex, 0) else rsP u m (tp m).ex
def stepP (u : Un) (m : Mch) : Mch × Int :=
 let x := isOf u (tp m)
 if x.op = 0 then (goN m ((tp m).i + 1), 0)
 else if x.op = 11 then (if (rd u (tp m) x.a).n ≠ 0 then (goN m x.g.toNat, 0) else (goN m ((tp m).i + 1), 0))
 else if x.op = 12 then (goN m x.g.toNat, 0)
 else if x.op = 7 ∨ x.op = 8 then memP u m x
 else if x.op = 9 ∨ x.op = 10 then callP u m x
 else if x.op = 13 then retP u m x
 else if x.op = 14 then thrP u m x
 else if x.op = 15 then catP u m x
 else (cpP u m x, 0)
def recO (m : Mch) : Ob := ⟨(tp m).f, (tp m).i, (tp m).no, (tp m).cl, (tp m).vs⟩
def recM (m : Mch) : Mch := { m with ob := m.ob ++ [recO m] }
def runN (u : Un) : Nat → Mch → Mch × Int
 | 0, m => (m, 0)
 | n + 1, m => if (stepP u (recM m)).2 ≠ 0 then stepP u (recM m) else runN u n (stepP u (recM m)).1
def startM (u : Un) (inp : List Int) : Mch := entP u ⟨inp, [], [], 0, []⟩ u.mn []
variable {u : Un}
def RefK (hc ss : List ByteArray) (v : Vl) : Prop := 0 ≤ v.n ∧ v.n < hc.length ∧ 0 ≤ v.s ∧ v.s < ss.length ∧ nth ss v.s.toNat = nth hc v.n.toNat
def TV (cs : List Cl) (hc ss : List ByteArray) (t : ByteArray) (v : Vl) : Prop :=
 (v.k = 1 ∧ t = tI) ∨ (v.k = 2 ∧ t ≠ tI) ∨ (v.k = 3 ∧ t ≠ tI ∧ RefK hc ss v ∧ t ∈ sups cs (nth hc v.n.toNat))
def TU (cs : List Cl) (hc ss : List ByteArray) (t : ByteArray) (v : Vl) : Prop := v.k = 0 ∨ TV cs hc ss t v
section
variable {cs : List Cl} {hc hc' ss : List ByteArray} {f t : ByteArray} {v : Vl}
theorem TV.fits (H : HOk cs) (h : TV cs hc ss f v) (hf : Fits cs f t) : TV cs hc ss t v := by
 rcases hf with rfl | ⟨rfl, h1⟩ | ⟨h1, h2, h3⟩
 ·exact h
 ·rcases h with ⟨-, e⟩ | ⟨h2, -⟩ | ⟨-, -, -, h2⟩
  ·exact absurd e (by decide)
  ·exact .inr (.inl ⟨h2, h1⟩)
  ·exact absurd (sups_isC h2) (H.notC (.inr (.inl rfl)))
 ·have ht : t ≠ tI := fun e => H.notC (.inl e) h2
  rcases h with ⟨-, e⟩ | ⟨h4, -⟩ | ⟨h4, -, h5, h6⟩
  ·exact absurd h1 (H.notC (.inl e))
  ·exact .inr (.inl ⟨h4, ht⟩)
  ·exact .inr (.inr ⟨h4, ht, h5, sups_trans H.acyc h6 h3⟩)
def Ext (hc hc' : List ByteArray) : Prop := hc.length ≤ hc'.length ∧ ∀ i, i < hc.length → nth hc' i = nth hc i
theorem Ext.snoc (hc : List ByteArray) (c : ByteArray) : Ext hc (hc ++ [c]) := ⟨by simp, fun i hi => by rw [nth_append, if_pos hi]⟩
theorem RefK.ext (h : RefK hc ss v) (he : Ext hc hc') : RefK hc' ss v := by
 obtain ⟨h1, h2, h3, h4, h5⟩ := h
 have := he.1
 exact ⟨h1, by omega, h3, h4, by rw [he.2 _ (by omega)]; exact h5⟩
theorem TV.ext (h : TV cs hc ss t v) (he : Ext hc hc') : TV cs hc' ss t v := by
 rcases h with h | h | ⟨h1, h2, h3, h4⟩
 ·exact .inl h
 ·exact .inr (.inl h)
 ·exact .inr (.inr ⟨h1, h2, h3.ext he, by rw [he.2 _ (by have := h3.1; have := h3.2.1; omega)]; exact h4⟩)
theorem TU.ext (h : TU cs hc ss t v) (he : Ext hc hc') : TU cs hc' ss t v := h.imp id fun h => h.ext he
theorem TV.zero (t : ByteArray) : TV cs hc ss t (zV t) := by
 unfold zV
 by_cases e : t = tI
 ·rw [if_pos e]; exact .inl ⟨rfl, e⟩
 ·rw [if_neg e]; exact .inr (.inl ⟨rfl, e⟩)
end
def sts (u : Un) : List ByteArray := (sites u).map fun x => x.2.2
def hcs (m : Mch) : List ByteArray := m.hp.map Obj.c
structure FrT (u : Un) (hc : List ByteArray) (g : Frm) : Prop where
 f : g.f < u.fs.length
 i : g.i < (fnOf u g).cd.length
 len : g.vs.length = (fnOf u g).vs.length
 vs : ∀ j, j < g.vs.length → TU u.cs hc (sts u) (nth (fnOf u g).vs j).t (nth g.vs j)
 ex : (isOf u g).op = 15 → g.ex.k = 3 ∧ RefK hc (sts u) g.ex
structure Wt (u : Un) (g h : Frm) : Prop where
 op : (isOf u g).op = 9 ∨ (isOf u g).op = 10
 r : (isOf u g).d ≠ -1 → (fnOf u h).r ≠ ⟨#[]⟩ ∧ Fits u.cs (fnOf u h).r (vty (fnOf u g) (isOf u g).d)
structure ObjT (u : Un) (hc : List ByteArray) (o : Obj) : Prop where
 c : isC u.cs o.c
 len : o.sl.length = (flds u.cs o.c).length
 sl : ∀ j, j < o.sl.length → (nth o.sl j).1 = (nth (flds u.cs o.c) j).n ∧ TV u.cs hc (sts u) (nth (flds u.cs o.c) j).t (nth o.sl j).2
structure ObT (u : Un) (hc : List ByteArray) (o : Ob) : Prop where
 f : 0 ≤ o.f ∧ o.f < u.fs.length
 i : 0 ≤ o.i ∧ o.i < (nth u.fs o.f.toNat).cd.length
 len : o.vs.length = (nth u.fs o.f.toNat).vs.length
 vs : ∀ j, j < o.vs.length → TU u.cs hc (sts u) (nth (nth u.fs o.f.toNat).vs j).t (nth o.vs j)
def May (u : Un) (x : Is) (f : Nat) : Prop := (x.op = 10 ∧ fuI u.fs x.c x.m = (f : Int)) ∨ (x.op = 9 ∧ ∃ c, isC u.cs c ∧ x.c ∈ sups u.cs c ∧ dsp u c x.m = (f : Int))
def CallK (u : Un) (ob : List Ob) (c : Int) (f : Nat) : Prop := c = -1 ∨ (0 ≤ c ∧ c < ob.length ∧ May u (nth (nth u.fs (nth ob c.toNat).f.toNat).cd (nth ob c.toNat).i.toNat) f)
structure MT (u : Un) (m : Mch) : Prop where
 hp : ∀ j, j < m.hp.length → ObjT u (hcs m) (nth m.hp j)
 fr : ∀ j, j < m.fr.length → FrT u (hcs m) (nth m.fr j)
 wt : ∀ j, j + 1 < m.fr.length → Wt u (nth m.fr j) (nth m.fr (j + 1))
 cl : ∀ j, j < m.fr.length → CallK u m.ob (nth m.fr j).cl (nth m.fr j).f
 ob : ∀ j, j < m.ob.length → ObT u (hcs m) (nth m.ob j)
 oc : ∀ j, j < m.ob.length → CallK u (m.ob.take j) (nth m.ob j).c (nth m.ob j).f.toNat
 dep : m.fr.length ≤ 64
 hl : m.hp.length ≤ m.ob.length
 nl : 0 ≤ m.n ∧ m.n ≤ (m.ob.length : Int) + 1
end Go.Hir
end
section
namespace Go.Hir
open Go.Dfl (nth nth_mem mem_nth nth_eq nth_ext take_snoc nth_set nth_append nth_out)
open Go.Obs
theorem nth_take {α : Type} [Inhabited α] (l : List α) (k i : Nat) (h : i < k) : nth (l.take k) i = nth l i := by
 unfold nth
 simp [h]
theorem nth_mapO (l : List Obj) (i : Nat) (h : i < l.length) : nth (l.map Obj.c) i = (nth l i).c := by
 rw [nth_eq _ _ (by rw [List.length_map]; exact h), nth_eq _ _ h, List.getElem_map]
theorem flat_find {cs : List Cl} {m c t : ByteArray} : ∀ {l : List ByteArray}, fieldL cs m l = some (c, t) → ∃ k, k < (l.flatMap fun d => (clOf cs d).fs).length ∧ (nth (l.flatMap fun d => (clOf cs d).fs) k).n = m ∧ (nth (l.flatMap fun d => (clOf cs d).fs) k).t = t ∧ ∀ j, j < k → (nth (l.flatMap fun d => (clOf cs d).fs) j).n ≠ m
 | [], h => by cases h
 | a :: l, h => by
   have key : ∀ (L : List Vd) (t : ByteArray), fdV L m = some t → ∃ k, k < L.length ∧ (nth L k).n = m ∧ (nth L k).t = t ∧ ∀ j, j < k → (nth L j).n ≠ m := by
    intro L
    induction L with
    | nil => intro t h; cases h
    | cons f L ih =>
      intro t h
      unfold fdV at h
      by_cases e : f.n = m
      ·rw [if_pos e] at h
       exact ⟨0, by simp, e, Option.some.inj h, fun j hj => by omega⟩
      ·rw [if_neg e] at h
       obtain ⟨k, h1, h2, h3, h4⟩ := ih t h
       refine ⟨k + 1, by simp; omega, h2, h3, fun j hj => ?_⟩
       cases j with
       | zero => exact e
       | succ j => exact h4 j (by omega)
   rw [List.flatMap_cons]
   unfold fieldL at h
   cases e : fdV (clOf cs a).fs m with
   | some t' =>
     rw [e] at h
     obtain ⟨rfl, rfl⟩ : a = c ∧ t' = t := by simpa using h
     obtain ⟨k, h1, h2, h3, h4⟩ := key _ _ e
     refine ⟨k, by rw [List.length_append]; omega, ?_, ?_, fun j hj => ?_⟩
     ·rw [nth_append, if_pos h1]; exact h2
     ·rw [nth_append, if_pos h1]; exact h3
     ·rw [nth_append, if_pos (by omega)]; exact h4 j hj
   | none =>
     rw [e] at h
     obtain ⟨k, h1, h2, h3, h4⟩ := flat_find h
     refine ⟨(clOf cs a).fs.length + k, by rw [List.length_append]; omega, ?_, ?_, fun j hj => ?_⟩
     ·rw [nth_append, if_neg (by omega), Nat.add_sub_cancel_left]; exact h2
     ·rw [nth_append, if_neg (by omega), Nat.add_sub_cancel_left]; exact h3
     ·rw [nth_append]
      by_cases e2 : j < (clOf cs a).fs.length
      ·rw [if_pos e2]; exact fdV_none e _ (nth_mem _ _ e2)
      ·rw [if_neg e2]; exact h4 _ (by omega)
theorem slF_eq {l : List (ByteArray × Vl)} {m : ByteArray} {k : Nat} (h : (nth l k).1 = m) (hb : ∀ j, j < k → (nth l j).1 ≠ m) : ∀ (n i : Nat), i ≤ k → k < i + n → slF l m n i = k
 | 0, i, _, _ => by omega
 | n + 1, i, h1, h2 => by
   unfold slF
   by_cases e : i = k
   ·subst e; rw [if_pos h]
   ·rw [if_neg (hb i (by omega))]
    exact slF_eq h hb n (i + 1) (by omega) (by omega)
section
variable {u : Un} {hc : List ByteArray} {o : Obj}
theorem slot_ok (H : HOk u.cs) (h : ObjT u hc o) {t m c ty : ByteArray} (h1 : t ∈ sups u.cs o.c) (h2 : fieldP u.cs t m = some (c, ty)) : slt o m < o.sl.length ∧ (nth (flds u.cs o.c) (slt o m)).t = ty ∧ (nth o.sl (slt o m)).1 = m := by
 have h3 := H.field h1 h2
 obtain ⟨k, k1, k2, k3, k4⟩ := flat_find h3
 have k1 : k < (flds u.cs o.c).length := k1
 have e : slt o m = k := by
  refine slF_eq ?_ (fun j hj => ?_) _ 0 (Nat.zero_le _) (by rw [h.len]; omega)
  ·rw [(h.sl k (by rw [h.len]; exact k1)).1]; exact k2
  ·rw [(h.sl j (by rw [h.len]; omega)).1]; exact k4 j hj
 rw [e]
 exact ⟨by rw [h.len]; exact k1, k3, by rw [(h.sl k (by rw [h.len]; exact k1)).1]; exact k2⟩
theorem ObjT.ext (h : ObjT u hc o) {hc' : List ByteArray} (he : Ext hc hc') : ObjT u hc' o := ⟨h.c, h.len, fun j hj => ⟨(h.sl j hj).1, (h.sl j hj).2.ext he⟩⟩
theorem newO_ok {c : ByteArray} (h : isC u.cs c) : ObjT u hc (newO u c) := by
 refine ⟨h, by simp [newO], fun j hj => ?_⟩
 have hj' : j < (flds u.cs c).length := by simpa [newO] using hj
 have e : nth (newO u c).sl j = ((nth (flds u.cs c) j).n, zV (nth (flds u.cs c) j).t) := by
  rw [nth_eq _ _ hj, nth_eq _ _ hj']
  simp [newO]
 rw [e]
 exact ⟨rfl, TV.zero _⟩
theorem ObT.ext {b : Ob} (h : ObT u hc b) {hc' : List ByteArray} (he : Ext hc hc') : ObT u hc' b := ⟨h.f, h.i, h.len, fun j hj => (h.vs j hj).ext he⟩
theorem FrT.ext {g : Frm} (h : FrT u hc g) {hc' : List ByteArray} (he : Ext hc hc') : FrT u hc' g := ⟨h.f, h.i, h.len, fun j hj => (h.vs j hj).ext he, fun e => ⟨(h.ex e).1, (h.ex e).2.ext he⟩⟩
structure IO (u : Un) (g : Frm) : Prop where
 op : 0 ≤ (isOf u g).op ∧ (isOf u g).op ≤ 16
 rng : Rng (fnOf u g) (isOf u g)
 stay : Stay (fnOf u g) g.i (isOf u g)
 typ : Typd u.cs (fnOf u g) (isOf u g)
theorem rd_ok {g : Frm} (h : FrT u hc g) {v : Int} (h1 : v < (fnOf u g).vs.length) (_ : 0 ≤ v) : TV u.cs hc (sts u) (vty (fnOf u g) v) (rd u g v) := by
 unfold rd
 by_cases e : (nth g.vs v.toNat).k = 0
 ·rw [if_pos e]; exact TV.zero _
 ·rw [if_neg e]
  rcases h.vs v.toNat (by rw [h.len]; omega) with h2 | h2
  ·exact absurd h2 e
  ·exact h2
theorem FrT.iok {g : Frm} (H : UOk u) (h : FrT u hc g) : IO u g :=
 have I := (H.fn _ h.f).ins _ h.i
 ⟨I.op, I.rng, I.stay, I.typ⟩
theorem FrT.at {g g' : Frm} (h : FrT u hc g) {i : Nat} (hi : i < (fnOf u g).cd.length) (ho : (nth (fnOf u g).cd i).op ≠ 15) (ef : g'.f = g.f) (ei : g'.i = i) (ev : g'.vs = g.vs) : FrT u hc g' := by
 have e : fnOf u g' = fnOf u g := by unfold fnOf; rw [ef]
 refine ⟨by rw [ef]; exact h.f, by rw [e, ei]; exact hi, by rw [e, ev]; exact h.len, fun j hj => ?_, fun h15 => ?_⟩
 ·rw [e, ev]; exact h.vs j (by rw [← ev]; exact hj)
 ·exact absurd (by unfold isOf at h15; rw [e, ei] at h15; exact h15) ho
theorem FrT.put {g g' : Frm} (h : FrT u hc g) {i : Nat} (hi : i < (fnOf u g).cd.length) (ho : (nth (fnOf u g).cd i).op ≠ 15) (ef : g'.f = g.f) (ei : g'.i = i) {v : Int} {x : Vl} (_h0 : 0 ≤ v) (ev : g'.vs = g.vs.set v.toNat x)
  (hx : TV u.cs hc (sts u) (vty (fnOf u g) v) x) : FrT u hc g' := by
 have e : fnOf u g' = fnOf u g := by unfold fnOf; rw [ef]
 refine ⟨by rw [ef]; exact h.f, by rw [e, ei]; exact hi, by rw [e, ev, List.length_set]; exact h.len, fun j hj => ?_, fun h15 => ?_⟩
 ·rw [e, ev, nth_set]
  by_cases e2 : v.toNat = j ∧ v.toNat < g.vs.length
  ·rw [if_pos e2, ← e2.1]; exact .inr hx
  ·rw [if_neg e2]; exact h.vs j (by rw [ev, List.length_set] at hj; exact hj)
 ·exact absurd (by unfold isOf at h15; rw [e, ei] at h15; exact h15) ho
end
theorem siL_pre {i : Nat} {f : Fu} {k : Nat} : ∀ n, ∃ r, siL i f (k + n) = siL i f k ++ r
 | 0 => ⟨[], by simp⟩
 | n + 1 => by
   obtain ⟨r, h⟩ := siL_pre (i := i) (f := f) (k := k) n
   by_cases e : (nth f.cd (k + n)).op = 6
   ·exact ⟨r ++ [((i : Int), ((k + n : Nat) : Int), (nth f.cd (k + n)).c)], by rw [← Nat.add_assoc, siL_yes e, h, List.append_assoc]⟩
   ·exact ⟨r, by rw [← Nat.add_assoc, siL_no e, h]⟩
theorem siU_pre {fs : List Fu} {i k : Nat} (hk : k ≤ (nth fs i).cd.length) : ∀ n, ∃ r, siU fs (i + 1 + n) 0 = siU fs i k ++ r
 | 0 => by
   obtain ⟨r, h⟩ := siL_pre (i := i) (f := nth fs i) (k := k) ((nth fs i).cd.length - k)
   refine ⟨r, ?_⟩
   rw [Nat.add_zero, siU_next]
   unfold siU
   rw [List.append_assoc, ← h, show k + ((nth fs i).cd.length - k) = (nth fs i).cd.length by omega]
 | n + 1 => by
   obtain ⟨r, h⟩ := siU_pre hk n
   refine ⟨r ++ siL (i + 1 + n) (nth fs (i + 1 + n)) (nth fs (i + 1 + n)).cd.length, ?_⟩
   rw [← Nat.add_assoc, siU_next, ← List.append_assoc, ← h]
   unfold siU
   rw [siL_zero, List.append_nil]
theorem site_ok {u : Un} {f i : Nat} (hf : f < u.fs.length) (hi : i < (nth u.fs f).cd.length) (h : (nth (nth u.fs f).cd i).op = 6) : (siU u.fs f i).length < (sts u).length ∧ nth (sts u) (siU u.fs f i).length = (nth (nth u.fs f).cd i).c := by
 obtain ⟨r, hr⟩ := siU_pre (fs := u.fs) (i := f) (k := i + 1) (by omega) (u.fs.length - f - 1)
 rw [show f + 1 + (u.fs.length - f - 1) = u.fs.length by omega, siU_yes h] at hr
 have e : sts u = ((siU u.fs f i).map fun x => x.2.2) ++ ((nth (nth u.fs f).cd i).c :: r.map fun x => x.2.2) := by
  unfold sts sites
  rw [hr, List.map_append, List.map_append, List.append_assoc]; rfl
 rw [e]
 refine ⟨by simp, ?_⟩
 rw [nth_append, if_neg (by simp)]
 simp [nth]
end Go.Hir
end
section
namespace Go.Hir
open Go.Dfl (nth nth_mem mem_nth nth_eq nth_ext take_snoc nth_set nth_append nth_out)
open Go.Obs
variable {u : Un} {m : Mch}
structure Rcd (m : Mch) : Prop where
 pos : 0 < m.fr.length
 ob : 0 < m.ob.length
 f : (nth m.ob (m.ob.length - 1)).f = (tp m).f
 i : (nth m.ob (m.ob.length - 1)).i = (tp m).i
 hl : m.hp.length + 1 ≤ m.ob.length
 nl : m.n ≤ m.ob.length
theorem MT.top (M : MT u m) (hp : 0 < m.fr.length) : FrT u (hcs m) (tp m) := M.fr _ (by unfold tpN; omega)
theorem MT.upG (M : MT u m) (hp : 0 < m.fr.length) {g : Frm} (hg : FrT u (hcs m) g) (hf : g.f = (tp m).f) (hc : g.cl = (tp m).cl) : MT u (up m g) := by
 have hn : ∀ j, nth (up m g).fr j = if tpN m = j ∧ tpN m < m.fr.length then g else nth m.fr j := fun j => nth_set _ _ _ _
 have hl : (up m g).fr.length = m.fr.length := List.length_set
 refine ⟨M.hp, fun j hj => ?_, fun j hj => ?_, fun j hj => ?_, M.ob, M.oc, by rw [hl]; exact M.dep, M.hl, M.nl⟩
 ·rw [hn]
  by_cases e : tpN m = j ∧ tpN m < m.fr.length
  ·rw [if_pos e]; exact hg
  ·rw [if_neg e]; exact M.fr j (by omega)
 ·rw [hl] at hj
  have h1 := M.wt j hj
  rw [hn, hn, if_neg (by unfold tpN; omega)]
  by_cases e : tpN m = j + 1 ∧ tpN m < m.fr.length
  ·rw [if_pos e]
   have e2 : fnOf u g = fnOf u (nth m.fr (j + 1)) := by
    unfold fnOf; rw [hf]; unfold tp; rw [e.1]
   exact ⟨h1.op, fun h => by rw [e2]; exact h1.r h⟩
  ·rw [if_neg e]; exact h1
 ·rw [hn]
  by_cases e : tpN m = j ∧ tpN m < m.fr.length
  ·rw [if_pos e, hf, hc]
   exact M.cl _ e.2
  ·rw [if_neg e]; exact M.cl j (by omega)
theorem MT.inp (M : MT u m) (l : List Int) : MT u { m with inp := l } := ⟨M.hp, M.fr, M.wt, M.cl, M.ob, M.oc, M.dep, M.hl, M.nl⟩
theorem MT.cut (M : MT u m) (k : Nat) : MT u { m with fr := m.fr.take k } := by
 refine ⟨M.hp, fun j hj => ?_, fun j hj => ?_, fun j hj => ?_, M.ob, M.oc, ?_, M.hl, M.nl⟩
 ·rw [List.length_take] at hj; rw [nth_take _ _ _ (by omega)]; exact M.fr j (by omega)
 ·have hj : j + 1 < (m.fr.take k).length := hj
  rw [List.length_take] at hj; rw [nth_take _ _ _ (by omega), nth_take _ _ _ (by omega)]; exact M.wt j (by omega)
 ·rw [List.length_take] at hj; rw [nth_take _ _ _ (by omega)]; exact M.cl j (by omega)
 ·have := M.dep
  show (m.fr.take k).length ≤ 64
  rw [List.length_take]; omega
theorem MT.obj (M : MT u m) {o : Obj} (ho : ∀ hc, ObjT u hc o) (hl : m.hp.length + 1 ≤ m.ob.length) : MT u { m with hp := m.hp ++ [o] } := by
 have he : Ext (hcs m) (hcs { m with hp := m.hp ++ [o] }) := by
  unfold hcs; rw [List.map_append]; exact Ext.snoc _ _
 refine ⟨fun j hj => ?_, fun j hj => (M.fr j hj).ext he, M.wt, M.cl, fun j hj => (M.ob j hj).ext he, M.oc, M.dep, by rw [List.length_append]; exact hl, M.nl⟩
 show ObjT u _ (nth (m.hp ++ [o]) j)
 rw [nth_append]
 by_cases e : j < m.hp.length
 ·rw [if_pos e]; exact (M.hp j e).ext he
 ·have hj : j < (m.hp ++ [o]).length := hj
  rw [List.length_append, List.length_singleton] at hj
  rw [if_neg e, show j - m.hp.length = 0 by omega]; exact ho _
theorem MT.slot (M : MT u m) {b k : Nat} {v : Vl} (hb : b < m.hp.length) (hv : TV u.cs (hcs m) (sts u) (nth (flds u.cs (nth m.hp b).c) k).t v) : MT u (putS m b k v) := by
 have hn : ∀ j, nth (putS m b k v).hp j = if b = j ∧ b < m.hp.length then { nth m.hp b with sl := (nth m.hp b).sl.set k ((nth (nth m.hp b).sl k).1, v) } else nth m.hp j := fun j => nth_set _ _ _ _
 have hc : hcs (putS m b k v) = hcs m := by
  unfold hcs
  refine nth_ext (by simp [putS]) fun j hj => ?_
  have hj1 : j < m.hp.length := by simpa [putS] using hj
  rw [nth_mapO _ _ (by simpa [putS] using hj1), nth_mapO _ _ hj1, hn]
  by_cases e : b = j ∧ b < m.hp.length
  ·rw [if_pos e, ← e.1]
  ·rw [if_neg e]
 have hl : (putS m b k v).hp.length = m.hp.length := List.length_set
 refine ⟨fun j hj => ?_, fun j hj => by rw [hc]; exact M.fr j hj, M.wt, M.cl, fun j hj => by rw [hc]; exact M.ob j hj, M.oc, M.dep, by rw [hl]; exact M.hl, M.nl⟩
 rw [hc, hn]
 by_cases e : b = j ∧ b < m.hp.length
 ·rw [if_pos e]
  have h1 := M.hp b hb
  refine ⟨h1.c, by simp only [List.length_set]; exact h1.len, fun i hi => ?_⟩
  have hi : i < (nth m.hp b).sl.length := by simpa using hi
  have h2 := h1.sl i hi
  show (nth ((nth m.hp b).sl.set k _) i).1 = _ ∧ TV _ _ _ _ (nth ((nth m.hp b).sl.set k _) i).2
  rw [nth_set]
  by_cases e2 : k = i ∧ k < (nth m.hp b).sl.length
  ·rw [if_pos e2]
   obtain ⟨rfl, -⟩ := e2
   exact ⟨h2.1, hv⟩
  ·rw [if_neg e2]; exact h2
 ·rw [if_neg e]; exact M.hp j (by omega)
theorem MT.push (M : MT u m) (hp : 0 < m.fr.length) {g : Frm} (hd : m.fr.length < 64) (hg : FrT u (hcs m) g) (hw : Wt u (tp m) g) (hc : CallK u m.ob g.cl g.f) (hn : m.n ≤ m.ob.length) : MT u { m with fr := m.fr ++ [g], n := m.n + 1 } := by
 have key : ∀ j, j < (m.fr ++ [g]).length → nth (m.fr ++ [g]) j = if j < m.fr.length then nth m.fr j else g := fun j hj => by
  rw [nth_append]
  by_cases e : j < m.fr.length
  ·rw [if_pos e, if_pos e]
  ·rw [List.length_append, List.length_singleton] at hj
   rw [if_neg e, if_neg e, show j - m.fr.length = 0 by omega]; rfl
 have h0 := M.nl
 refine ⟨M.hp, fun j hj => ?_, fun j hj => ?_, fun j hj => ?_, M.ob, M.oc, ?_, M.hl, ?_⟩
 ·show FrT u _ (nth (m.fr ++ [g]) j)
  rw [key j hj]
  by_cases e : j < m.fr.length
  ·rw [if_pos e]; exact M.fr j e
  ·rw [if_neg e]; exact hg
 ·have hj : j + 1 < (m.fr ++ [g]).length := hj
  show Wt u (nth (m.fr ++ [g]) j) (nth (m.fr ++ [g]) (j + 1))
  have hl : (m.fr ++ [g]).length = m.fr.length + 1 := by simp
  rw [key j (by omega), key (j + 1) hj, if_pos (by omega)]
  by_cases e : j + 1 < m.fr.length
  ·rw [if_pos e]; exact M.wt j e
  ·rw [if_neg e]
   have : nth m.fr j = tp m := by unfold tp tpN; rw [show m.fr.length - 1 = j by omega]
   rw [this]; exact hw
 ·show CallK u _ (nth (m.fr ++ [g]) j).cl (nth (m.fr ++ [g]) j).f
  rw [key j hj]
  by_cases e : j < m.fr.length
  ·rw [if_pos e]; exact M.cl j e
  ·rw [if_neg e]; exact hc
 ·show (m.fr ++ [g]).length ≤ 64
  simp; omega
 ·show 0 ≤ m.n + 1 ∧ m.n + 1 ≤ (m.ob.length : Int) + 1; omega
theorem CallK.more {ob : List Ob} {c : Int} {f : Nat} (h : CallK u ob c f) (o : Ob) : CallK u (ob ++ [o]) c f := by
 rcases h with h | ⟨h1, h2, h3⟩
 ·exact .inl h
 ·exact .inr ⟨h1, by rw [List.length_append]; omega, by rw [nth_append, if_pos (by omega)]; exact h3⟩
theorem MT.recd (M : MT u m) (hp : 0 < m.fr.length) : MT u (recM m) ∧ Rcd (recM m) := by
 have ht := M.top hp
 have hnew : ObT u (hcs m) (recO m) := by
  refine ⟨⟨by show (0 : Int) ≤ ((tp m).f : Int); omega, by show ((tp m).f : Int) < _; have := ht.f; omega⟩, ⟨by show (0 : Int) ≤ ((tp m).i : Int); omega, ?_⟩, ?_, fun j hj => ?_⟩
  ·show ((tp m).i : Int) < ((nth u.fs ((tp m).f : Int).toNat).cd.length : Int)
   rw [Int.toNat_natCast]; have := ht.i; unfold fnOf at this; omega
  ·show (tp m).vs.length = (nth u.fs ((tp m).f : Int).toNat).vs.length
   rw [Int.toNat_natCast]; exact ht.len
  ·show TU _ _ _ (nth (nth u.fs ((tp m).f : Int).toNat).vs j).t _
   rw [Int.toNat_natCast]; exact ht.vs j hj
 have key : ∀ j, j < (m.ob ++ [recO m]).length → nth (m.ob ++ [recO m]) j = if j < m.ob.length then nth m.ob j else recO m := fun j hj => by
  rw [nth_append]
  by_cases e : j < m.ob.length
  ·rw [if_pos e, if_pos e]
  ·rw [List.length_append, List.length_singleton] at hj
   rw [if_neg e, if_neg e, show j - m.ob.length = 0 by omega]; rfl
 have hl : (m.ob ++ [recO m]).length = m.ob.length + 1 := by simp
 have h1 := M.hl
 have h2 := M.nl
 have hlast : nth (recM m).ob ((recM m).ob.length - 1) = recO m := by
  show nth (m.ob ++ [recO m]) ((m.ob ++ [recO m]).length - 1) = _
  rw [key _ (by omega), if_neg (by omega)]
 refine ⟨⟨M.hp, M.fr, M.wt, fun j hj => (M.cl j hj).more _, fun j hj => ?_, fun j hj => ?_, M.dep, by show m.hp.length ≤ (m.ob ++ [recO m]).length; omega, by show 0 ≤ m.n ∧ m.n ≤ (((m.ob ++ [recO m]).length : Nat) : Int) + 1; omega⟩, hp, by show 0 < (m.ob ++ [recO m]).length; omega, by rw [hlast]; rfl, by rw [hlast]; rfl, by show m.hp.length + 1 ≤ (m.ob ++ [recO m]).length; omega, by show m.n ≤ (((m.ob ++ [recO m]).length : Nat) : Int); omega⟩
 ·show ObT u _ (nth (m.ob ++ [recO m]) j)
  rw [key j hj]
  by_cases e : j < m.ob.length
  ·rw [if_pos e]; exact M.ob j e
  ·rw [if_neg e]; exact hnew
 ·have hj : j < (m.ob ++ [recO m]).length := hj
  show CallK u ((m.ob ++ [recO m]).take j) (nth (m.ob ++ [recO m]) j).c (nth (m.ob ++ [recO m]) j).f.toNat
  rw [List.take_append_of_le_length (by omega), key j hj]
  by_cases e : j < m.ob.length
  ·rw [if_pos e]; exact M.oc j e
  ·rw [if_neg e, List.take_of_length_le (by omega)]
   show CallK u m.ob (tp m).cl ((tp m).f : Int).toNat
   rw [Int.toNat_natCast]
   exact M.cl _ (by unfold tpN; omega)
section
variable (H : UOk u) (M : MT u m) (R : Rcd m)
include H M R
omit H in
theorem goN_ok {i : Nat} (hi : i < (fnOf u (tp m)).cd.length) (ho : (nth (fnOf u (tp m)).cd i).op ≠ 15) : MT u (goN m i) :=
 M.upG R.pos ((M.top R.pos).at hi ho rfl rfl rfl) rfl rfl
theorem next_ok (h : (isOf u (tp m)).op ≠ 12) (h2 : (isOf u (tp m)).op ≠ 13) (h3 : (isOf u (tp m)).op ≠ 14) : (tp m).i + 1 < (fnOf u (tp m)).cd.length ∧ (nth (fnOf u (tp m)).cd ((tp m).i + 1)).op ≠ 15 :=
 ((M.top R.pos).iok H).stay.next h h2 h3
theorem setV_ok {v : Int} {x : Vl} (h : (isOf u (tp m)).op ≠ 12) (h2 : (isOf u (tp m)).op ≠ 13) (h3 : (isOf u (tp m)).op ≠ 14) (h0 : 0 ≤ v) (hx : TV u.cs (hcs m) (sts u) (vty (fnOf u (tp m)) v) x) : MT u (setV m v x) := by
 obtain ⟨h4, h5⟩ := next_ok H M R h h2 h3
 exact M.upG R.pos ((M.top R.pos).put h4 h5 rfl rfl h0 rfl hx) rfl rfl
omit H M in
theorem pos_up {g : Frm} : 0 < (up m g).fr.length := by
 show 0 < (m.fr.set _ _).length
 rw [List.length_set]; exact R.pos
theorem dst_ok (h : hasB (isOf u (tp m)).op 100 = true) (h9 : (isOf u (tp m)).op ≠ 9) (h10 : (isOf u (tp m)).op ≠ 10) : 0 ≤ (isOf u (tp m)).d := by
 rcases ((M.top R.pos).iok H).rng.d h with h | ⟨h, -⟩
 ·exact h.1
 ·rcases h with h | h
  ·exact absurd h h9
  ·exact absurd h h10
theorem a_ok (h : hasB (isOf u (tp m)).op 97 = true) (h13 : (isOf u (tp m)).op ≠ 13) : TV u.cs (hcs m) (sts u) (vty (fnOf u (tp m)) (isOf u (tp m)).a) (rd u (tp m) (isOf u (tp m)).a) := by
 rcases ((M.top R.pos).iok H).rng.a h with h | ⟨h, -⟩
 ·exact rd_ok (M.top R.pos) h.2 h.1
 ·exact absurd h h13
theorem memP_ok (h : (isOf u (tp m)).op = 7 ∨ (isOf u (tp m)).op = 8) : MT u (memP u m (isOf u (tp m))).1 ∧ 0 < (memP u m (isOf u (tp m))).1.fr.length := by
 have I := (M.top R.pos).iok H
 have ha := a_ok H M R (by rcases h with h | h <;> rw [h] <;> rfl) (by omega)
 unfold memP
 by_cases h3 : (rd u (tp m) (isOf u (tp m)).a).k ≠ 3
 ·rw [if_pos h3]; exact ⟨M, R.pos⟩
 ·rw [if_neg h3]
  have hc : isC u.cs (vty (fnOf u (tp m)) (isOf u (tp m)).a) ∧ ∃ c t, fieldP u.cs (vty (fnOf u (tp m)) (isOf u (tp m)).a) (isOf u (tp m)).m = some (c, t) := by
   rcases h with h | h
   ·obtain ⟨h1, c, t, h2, -⟩ := I.typ.load h; exact ⟨h1, c, t, h2⟩
   ·obtain ⟨h1, c, t, h2, -⟩ := I.typ.store h; exact ⟨h1, c, t, h2⟩
  obtain ⟨h1, c, t, h2⟩ := hc
  rcases ha with ⟨hk, -⟩ | ⟨hk, -⟩ | ⟨-, -, hr, hs⟩
  ·omega
  ·omega
  have hlen : (hcs m).length = m.hp.length := by simp [hcs]
  have hb : (rd u (tp m) (isOf u (tp m)).a).n.toNat < m.hp.length := by have := hr.1; have := hr.2.1; omega
  have hO := M.hp _ hb
  have hsl := slot_ok H.h hO (by unfold hcs at hs; rw [nth_mapO _ _ hb] at hs; exact hs) h2
  rcases h with h | h
  ·rw [if_pos h]
   obtain ⟨-, c', t', h2', hf⟩ := I.typ.load h
   rw [h2] at h2'
   obtain ⟨rfl, rfl⟩ : c = c' ∧ t = t' := by simpa using h2'
   have hv := (hO.sl _ hsl.1).2
   rw [hsl.2.1] at hv
   exact ⟨setV_ok H M R (by omega) (by omega) (by omega) (dst_ok H M R (by rw [h]; rfl) (by omega) (by omega)) (hv.fits H.h hf), pos_up R⟩
  ·rw [if_neg (by omega)]
   obtain ⟨-, c', t', h2', hf⟩ := I.typ.store h
   rw [h2] at h2'
   obtain ⟨rfl, rfl⟩ : c = c' ∧ t = t' := by simpa using h2'
   obtain ⟨b0, b1⟩ := I.rng.b (by show hasB (isOf u (tp m)).op 98 = true; rw [h]; rfl)
   have hv := (rd_ok (M.top R.pos) b1 b0).fits H.h hf
   have M2 := M.slot hb (k := slotOf m (rd u (tp m) (isOf u (tp m)).a) (isOf u (tp m)).m) (v := rd u (tp m) (isOf u (tp m)).b) (by
    show TV _ _ _ (nth (flds u.cs _) (slt _ _)).t _
    rw [hsl.2.1]; exact hv)
   obtain ⟨h4, h5⟩ := next_ok H M R (by omega) (by omega) (by omega)
   exact ⟨M2.upG R.pos ((M2.top R.pos).at h4 h5 rfl rfl rfl) rfl rfl, by show 0 < (m.fr.set _ _).length; rw [List.length_set]; exact R.pos⟩
theorem cpP_ok (h : (isOf u (tp m)).op = 1 ∨ (isOf u (tp m)).op = 2 ∨ (isOf u (tp m)).op = 3 ∨ (isOf u (tp m)).op = 4 ∨ (isOf u (tp m)).op = 5 ∨ (isOf u (tp m)).op = 6 ∨ (isOf u (tp m)).op = 16) : MT u (cpP u m (isOf u (tp m))) ∧ 0 < (cpP u m (isOf u (tp m))).fr.length := by
 have I := (M.top R.pos).iok H
 have hd : 0 ≤ (isOf u (tp m)).d := dst_ok H M R (by rcases h with h | h | h | h | h | h | h <;> rw [h] <;> rfl) (by omega) (by omega)
 refine ⟨?_, by unfold cpP setV up; rw [List.length_set]; unfold cpM; (split; exact R.pos; split <;> exact R.pos)⟩
 unfold cpP
 by_cases h6 : (isOf u (tp m)).op = 6
 ·obtain ⟨hc, hf⟩ := I.typ.new (.inl h6)
  have M2 := M.obj (o := newO u (isOf u (tp m)).c) (fun hc' => newO_ok hc) R.hl
  have e : cpM u m (isOf u (tp m)) = { m with hp := m.hp ++ [newO u (isOf u (tp m)).c] } := by unfold cpM; rw [if_neg (by omega), if_pos h6]
  have e2 : cpW u m (isOf u (tp m)) = ⟨3, (m.hp.length : Int), ((siU u.fs (tp m).f (tp m).i).length : Int)⟩ := by unfold cpW; rw [if_pos h6]
  rw [e, e2]
  obtain ⟨h4, h5⟩ := next_ok H M R (by omega) (by omega) (by omega)
  obtain ⟨s1, s2⟩ := site_ok (u := u) (M.top R.pos).f (M.top R.pos).i h6
  have hne : isC u.cs (isOf u (tp m)).c := hc
  have hnc : nth (hcs { m with hp := m.hp ++ [newO u (isOf u (tp m)).c] }) m.hp.length = (isOf u (tp m)).c := by
   unfold hcs
   rw [nth_mapO _ _ (by simp), nth_append, if_neg (by omega), Nat.sub_self]; rfl
  refine M2.upG R.pos ((M2.top R.pos).put h4 h5 rfl rfl hd rfl ?_) rfl rfl
  refine TV.fits H.h (f := (isOf u (tp m)).c) ?_ hf
  refine .inr (.inr ⟨rfl, fun e => H.h.notC (.inl e) hne, ⟨by show (0 : Int) ≤ (m.hp.length : Int); omega, ?_, by show (0 : Int) ≤ ((siU u.fs (tp m).f (tp m).i).length : Int); omega, by show ((siU u.fs (tp m).f (tp m).i).length : Int) < _; omega, ?_⟩, ?_⟩)
  ·show ((m.hp.length : Nat) : Int) < ((hcs _).length : Int)
   simp [hcs]; omega
  ·show nth (sts u) ((siU u.fs (tp m).f (tp m).i).length : Int).toNat = nth (hcs _) (m.hp.length : Int).toNat
   rw [Int.toNat_natCast, Int.toNat_natCast, hnc, s2]; rfl
  ·show _ ∈ sups u.cs (nth (hcs _) (m.hp.length : Int).toNat)
   rw [Int.toNat_natCast, hnc]; exact sups_self hne
 ·have key : TV u.cs (hcs m) (sts u) (vty (fnOf u (tp m)) (isOf u (tp m)).d) (cpW u m (isOf u (tp m))) := by
   unfold cpW cpV
   rw [if_neg h6]
   rcases h with h | h | h | h | h | h | h
   ·rw [if_pos h]; exact .inl ⟨rfl, I.typ.const (.inl h)⟩
   ·rw [if_neg (by omega), if_pos h]; exact .inr (.inl ⟨rfl, I.typ.null h⟩)
   ·rw [if_neg (by omega), if_neg (by omega), if_pos h]
    exact (a_ok H M R (by rw [h]; rfl) (by omega)).fits H.h (I.typ.copy h)
   ·rw [if_neg (by omega), if_neg (by omega), if_neg (by omega), if_neg (by omega), if_neg (by omega)]; exact .inl ⟨rfl, I.typ.bin h⟩
   ·rw [if_neg (by omega), if_neg (by omega), if_neg (by omega), if_neg (by omega), if_pos h]; exact .inl ⟨rfl, I.typ.const (.inr h)⟩
   ·exact absurd h h6
   ·rw [if_neg (by omega), if_neg (by omega), if_neg (by omega), if_pos h]; exact .inl ⟨rfl, (I.typ.shift h).2⟩
  by_cases h5 : (isOf u (tp m)).op = 5
  ·have e : cpM u m (isOf u (tp m)) = { m with inp := m.inp.tail } := by unfold cpM; rw [if_pos h5]
   rw [e]
   exact setV_ok (m := { m with inp := m.inp.tail }) H (M.inp _) ⟨R.pos, R.ob, R.f, R.i, R.hl, R.nl⟩ (by show (isOf u (tp m)).op ≠ _; omega) (by show (isOf u (tp m)).op ≠ _; omega) (by show (isOf u (tp m)).op ≠ _; omega) hd key
  ·have e : cpM u m (isOf u (tp m)) = m := by unfold cpM; rw [if_neg h5, if_neg h6]
   rw [e]
   exact setV_ok H M R (by omega) (by omega) (by omega) hd key
omit R in
theorem rsP_ok {e : Vl} (he : e.k = 3 ∧ RefK (hcs m) (sts u) e) : MT u (rsP u m e).1 ∧ ((rsP u m e).2 = 0 → 0 < (rsP u m e).1.fr.length) := by
 have key : ∀ k, k ≤ m.fr.length → MT u { m with fr := rsK u e m.fr k } := by
  intro k
  induction k with
  | zero => intro _; exact M.cut 0
  | succ k ih =>
    intro hk
    unfold rsK
    by_cases h : (isOf u (nth m.fr k)).ct ≠ -1
    ·rw [if_pos h]
     have M2 := M.cut (k + 1)
     have hg := M.fr k (by omega)
     obtain ⟨c0, c1, c2⟩ : 0 ≤ (isOf u (nth m.fr k)).ct ∧ (isOf u (nth m.fr k)).ct < (fnOf u (nth m.fr k)).cd.length ∧ (nth (fnOf u (nth m.fr k)).cd (isOf u (nth m.fr k)).ct.toNat).op = 15 := by
      rcases (hg.iok H).rng.ct with h1 | h1
      ·exact absurd h1 h
      ·exact h1
     have hl : (m.fr.take (k + 1)).length = k + 1 := by rw [List.length_take]; omega
     have e1 : tpN { m with fr := m.fr.take (k + 1) } = k := by show (m.fr.take (k + 1)).length - 1 = k; omega
     have e2 : tp { m with fr := m.fr.take (k + 1) } = nth m.fr k := by
      show nth (m.fr.take (k + 1)) (tpN _) = _
      rw [e1, nth_take _ _ _ (by omega)]
     have M3 := M2.upG (by show 0 < (m.fr.take (k + 1)).length; omega) (g := { nth m.fr k with i := (isOf u (nth m.fr k)).ct.toNat, ex := e }) ⟨hg.f, by show (isOf u (nth m.fr k)).ct.toNat < (fnOf u (nth m.fr k)).cd.length; omega, hg.len, hg.vs, fun _ => he⟩ (by rw [e2]) (by rw [e2])
     have e3 : up { m with fr := m.fr.take (k + 1) } { nth m.fr k with i := (isOf u (nth m.fr k)).ct.toNat, ex := e } = { m with fr := m.fr.take k ++ [{ nth m.fr k with i := (isOf u (nth m.fr k)).ct.toNat, ex := e }] } := by
      unfold up
      rw [e1]
      show Mch.mk _ _ _ _ _ = Mch.mk _ _ _ _ _
      congr 1
      show (m.fr.take (k + 1)).set k _ = _
      rw [take_snoc _ _ (by omega), List.set_append_right _ _ (by rw [List.length_take]; omega)]
      rw [List.length_take, show k - min k m.fr.length = 0 by omega]; rfl
     rw [e3] at M3; exact M3
    ·rw [if_neg h]; exact ih (by omega)
 refine ⟨key _ (Nat.le_refl _), fun h => ?_⟩
 unfold rsP at h ⊢
 by_cases h2 : rsK u e m.fr m.fr.length = []
 ·rw [if_pos h2] at h; cases h
 ·exact List.length_pos_iff.2 h2
theorem callP_ok (h : (isOf u (tp m)).op = 9 ∨ (isOf u (tp m)).op = 10) : MT u (callP u m (isOf u (tp m))).1 ∧ 0 < (callP u m (isOf u (tp m))).1.fr.length := by
 have I := (M.top R.pos).iok H
 have ht := M.top R.pos
 unfold callP
 by_cases h3 : (isOf u (tp m)).op = 9 ∧ (rd u (tp m) (isOf u (tp m)).a).k ≠ 3
 ·rw [if_pos h3]; exact ⟨M, R.pos⟩
 rw [if_neg h3]
 by_cases h64 : 64 ≤ m.fr.length
 ·rw [if_pos h64]; exact ⟨M, R.pos⟩
 rw [if_neg h64]
 have hl := I.rng.l (by show hasB (isOf u (tp m)).op 108 = true; rcases h with h | h <;> rw [h] <;> rfl)
 obtain ⟨fn, d, s, hfn, hflt, hfit, hsig, hmay, hhead⟩ : ∃ (fn : Nat) (d : ByteArray) (s : Sg), callee u m (isOf u (tp m)) = (fn : Int) ∧ fn < u.fs.length ∧ FitF (nth u.fs fn) d s ∧ Sig u.cs (fnOf u (tp m)) (isOf u (tp m)) s ∧ May u (isOf u (tp m)) fn ∧
   ((s.st = true ∧ (isOf u (tp m)).op = 10) ∨ (s.st = false ∧ (isOf u (tp m)).op = 9 ∧ TV u.cs (hcs m) (sts u) d (rd u (tp m) (isOf u (tp m)).a))) := by
  rcases h with h | h
  ·obtain ⟨h1, h2, c, s, h4, h5, h6⟩ := I.typ.call h
   have ha := a_ok H M R (by rw [h]; rfl) (by omega)
   have hk : (rd u (tp m) (isOf u (tp m)).a).k = 3 := by
    by_cases e : (rd u (tp m) (isOf u (tp m)).a).k = 3
    ·exact e
    ·exact absurd ⟨h, e⟩ h3
   rcases ha with ⟨hk1, -⟩ | ⟨hk1, -⟩ | ⟨-, -, hr, hs⟩
   ·omega
   ·omega
   have hlen : (hcs m).length = m.hp.length := by simp [hcs]
   have hb : (rd u (tp m) (isOf u (tp m)).a).n.toNat < m.hp.length := by have := hr.1; have := hr.2.1; omega
   have hcc : nth (hcs m) (rd u (tp m) (isOf u (tp m)).a).n.toNat = (nth m.hp (rd u (tp m) (isOf u (tp m)).a).n.toNat).c := by unfold hcs; rw [nth_mapO _ _ hb]
   have hs : vty (fnOf u (tp m)) (isOf u (tp m)).a ∈ sups u.cs (nth m.hp (rd u (tp m) (isOf u (tp m)).a).n.toNat).c := by rw [hcc] at hs; exact hs
   have h2 : vty (fnOf u (tp m)) (isOf u (tp m)).a = (isOf u (tp m)).c := h2
   rw [h2] at hs
   obtain ⟨c', s', k1, k2, k3⟩ := H.h.meth hs h4 h5
   obtain ⟨k4, k5⟩ := H.meth k1
   have hd : dsp u (nth m.hp (rd u (tp m) (isOf u (tp m)).a).n.toNat).c (isOf u (tp m)).m = (fu u.fs c' (isOf u (tp m)).m : Int) := by
    unfold dsp
    rw [k1]
    show (if s'.st = true then _ else _) = _
    rw [k2]
    show fuI _ _ _ = _
    unfold fuI; rw [if_pos k4]
   obtain ⟨m1, -, -⟩ := methL_mem k1
   have hcc' := (M.hp _ hb).c
   have hne : isC u.cs c' := sups_isC m1
   refine ⟨_, c', s', by unfold callee; rw [if_pos h, hd], k4, k5, ?_, .inr ⟨h, _, hcc', hs, hd⟩, .inr ⟨k2, h, ?_⟩⟩
   ·unfold Sig; rw [← k3.1, ← k3.2]; exact h6
   ·exact .inr (.inr ⟨hk, fun e => H.h.notC (.inl e) hne, hr, by rw [hcc]; exact m1⟩)
  ·obtain ⟨s, h4, h5, h6⟩ := I.typ.static h
   obtain ⟨k4, k5⟩ := H.meth h4
   have e : fuI u.fs (isOf u (tp m)).c (isOf u (tp m)).m = (fu u.fs (isOf u (tp m)).c (isOf u (tp m)).m : Int) := if_pos k4
   exact ⟨_, _, s, by unfold callee; rw [if_neg (by omega)]; exact e, k4, k5, h6, .inl ⟨h, e⟩, .inl ⟨h5, h⟩⟩
 have hw : Wt u (tp m) ⟨(fn : Int).toNat, 0, m.n, (m.ob.length : Int) - 1, pad (args u m (isOf u (tp m))) (nth u.fs (fn : Int).toNat).vs.length, default⟩ := by
  refine ⟨h, fun hd => ?_⟩
  have e : fnOf u ⟨(fn : Int).toNat, 0, m.n, (m.ob.length : Int) - 1, pad (args u m (isOf u (tp m))) (nth u.fs (fn : Int).toNat).vs.length, default⟩ = nth u.fs fn := by unfold fnOf; rw [Int.toNat_natCast]
  rw [e, hfit.fr]
  exact hsig.2.2 hd
 have hargs : ∀ j, j < (args u m (isOf u (tp m))).length → j < (nth u.fs fn).vs.length ∧ TV u.cs (hcs m) (sts u) (nth (nth u.fs fn).vs j).t (nth (args u m (isOf u (tp m))) j) := by
  have harg : ∀ i, i < (isOf u (tp m)).ar.length → TV u.cs (hcs m) (sts u) (nth s.ps i) (nth ((isOf u (tp m)).ar.map (rd u (tp m))) i) := fun i hi => by
   have e : nth ((isOf u (tp m)).ar.map (rd u (tp m))) i = rd u (tp m) (nth (isOf u (tp m)).ar i) := by
    rw [nth_eq _ _ (by rw [List.length_map]; exact hi), nth_eq _ _ hi, List.getElem_map]
   rw [e]
   obtain ⟨h0, h1⟩ := hl _ (nth_mem _ _ hi)
   exact (rd_ok ht h1 h0).fits H.h (hsig.2.1 i hi)
  intro j hj
  unfold args at hj ⊢
  rcases hhead with ⟨hst, hop⟩ | ⟨hst, hop, hv⟩
  ·rw [if_neg (by omega), List.nil_append] at hj ⊢
   rw [List.length_map] at hj
   have h1 := hfit.ps j (by rw [hsig.1]; exact hj)
   rw [hst] at h1
   have h1 : j < (nth u.fs fn).vs.length ∧ (nth (nth u.fs fn).vs j).t = nth s.ps j := h1
   exact ⟨h1.1, by rw [h1.2]; exact harg j hj⟩
  ·rw [if_pos hop] at hj ⊢
   cases j with
   | zero =>
     have h1 := hfit.this hst
     refine ⟨h1.1, ?_⟩
     rw [h1.2]; exact hv
   | succ j =>
     have hj : j < (isOf u (tp m)).ar.length := by simpa using hj
     have h1 := hfit.ps j (by rw [hsig.1]; exact hj)
     rw [hst] at h1
     have h1 : j + 1 < (nth u.fs fn).vs.length ∧ (nth (nth u.fs fn).vs (j + 1)).t = nth s.ps j := h1
     refine ⟨h1.1, ?_⟩
     rw [h1.2]; exact harg j hj
 have hal : (args u m (isOf u (tp m))).length ≤ (nth u.fs fn).vs.length := by
  by_cases e : (args u m (isOf u (tp m))).length = 0
  ·omega
  ·have := (hargs ((args u m (isOf u (tp m))).length - 1) (by omega)).1; omega
 have hpl : (pad (args u m (isOf u (tp m))) (nth u.fs fn).vs.length).length = (nth u.fs fn).vs.length := by unfold pad; simp; omega
 have hfr : FrT u (hcs m) ⟨(fn : Int).toNat, 0, m.n, (m.ob.length : Int) - 1, pad (args u m (isOf u (tp m))) (nth u.fs (fn : Int).toNat).vs.length, default⟩ := by
  rw [Int.toNat_natCast]
  refine ⟨hflt, (H.fn fn hflt).pos, hpl, fun j hj => ?_, fun h15 => ?_⟩
  ·show TU _ _ _ (nth (nth u.fs fn).vs j).t (nth (pad _ _) j)
   unfold pad
   rw [nth_append]
   by_cases e : j < (args u m (isOf u (tp m))).length
   ·rw [if_pos e]; exact .inr (hargs j e).2
   ·rw [if_neg e]
    left
    unfold nth
    rw [List.getD_eq_getElem?_getD, List.getElem?_replicate]
    split <;> rfl
  ·exact absurd h15 (((H.fn fn hflt).ins 0 (H.fn fn hflt).pos).stay.top rfl)
 have hck : CallK u m.ob ((m.ob.length : Int) - 1) (fn : Int).toNat := by
  have h1 := R.ob
  refine .inr ⟨by omega, by omega, ?_⟩
  rw [Int.toNat_natCast, show ((m.ob.length : Int) - 1).toNat = m.ob.length - 1 by omega, R.f, R.i, Int.toNat_natCast, Int.toNat_natCast]
  exact hmay
 rw [hfn]
 have := M.push R.pos (by omega) hfr hw hck R.nl
 exact ⟨this, by show 0 < (m.fr ++ [_]).length; simp⟩
theorem retP_ok (h : (isOf u (tp m)).op = 13) : MT u (retP u m (isOf u (tp m))).1 ∧ ((retP u m (isOf u (tp m))).2 = 0 → 0 < (retP u m (isOf u (tp m))).1.fr.length) := by
 have I := (M.top R.pos).iok H
 have hp := R.pos
 unfold retP
 have M2 := M.cut (m.fr.length - 1)
 by_cases h1 : m.fr.length = 1
 ·rw [if_pos h1]; exact ⟨M2, fun h => by cases h⟩
 rw [if_neg h1]
 have hlen : (m.fr.take (m.fr.length - 1)).length = m.fr.length - 1 := by rw [List.length_take]; omega
 have e1 : tpN (popM m) = m.fr.length - 2 := by show (m.fr.take (m.fr.length - 1)).length - 1 = _; omega
 have e2 : tp (popM m) = nth m.fr (m.fr.length - 2) := by
  show nth (m.fr.take (m.fr.length - 1)) (tpN (popM m)) = _
  rw [e1, nth_take _ _ _ (by omega)]
 have hg := M.fr (m.fr.length - 2) (by omega)
 have hw := M.wt (m.fr.length - 2) (by omega)
 rw [show m.fr.length - 2 + 1 = m.fr.length - 1 by omega] at hw
 have htp : nth m.fr (m.fr.length - 1) = tp m := rfl
 rw [htp] at hw
 rw [e2]
 have hI := hg.iok H
 have hst := hI.stay.next (by show (isOf u _).op ≠ 12; have := hw.op; omega) (by show (isOf u _).op ≠ 13; have := hw.op; omega) (by show (isOf u _).op ≠ 14; have := hw.op; omega)
 have hR : FrT u (hcs m) (retG u (nth m.fr (m.fr.length - 2)) (retV u m (isOf u (tp m)))) := by
  by_cases hd : (isOf u (nth m.fr (m.fr.length - 2))).d ≠ -1
  ·have hd0 : 0 ≤ (isOf u (nth m.fr (m.fr.length - 2))).d := by
    rcases hI.rng.d (by show hasB (isOf u _).op 100 = true; rcases hw.op with h | h <;> rw [h] <;> rfl) with h | ⟨-, h⟩
    ·exact h.1
    ·exact absurd h hd
   obtain ⟨hr1, hr2⟩ := hw.r hd
   have hr3 := I.typ.ret h
   have ha : (isOf u (tp m)).a ≠ -1 := fun e => hr1 (hr3.1.1 e)
   have hv : TV u.cs (hcs m) (sts u) (vty (fnOf u (nth m.fr (m.fr.length - 2))) (isOf u (nth m.fr (m.fr.length - 2))).d) (retV u m (isOf u (tp m))) := by
    unfold retV
    rw [if_pos ha]
    rcases I.rng.a (by show hasB (isOf u (tp m)).op 97 = true; rw [h]; rfl) with h4 | ⟨-, h4⟩
    ·exact ((rd_ok (M.top R.pos) h4.2 h4.1).fits H.h (hr3.2 ha)).fits H.h hr2
    ·exact absurd h4 ha
   exact hg.put hst.1 hst.2 rfl rfl hd0 (by unfold retG; rw [if_pos hd]) hv
  ·exact hg.at hst.1 hst.2 rfl rfl (by unfold retG; rw [if_neg hd])
 have M3 : MT u (popM m) := M2
 refine ⟨M3.upG (by show 0 < (m.fr.take (m.fr.length - 1)).length; omega) hR (by rw [e2]; rfl) (by rw [e2]; rfl), fun _ => ?_⟩
 show 0 < ((m.fr.take (m.fr.length - 1)).set _ _).length
 rw [List.length_set]; omega
theorem step_ok : MT u (stepP u m).1 ∧ ((stepP u m).2 = 0 → 0 < (stepP u m).1.fr.length) := by
 have I := (M.top R.pos).iok H
 have ht := M.top R.pos
 have hop : 0 ≤ (isOf u (tp m)).op ∧ (isOf u (tp m)).op ≤ 16 := I.op
 unfold stepP
 dsimp only
 by_cases h0 : (isOf u (tp m)).op = 0
 ·rw [if_pos h0]
  obtain ⟨h4, h5⟩ := next_ok H M R (by omega) (by omega) (by omega)
  exact ⟨goN_ok M R h4 h5, fun _ => pos_up R⟩
 rw [if_neg h0]
 have hgo : (isOf u (tp m)).op = 11 ∨ (isOf u (tp m)).op = 12 → MT u (goN m (isOf u (tp m)).g.toNat) := fun h => by
  have hb : hasB (isOf u (tp m)).op 103 = true := by rcases h with h | h <;> rw [h] <;> rfl
  obtain ⟨g0, g1⟩ := I.rng.g hb
  exact goN_ok M R (by unfold isOf; unfold isOf at h hb; have g1 : (nth (fnOf u (tp m)).cd (tp m).i).g < ((fnOf u (tp m)).cd.length : Int) := g1; have g0 : 0 ≤ (nth (fnOf u (tp m)).cd (tp m).i).g := g0; omega) (I.stay.tgt hb)
 by_cases h11 : (isOf u (tp m)).op = 11
 ·rw [if_pos h11]
  by_cases hb : (rd u (tp m) (isOf u (tp m)).a).n ≠ 0
  ·rw [if_pos hb]; exact ⟨hgo (.inl h11), fun _ => pos_up R⟩
  ·rw [if_neg hb]
   obtain ⟨h4, h5⟩ := next_ok H M R (by omega) (by omega) (by omega)
   exact ⟨goN_ok M R h4 h5, fun _ => pos_up R⟩
 rw [if_neg h11]
 by_cases h12 : (isOf u (tp m)).op = 12
 ·rw [if_pos h12]; exact ⟨hgo (.inr h12), fun _ => pos_up R⟩
 rw [if_neg h12]
 by_cases h78 : (isOf u (tp m)).op = 7 ∨ (isOf u (tp m)).op = 8
 ·rw [if_pos h78]; have := memP_ok H M R h78; exact ⟨this.1, fun _ => this.2⟩
 rw [if_neg h78]
 by_cases h9 : (isOf u (tp m)).op = 9 ∨ (isOf u (tp m)).op = 10
 ·rw [if_pos h9]; have := callP_ok H M R h9; exact ⟨this.1, fun _ => this.2⟩
 rw [if_neg h9]
 by_cases h13 : (isOf u (tp m)).op = 13
 ·rw [if_pos h13]; exact retP_ok H M R h13
 rw [if_neg h13]
 by_cases h14 : (isOf u (tp m)).op = 14
 ·rw [if_pos h14]
  have ha := a_ok H M R (by rw [h14]; rfl) (by omega)
  unfold thrP
  by_cases h3 : (rd u (tp m) (isOf u (tp m)).a).k ≠ 3
  ·rw [if_pos h3]; exact ⟨M, fun _ => R.pos⟩
  ·rw [if_neg h3]
   rcases ha with ⟨hk, -⟩ | ⟨hk, -⟩ | ⟨hk, -, hr, -⟩
   ·omega
   ·omega
   ·exact rsP_ok H M ⟨hk, hr⟩
 rw [if_neg h14]
 by_cases h15 : (isOf u (tp m)).op = 15
 ·rw [if_pos h15]
  have he := ht.ex h15
  unfold catP
  by_cases hc : (isOf u (tp m)).c ∈ sups u.cs (nth m.hp (tp m).ex.n.toNat).c
  ·rw [if_pos hc]
   obtain ⟨hcl, hf⟩ := I.typ.new (.inr h15)
   have hlen : (hcs m).length = m.hp.length := by simp [hcs]
   have hcc : nth (hcs m) (tp m).ex.n.toNat = (nth m.hp (tp m).ex.n.toNat).c := by unfold hcs; rw [nth_mapO _ _ (by have := he.2.1; have := he.2.2.1; omega)]
   have hv : TV u.cs (hcs m) (sts u) (isOf u (tp m)).c (tp m).ex := .inr (.inr ⟨he.1, fun e => H.h.notC (.inl e) hcl, he.2, by rw [hcc]; exact hc⟩)
   exact ⟨setV_ok H M R (by omega) (by omega) (by omega) (dst_ok H M R (by rw [h15]; rfl) (by omega) (by omega)) (hv.fits H.h hf), fun _ => pos_up R⟩
  ·rw [if_neg hc]; exact rsP_ok H M he
 rw [if_neg h15]
 have := cpP_ok H M R (by omega)
 exact ⟨this.1, fun _ => this.2⟩
end
end Go.Hir
end
section
namespace Go.Hir
open Go.Dfl (nth nth_mem mem_nth nth_eq nth_ext take_snoc nth_set nth_append nth_out)
open Go.Obs
variable {u : Un}
theorem start_ok (H : UOk u) (inp : List Int) : MT u (startM u inp) ∧ 0 < (startM u inp).fr.length := by
 have hm := H.mn
 have hl : u.mn.toNat < u.fs.length := by omega
 have hF := H.fn _ hl
 have e : (startM u inp).fr = [⟨u.mn.toNat, 0, 0, -1, pad [] (nth u.fs u.mn.toNat).vs.length, default⟩] := rfl
 refine ⟨⟨fun j hj => ?_, fun j hj => ?_, fun j hj => ?_, fun j hj => ?_, fun j hj => ?_, fun j hj => ?_, ?_, ?_, ?_⟩, ?_⟩
 ·exact absurd hj (Nat.not_lt_zero j)
 ·rw [e] at hj ⊢
  obtain rfl : j = 0 := by simpa using hj
  refine ⟨hl, hF.pos, by simp [nth, pad, fnOf], fun j hj => ?_, fun h15 => ?_⟩
  ·left
   show (nth (pad [] (nth u.fs u.mn.toNat).vs.length) j).k = 0
   unfold pad nth
   rw [List.nil_append, List.getD_eq_getElem?_getD, List.getElem?_replicate]
   split <;> rfl
  ·exact absurd h15 ((hF.ins 0 hF.pos).stay.top rfl)
 ·rw [e] at hj; simp at hj
 ·rw [e] at hj ⊢
  obtain rfl : j = 0 := by simpa using hj
  exact .inl rfl
 ·exact absurd hj (Nat.not_lt_zero j)
 ·exact absurd hj (Nat.not_lt_zero j)
 ·rw [e]; simp
 ·exact Nat.le_refl _
 ·show 0 ≤ (0 : Int) + 1 ∧ (0 : Int) + 1 ≤ ((0 : Nat) : Int) + 1; omega
 ·rw [e]; simp
theorem step_ob (m : Mch) : (stepP u m).1.ob = m.ob := by
 have h1 : (memP u m (isOf u (tp m))).1.ob = m.ob := by unfold memP; split; rfl; split <;> rfl
 have h2 : (callP u m (isOf u (tp m))).1.ob = m.ob := by unfold callP; split; rfl; split <;> rfl
 have h3 : (retP u m (isOf u (tp m))).1.ob = m.ob := by unfold retP; split <;> rfl
 have h4 : (thrP u m (isOf u (tp m))).1.ob = m.ob := by unfold thrP; split <;> rfl
 have h5 : (catP u m (isOf u (tp m))).1.ob = m.ob := by unfold catP; split <;> rfl
 have h6 : (cpP u m (isOf u (tp m))).ob = m.ob := by unfold cpP cpM; show (if _ then _ else _ : Mch).ob = _; split; rfl; split <;> rfl
 unfold stepP
 dsimp only
 split
 ·rfl
 split
 ·split <;> rfl
 split
 ·rfl
 split
 ·exact h1
 split
 ·exact h2
 split
 ·exact h3
 split
 ·exact h4
 split
 ·exact h5
 ·exact h6
theorem run_ob : ∀ (n : Nat) (m : Mch), (runN u n m).1.ob.length ≤ m.ob.length + n ∧ ∃ r, (runN u n m).1.ob = m.ob ++ r
 | 0, m => ⟨Nat.le_refl _, [], by simp [runN]⟩
 | n + 1, m => by
   have h1 : (stepP u (recM m)).1.ob = m.ob ++ [recO m] := step_ob _
   unfold runN
   by_cases e : (stepP u (recM m)).2 ≠ 0
   ·rw [if_pos e, h1]
    exact ⟨by simp, _, rfl⟩
   ·rw [if_neg e]
    obtain ⟨h2, r, h3⟩ := run_ob n (stepP u (recM m)).1
    rw [h1] at h2 h3
    exact ⟨by simp at h2; omega, recO m :: r, by rw [h3, List.append_assoc]; rfl⟩
theorem run_more : ∀ (a k : Nat) (m : Mch), ∃ r, (runN u (a + k) m).1.ob = (runN u a m).1.ob ++ r
 | 0, k, m => by
   obtain ⟨-, r, h⟩ := run_ob (u := u) k m
   exact ⟨r, by rw [Nat.zero_add, h]; rfl⟩
 | a + 1, k, m => by
   rw [show a + 1 + k = (a + k) + 1 by omega]
   unfold runN
   by_cases e : (stepP u (recM m)).2 ≠ 0
   ·rw [if_pos e, if_pos e]; exact ⟨[], by simp⟩
   ·rw [if_neg e, if_neg e]; exact run_more a k _
theorem run_step : ∀ (n : Nat) (m : Mch), runN u (n + 1) m = if (runN u n m).2 ≠ 0 then runN u n m else stepP u (recM (runN u n m).1)
 | 0, m => by
   show (if _ then _ else _) = if ¬ (0 : Int) = 0 then _ else _
   rw [if_neg (show ¬ ¬ (0 : Int) = 0 from fun h => h rfl)]
   show (if (stepP u (recM m)).2 ≠ 0 then stepP u (recM m) else ((stepP u (recM m)).1, 0)) = stepP u (recM m)
   by_cases e : (stepP u (recM m)).2 ≠ 0
   ·rw [if_pos e]
   ·rw [if_neg e]
    have e : (stepP u (recM m)).2 = 0 := by omega
    rw [← e]
 | n + 1, m => by
   rw [runN]
   conv => rhs; rw [runN]
   by_cases e : (stepP u (recM m)).2 ≠ 0
   ·rw [if_pos e, if_pos e, if_pos e]
   ·rw [if_neg e, if_neg e]; exact run_step n _
end Go.Hir
end
section
namespace Go.Proofs.YtnklnklkblgnfaaGreatDoor
open Go.RowKit Go.Dfl Go.Obs Go.Hir
structure Sl where
 a : Option Addr
 n : Nat
 c : Nat
deriving Inhabited
def Sl.v (s : Sl) : Value := .slice s.a s.n s.c
structure FR where
 f : Int
 i : Int
 no : Int
 cl : Int
 s : Sl
 ex : Vl
deriving Inhabited
structure BR where
 f : Int
 i : Int
 fr : Int
 c : Int
 s : Sl
deriving Inhabited
def elV : El Vl := ⟨3, fun x => [.int .i64 x.k, .int .i64 x.n, .int .i64 x.s], fun _ => rfl, fun x v hv => by simp at hv; rcases hv with rfl | rfl | rfl <;> rfl, by omega⟩
def elF : El FR := ⟨8, fun x => [.int .i64 x.f, .int .i64 x.i, .int .i64 x.no, .int .i64 x.cl, x.s.v, .int .i64 x.ex.k, .int .i64 x.ex.n, .int .i64 x.ex.s], fun _ => rfl, fun x v hv => by simp [Sl.v] at hv; rcases hv with rfl | rfl | rfl | rfl | rfl | rfl | rfl | rfl <;> rfl, by omega⟩
def elO : El (ByteArray × Sl) := ⟨2, fun x => [.string x.1, x.2.v], fun _ => rfl, fun x v hv => by simp [Sl.v] at hv; rcases hv with rfl | rfl <;> rfl, by omega⟩
def elT : El (ByteArray × Vl) := ⟨4, fun x => [.string x.1, .int .i64 x.2.k, .int .i64 x.2.n, .int .i64 x.2.s], fun _ => rfl, fun x v hv => by simp at hv; rcases hv with rfl | rfl | rfl | rfl <;> rfl, by omega⟩
def elB : El BR := ⟨5, fun x => [.int .i64 x.f, .int .i64 x.i, .int .i64 x.fr, .int .i64 x.c, x.s.v], fun _ => rfl, fun x v hv => by simp [Sl.v] at hv; rcases hv with rfl | rfl | rfl | rfl | rfl <;> rfl, by omega⟩
inductive Rl where
 | no | mb | fr | hp | ob | ov
 | fv (i : Nat)
 | sl (i : Nat)
deriving DecidableEq
def In (rl : Nat → Rl) (r : Rl) (v : Value) : Prop := ∀ q, v.ownBlock = some q → rl q = r
section
variable {α : Type} {E : El α} {Z Z' : World} {B : Nat} {e : TypeId} {v : Value} {l : List α} {rl : Nat → Rl} {r : Rl} {row : Option Nat}
theorem keepR (h : OwnE E Z B e v l) (hi : In rl r v) (hg : Z.grownBy Z' row) (hr : ∀ q, row = some q → rl q ≠ r) : OwnE E Z' B e v l :=
 OwnE.grown h hg (by
  cases hq : v.ownBlock with
  | none => exact .inl rfl
  | some q => exact .inr fun e => hr q e.symm (hi q hq))
def rlSet (rl : Nat → Rl) (q : Nat) (r : Rl) : Nat → Rl := fun k => if k = q then r else rl k
theorem rlSet_same (rl : Nat → Rl) (q : Nat) (r : Rl) : rlSet rl q r q = r := if_pos rfl
theorem rlSet_other {rl : Nat → Rl} {q k : Nat} {r : Rl} (h : k ≠ q) : rlSet rl q r k = rl k := if_neg h
end
def rlO (rl : Nat → Rl) : Option Nat → Rl → Nat → Rl
 | none, _ => rl
 | some q, r => rlSet rl q r
def frs (m : Mch) (fv : List Sl) : List FR := (List.range m.fr.length).map fun k => ⟨((nth m.fr k).f : Int), ((nth m.fr k).i : Int), (nth m.fr k).no, (nth m.fr k).cl, nth fv k, (nth m.fr k).ex⟩
def obs (m : Mch) (ov : List Sl) : List BR := (List.range m.ob.length).map fun k => ⟨(nth m.ob k).f, (nth m.ob k).i, (nth m.ob k).fr, (nth m.ob k).c, nth ov k⟩
def hps (m : Mch) (sv : List Sl) : List (ByteArray × Sl) := (List.range m.hp.length).map fun k => ((nth m.hp k).c, nth sv k)
theorem frs_len (m : Mch) (fv : List Sl) : (frs m fv).length = m.fr.length := by simp [frs]
theorem obs_len (m : Mch) (ov : List Sl) : (obs m ov).length = m.ob.length := by simp [obs]
theorem hps_len (m : Mch) (sv : List Sl) : (hps m sv).length = m.hp.length := by simp [hps]
theorem nth_rng {α : Type} [Inhabited α] (f : Nat → α) (n k : Nat) (h : k < n) : nth ((List.range n).map f) k = f k := by
 rw [nth_eq _ _ (by simpa using h)]; simp
theorem nth_frs {m : Mch} {fv : List Sl} {k : Nat} (h : k < m.fr.length) : nth (frs m fv) k = ⟨((nth m.fr k).f : Int), ((nth m.fr k).i : Int), (nth m.fr k).no, (nth m.fr k).cl, nth fv k, (nth m.fr k).ex⟩ := nth_rng _ _ _ h
theorem nth_obs {m : Mch} {ov : List Sl} {k : Nat} (h : k < m.ob.length) : nth (obs m ov) k = ⟨(nth m.ob k).f, (nth m.ob k).i, (nth m.ob k).fr, (nth m.ob k).c, nth ov k⟩ := nth_rng _ _ _ h
theorem nth_hps {m : Mch} {sv : List Sl} {k : Nat} (h : k < m.hp.length) : nth (hps m sv) k = ((nth m.hp k).c, nth sv k) := nth_rng _ _ _ h
theorem In.upd {rl : Nat → Rl} {r r' : Rl} {v : Value} {o : Option Nat} (h : In rl r v) (hr : r ≠ .no) (hrr : r ≠ r') (ho : ∀ q, o = some q → rl q = .no ∨ rl q = r') : In (rlO rl o r') r v := by
 cases o with
 | none => exact h
 | some q =>
   intro k hk
   have h1 := h k hk
   show rlSet rl q r' k = r
   rw [rlSet_other (fun e => by
    rw [e] at h1
    rcases ho q rfl with h2 | h2
    ·exact hr (h1.symm.trans h2)
    ·exact hrr (h1.symm.trans h2))]
   exact h1
theorem In.new {rl : Nat → Rl} {r : Rl} {v : Value} : In (rlO rl v.ownBlock r) r v := fun k hk => by
 rw [hk]; exact rlSet_same _ _ _
theorem rlO_at {rl : Nat → Rl} {o : Option Nat} {r r' : Rl} {q : Nat} (h : rl q = r) (hr : r ≠ .no) (hrr : r ≠ r') (ho : ∀ k, o = some k → rl k = .no ∨ rl k = r') : rlO rl o r' q = r := by
 cases o with
 | none => exact h
 | some k =>
   show rlSet rl k r' q = r
   rw [rlSet_other (fun e => by
    rw [e] at h
    rcases ho k rfl with h2 | h2
    ·exact hr (h.symm.trans h2)
    ·exact hrr (h.symm.trans h2))]
   exact h
theorem rlO_no {rl : Nat → Rl} {o : Option Nat} {r : Rl} {q : Nat} (h : rl q = .no) (ho : ∀ k, o = some k → k ≠ q) : rlO rl o r q = .no := by
 cases o with
 | none => exact h
 | some k => exact (rlSet_other (fun e => ho k rfl e.symm)).trans h
structure Ly where
 rl : Nat → Rl
 iv : Value
 fs : Sl
 hs : Sl
 os : Sl
 fv : List Sl
 sv : List Sl
 ov : List Sl
 en : Int
def Ly.at (y : Ly) (B : Nat) (m : Mch) : Rl → World → Prop
 | .fr, Z => OwnE elF Z B 69 y.fs.v (frs m y.fv) ∧ In y.rl .fr y.fs.v
 | .hp, Z => OwnE elO Z B 102 y.hs.v (hps m y.sv) ∧ In y.rl .hp y.hs.v
 | .ob, Z => OwnE elB Z B 53 y.os.v (obs m y.ov) ∧ In y.rl .ob y.os.v
 | .ov, Z => ∀ k, k < m.ob.length → OwnE elV Z B 50 (nth y.ov k).v (nth m.ob k).vs ∧ In y.rl .ov (nth y.ov k).v
 | .fv k, Z => k < m.fr.length → OwnE elV Z B 50 (nth y.fv k).v (nth m.fr k).vs ∧ In y.rl (.fv k) (nth y.fv k).v
 | .sl k, Z => k < m.hp.length → OwnE elT Z B 125 (nth y.sv k).v (nth m.hp k).sl ∧ In y.rl (.sl k) (nth y.sv k).v
 | _, _ => True
section
variable {B : Nat} {y : Ly} {m : Mch} {r : Rl} {Z Z' : World} {row : Option Nat}
theorem Ly.at_keep (h : y.at B m r Z) (hg : Z.grownBy Z' row) (hr : ∀ q, row = some q → y.rl q ≠ r) : y.at B m r Z' := by
 cases r with
 | fr => exact ⟨keepR h.1 h.2 hg hr, h.2⟩
 | hp => exact ⟨keepR h.1 h.2 hg hr, h.2⟩
 | ob => exact ⟨keepR h.1 h.2 hg hr, h.2⟩
 | ov => exact fun k hk => ⟨keepR (h k hk).1 (h k hk).2 hg hr, (h k hk).2⟩
 | fv i => exact fun hk => ⟨keepR (h hk).1 (h hk).2 hg hr, (h hk).2⟩
 | sl i => exact fun hk => ⟨keepR (h hk).1 (h hk).2 hg hr, (h hk).2⟩
 | no => trivial
 | mb => trivial
theorem Ly.at_role (h : y.at B m r Z) {o : Option Nat} {r' : Rl} (hr : r ≠ r') (ho : ∀ q, o = some q → y.rl q = .no ∨ y.rl q = r') : ({ y with rl := rlO y.rl o r' } : Ly).at B m r Z := by
 cases r with
 | fr => exact ⟨h.1, h.2.upd (by decide) hr ho⟩
 | hp => exact ⟨h.1, h.2.upd (by decide) hr ho⟩
 | ob => exact ⟨h.1, h.2.upd (by decide) hr ho⟩
 | ov => exact fun k hk => ⟨(h k hk).1, (h k hk).2.upd (by decide) hr ho⟩
 | fv i => exact fun hk => ⟨(h hk).1, (h hk).2.upd (fun e => by cases e) hr ho⟩
 | sl i => exact fun hk => ⟨(h hk).1, (h hk).2.upd (fun e => by cases e) hr ho⟩
 | no => trivial
 | mb => trivial
end
def bxL (u : Un) (v0 v1 : Value) (y : Ly) (m : Mch) : List Value := [v0, v1, .int .i64 u.mn, y.iv, y.hs.v, y.fs.v, .int .i64 m.n, .int .i64 y.en, y.os.v]
structure LnOk (y : Ly) (m : Mch) : Prop where
 f : y.fv.length = m.fr.length
 s : y.sv.length = m.hp.length
 o : y.ov.length = m.ob.length
structure MM (B : Nat) (W0 : World) (u : Un) (v0 v1 : Value) (b : Nat) (y : Ly) (m : Mch) (Z : World) : Prop where
 bel : Below B W0 Z
 le : B ≤ W0.heap.size ∧ B ≤ b ∧ b < Z.heap.size
 rb : y.rl b = .mb
 rlo : ∀ q, Z.heap.size ≤ q → y.rl q = .no
 inp : InS vI W0 y.iv m.inp
 bx : ∀ j v, (bxL u v0 v1 y m)[j]? = some v → Z.cell? ⟨b, j, none⟩ = some v
 frz : ∀ j, Z.frozen? ⟨b, j, none⟩ = false
 ln : LnOk y m
 own : ∀ r, y.at B m r Z
section
variable {B : Nat} {W0 : World} {u : Un} {v0 v1 : Value} {b : Nat} {y y' : Ly} {m m' : Mch} {Z Z' : World} {row : Option Nat}
theorem shapeV {α : Type} {E : El α} {s : Sl} {l : List α} {e : TypeId} (h : OwnE E Z B e s.v l) : s.n = l.length := by
 obtain ⟨a, c, e⟩ := OwnE.shape h (n := l.length) rfl
 unfold Sl.v at e; injection e
theorem MM.fr (h : MM B W0 u v0 v1 b y m Z) : OwnE elF Z B 69 y.fs.v (frs m y.fv) := (h.own .fr).1
theorem MM.hp (h : MM B W0 u v0 v1 b y m Z) : OwnE elO Z B 102 y.hs.v (hps m y.sv) := (h.own .hp).1
theorem MM.ob (h : MM B W0 u v0 v1 b y m Z) : OwnE elB Z B 53 y.os.v (obs m y.ov) := (h.own .ob).1
theorem MM.nF (h : MM B W0 u v0 v1 b y m Z) : y.fs.n = m.fr.length := (shapeV h.fr).trans (frs_len _ _)
theorem MM.nO (h : MM B W0 u v0 v1 b y m Z) : y.os.n = m.ob.length := (shapeV h.ob).trans (obs_len _ _)
theorem MM.put (h : MM B W0 u v0 v1 b y m Z) (hg : Z.grownBy Z' row) (hr : ∀ q, row = some q → y.rl q ≠ .mb ∧ B ≤ q) (ho : ∀ r, y.at B m' r Z') (hn : m'.n = m.n) (hi : m'.inp = m.inp) (hl : LnOk y m') : MM B W0 u v0 v1 b y m' Z' := by
 have hz := hg.size
 have hl2 := h.le
 have hne : some b ≠ row := fun e => (hr b e.symm).1 h.rb
 refine ⟨h.bel.grown hg (Nat.le_trans hl2.1 h.bel.size) (fun q e => (hr q e).2), ⟨hl2.1, hl2.2.1, by omega⟩, h.rb, fun q hq => h.rlo q (by omega), by rw [hi]; exact h.inp, fun j v hv => ?_, fun j => ?_, hl, ho⟩
 ·have : bxL u v0 v1 y m' = bxL u v0 v1 y m := by unfold bxL; rw [hn]
  rw [this] at hv
  exact hg.cell (h.bx j v hv) hne
 ·rw [World.frozen?_of_block (a := ⟨b, j, none⟩) (hg.block b hl2.2.2 hne)]; exact h.frz j
theorem MM.other (h : MM B W0 u v0 v1 b y m Z) (hg : Z.grownBy Z' row) (hr : ∀ q, row = some q → y.rl q = .no ∧ B ≤ q) : MM B W0 u v0 v1 b y m Z' := by
 refine h.put hg (fun q e => ⟨by rw [(hr q e).1]; decide, (hr q e).2⟩) (fun r => ?_) rfl rfl h.ln
 cases r with
 | no => trivial
 | mb => trivial
 | fr => exact Ly.at_keep (h.own .fr) hg (fun q e => by rw [(hr q e).1]; decide)
 | hp => exact Ly.at_keep (h.own .hp) hg (fun q e => by rw [(hr q e).1]; decide)
 | ob => exact Ly.at_keep (h.own .ob) hg (fun q e => by rw [(hr q e).1]; decide)
 | ov => exact Ly.at_keep (h.own .ov) hg (fun q e => by rw [(hr q e).1]; decide)
 | fv i => exact Ly.at_keep (h.own (.fv i)) hg (fun q e => by rw [(hr q e).1]; exact fun e => by cases e)
 | sl i => exact Ly.at_keep (h.own (.sl i)) hg (fun q e => by rw [(hr q e).1]; exact fun e => by cases e)
theorem MM.below (h : MM B W0 u v0 v1 b y m Z) (hb : Below Z.heap.size Z Z') : MM B W0 u v0 v1 b y m Z' :=
 h.other (row := none) ⟨hb.os, hb.tape, hb.output, hb.size, fun k hk _ => hb.block k hk⟩ (fun q e => by cases e)
theorem MM.boxG (h : MM B W0 u v0 v1 b y m Z) (hg : Z.grownBy Z' row) (hr : ∀ q, row = some q → y.rl q ≠ .mb) : (∀ j v, (bxL u v0 v1 y m)[j]? = some v → Z'.cell? ⟨b, j, none⟩ = some v) ∧ ∀ j, Z'.frozen? ⟨b, j, none⟩ = false := by
 have hne : some b ≠ row := fun e => hr b e.symm h.rb
 exact ⟨fun j v hv => hg.cell (h.bx j v hv) hne, fun j => by rw [World.frozen?_of_block (a := ⟨b, j, none⟩) (hg.block b h.le.2.2 hne)]; exact h.frz j⟩
theorem MM.grow (h : MM B W0 u v0 v1 b y m Z) (hg : Z.grownBy Z' row) (hr : ∀ q, row = some q → y.rl q ≠ .mb ∧ B ≤ q) (hb : y'.rl b = .mb) (hlo : ∀ q, Z'.heap.size ≤ q → y'.rl q = .no) (hat : ∀ r, y'.at B m' r Z') (j : Nat) (x : Value) (hx : bxL u v0 v1 y' m' = (bxL u v0 v1 y m).set j x) (hi : InS vI W0 y'.iv m'.inp) (hl : LnOk y' m') :
  MM B W0 u v0 v1 b y' m' (Z'.setCell ⟨b, j, none⟩ x) := by
 have hz := hg.size
 have hl2 := h.le
 obtain ⟨hc, hf⟩ := h.boxG hg (fun q e => (hr q e).1)
 refine ⟨(h.bel.grown hg (Nat.le_trans hl2.1 h.bel.size) (fun q e => (hr q e).2)).setCell (show B ≤ (⟨b, j, none⟩ : Addr).block from hl2.2.1) _, ⟨hl2.1, hl2.2.1, by rw [World.size_setCell]; omega⟩, hb, fun q hq => hlo q (by rw [World.size_setCell] at hq; exact hq), hi, fun i v hv => ?_, fun i => by rw [World.frozen?_setCell]; exact hf i, hl, fun r => ?_⟩
 ·rw [hx, List.getElem?_set] at hv
  by_cases e : j = i
  ·subst e
   rw [if_pos rfl] at hv
   split at hv
   ·rename_i hj
    injection hv with hv
    subst hv
    exact World.cell?_setCell_same _ _ _ (hc j _ (List.getElem?_eq_getElem hj))
   ·cases hv
  ·rw [if_neg e] at hv
   have hne : (⟨b, i, none⟩ : Addr) ≠ ⟨b, j, none⟩ := fun e2 => e (congrArg Addr.off e2).symm
   rw [World.cell?_setCell_other _ _ _ _ (by first | exact hne | exact hne.symm)]
   exact hc i v hv
 ·cases r with
  | no => trivial
  | mb => trivial
  | fr => exact Ly.at_keep (hat .fr) (grownBy_setCell _ _ _) (fun q e => by injection e with e; rw [← e, hb]; decide)
  | hp => exact Ly.at_keep (hat .hp) (grownBy_setCell _ _ _) (fun q e => by injection e with e; rw [← e, hb]; decide)
  | ob => exact Ly.at_keep (hat .ob) (grownBy_setCell _ _ _) (fun q e => by injection e with e; rw [← e, hb]; decide)
  | ov => exact Ly.at_keep (hat .ov) (grownBy_setCell _ _ _) (fun q e => by injection e with e; rw [← e, hb]; decide)
  | fv i => exact Ly.at_keep (hat (.fv i)) (grownBy_setCell _ _ _) (fun q e => by injection e with e; rw [← e, hb]; exact fun e => by cases e)
  | sl i => exact Ly.at_keep (hat (.sl i)) (grownBy_setCell _ _ _) (fun q e => by injection e with e; rw [← e, hb]; exact fun e => by cases e)
theorem MM.box (h : MM B W0 u v0 v1 b y m Z) (hrl : y'.rl = y.rl) (hat : ∀ r, y'.at B m' r Z) (j : Nat) (x : Value) (hx : bxL u v0 v1 y' m' = (bxL u v0 v1 y m).set j x) (hi : InS vI W0 y'.iv m'.inp) (hl : LnOk y' m') :
  MM B W0 u v0 v1 b y' m' (Z.setCell ⟨b, j, none⟩ x) :=
 h.grow (row := none) (grownBy_refl _ _) (fun q e => by cases e) (by rw [hrl]; exact h.rb) (fun q hq => by rw [hrl]; exact h.rlo q hq) hat j x hx hi hl
theorem MM.role (h : MM B W0 u v0 v1 b y m Z) {o : Option Nat} (ho : ∀ q, o = some q → y.rl q = .no ∧ q < Z.heap.size) {r' : Rl} (hr : r' = .ov ∨ (∃ k, r' = .fv k ∧ m.fr.length ≤ k) ∨ ∃ k, r' = .sl k ∧ m.hp.length ≤ k) : MM B W0 u v0 v1 b { y with rl := rlO y.rl o r' } m Z := by
 have ho1 : ∀ q, o = some q → y.rl q = .no ∨ y.rl q = r' := fun q e => .inl (ho q e).1
 have hmb : Rl.mb ≠ r' := by rcases hr with rfl | ⟨k, rfl, -⟩ | ⟨k, rfl, -⟩ <;> exact fun e => by cases e
 refine ⟨h.bel, h.le, rlO_at h.rb (by decide) hmb ho1, fun q hq => rlO_no (h.rlo q hq) (fun k e => by have := (ho k e).2; omega), h.inp, h.bx, h.frz, ⟨h.ln.f, h.ln.s, h.ln.o⟩, fun r => ?_⟩
 by_cases e : r = r'
 ·subst e
  rcases hr with rfl | ⟨k, rfl, hk⟩ | ⟨k, rfl, hk⟩
  ·intro k hk
   have h1 := h.own .ov k hk
   refine ⟨h1.1, fun q hq => ?_⟩
   have h2 := h1.2 q hq
   cases o with
   | none => exact h2
   | some p =>
     by_cases e : q = p
     ·rw [e]; exact rlSet_same _ _ _
     ·exact (rlSet_other e).trans h2
  ·exact fun h2 => by omega
  ·exact fun h2 => by omega
 ·exact Ly.at_role (h.own r) e ho1
end
end Go.Proofs.YtnklnklkblgnfaaGreatDoor
end
section
namespace Go.Proofs.YtnklnklkblgnfaaGreatDoor
open Go.RowKit Go.Dfl Go.Obs Go.Hir
section
variable {B : Nat} {W0 : World} {u : Un} {v0 v1 : Value} {b : Nat} {y y' : Ly} {m m' : Mch} {Z Z' : World}
theorem up_ln {g : Frm} : (up m g).fr.length = m.fr.length := List.length_set
theorem up_nth {g : Frm} (hp : 0 < m.fr.length) (k : Nat) : nth (up m g).fr k = if tpN m = k then g else nth m.fr k := by
 show nth (m.fr.set _ _) k = _
 rw [nth_set]
 by_cases e : tpN m = k
 ·rw [if_pos ⟨e, by unfold tpN; omega⟩, if_pos e]
 ·rw [if_neg (fun h => e h.1), if_neg e]
theorem MM.frw (h : MM B W0 u v0 v1 b y m Z) {g : Frm} (hp : 0 < m.fr.length) (hv : g.vs = (tp m).vs) (hg : Z.grownBy Z' y.fs.v.ownBlock) (ho : OwnE elF Z' B 69 y.fs.v ((frs m y.fv).set (tpN m) ⟨(g.f : Int), (g.i : Int), g.no, g.cl, nth y.fv (tpN m), g.ex⟩)) :
  MM B W0 u v0 v1 b y (up m g) Z' := by
 have hrow : ∀ q, y.fs.v.ownBlock = some q → y.rl q = .fr := fun q e => (h.own .fr).2 q e
 have hfr : frs (up m g) y.fv = (frs m y.fv).set (tpN m) ⟨(g.f : Int), (g.i : Int), g.no, g.cl, nth y.fv (tpN m), g.ex⟩ := by
  refine nth_ext (by rw [List.length_set, frs_len, frs_len, up_ln]) fun k hk => ?_
  rw [frs_len, up_ln] at hk
  rw [nth_frs (by rw [up_ln]; exact hk), set_ext (by rw [frs_len]; exact hk), up_nth hp]
  by_cases e : tpN m = k
  ·rw [if_pos e, if_pos e, e]
  ·rw [if_neg e, if_neg e, nth_frs hk]
 refine h.put hg (fun q e => ⟨by rw [hrow q e]; decide, (OwnE.lt h.fr q e).1⟩) (fun r => ?_) rfl rfl ⟨h.ln.f.trans up_ln.symm, h.ln.s, h.ln.o⟩
 cases r with
 | no => trivial
 | mb => trivial
 | fr => exact ⟨by rw [hfr]; exact ho, (h.own .fr).2⟩
 | hp => exact Ly.at_keep (h.own .hp) hg (fun q e => by rw [hrow q e]; exact fun e => by cases e)
 | ob => exact Ly.at_keep (h.own .ob) hg (fun q e => by rw [hrow q e]; exact fun e => by cases e)
 | ov => exact Ly.at_keep (h.own .ov) hg (fun q e => by rw [hrow q e]; exact fun e => by cases e)
 | sl i => exact Ly.at_keep (h.own (.sl i)) hg (fun q e => by rw [hrow q e]; exact fun e => by cases e)
 | fv i =>
   intro hi
   rw [up_ln] at hi
   have h1 := Ly.at_keep (h.own (.fv i)) hg (fun q e => by rw [hrow q e]; exact fun e => by cases e) hi
   rw [up_nth hp]
   by_cases e : tpN m = i
   ·rw [if_pos e, hv]; unfold tp; rw [e]; exact h1
   ·rw [if_neg e]; exact h1
theorem MM.fvw (h : MM B W0 u v0 v1 b y m Z) {l : List Vl} (hp : 0 < m.fr.length) (hg : Z.grownBy Z' (nth y.fv (tpN m)).v.ownBlock) (ho : OwnE elV Z' B 50 (nth y.fv (tpN m)).v l) :
  MM B W0 u v0 v1 b y (up m { tp m with vs := l }) Z' := by
 have htp : tpN m < m.fr.length := by unfold tpN; omega
 have hF := h.own (.fv (tpN m)) htp
 have hrow : ∀ q, (nth y.fv (tpN m)).v.ownBlock = some q → y.rl q = .fv (tpN m) := fun q e => hF.2 q e
 have hfr : frs (up m { tp m with vs := l }) y.fv = frs m y.fv := by
  refine nth_ext (by rw [frs_len, frs_len, up_ln]) fun k hk => ?_
  rw [frs_len, up_ln] at hk
  rw [nth_frs (by rw [up_ln]; exact hk), nth_frs hk, up_nth hp]
  by_cases e : tpN m = k
  ·rw [if_pos e]; unfold tp; rw [e]
  ·rw [if_neg e]
 refine h.put hg (fun q e => ⟨by rw [hrow q e]; exact (fun e => by cases e), (OwnE.lt hF.1 q e).1⟩) (fun r => ?_) rfl rfl ⟨h.ln.f.trans up_ln.symm, h.ln.s, h.ln.o⟩
 cases r with
 | no => trivial
 | mb => trivial
 | fr =>
   have h1 := Ly.at_keep (h.own .fr) hg (fun q e => by rw [hrow q e]; exact fun e => by cases e)
   exact ⟨by rw [hfr]; exact h1.1, h1.2⟩
 | hp => exact Ly.at_keep (h.own .hp) hg (fun q e => by rw [hrow q e]; exact fun e => by cases e)
 | ob => exact Ly.at_keep (h.own .ob) hg (fun q e => by rw [hrow q e]; exact fun e => by cases e)
 | ov => exact Ly.at_keep (h.own .ov) hg (fun q e => by rw [hrow q e]; exact fun e => by cases e)
 | sl i => exact Ly.at_keep (h.own (.sl i)) hg (fun q e => by rw [hrow q e]; exact fun e => by cases e)
 | fv i =>
   intro hi
   rw [up_ln] at hi
   rw [up_nth hp]
   by_cases e : tpN m = i
   ·rw [if_pos e, ← e]; exact ⟨ho, hF.2⟩
   ·rw [if_neg e]
    exact Ly.at_keep (h.own (.fv i)) hg (fun q e2 => by rw [hrow q e2]; intro e3; injection e3 with e3; exact e e3) hi
theorem MM.svw (h : MM B W0 u v0 v1 b y m Z) {p k : Nat} {v : Vl} (hp : p < m.hp.length) (hg : Z.grownBy Z' (nth y.sv p).v.ownBlock) (ho : OwnE elT Z' B 125 (nth y.sv p).v ((nth m.hp p).sl.set k ((nth (nth m.hp p).sl k).1, v))) :
  MM B W0 u v0 v1 b y (putS m p k v) Z' := by
 have hF := h.own (.sl p) hp
 have hrow : ∀ q, (nth y.sv p).v.ownBlock = some q → y.rl q = .sl p := fun q e => hF.2 q e
 have hln : (putS m p k v).hp.length = m.hp.length := List.length_set
 have hnt : ∀ j, nth (putS m p k v).hp j = if p = j then { nth m.hp p with sl := (nth m.hp p).sl.set k ((nth (nth m.hp p).sl k).1, v) } else nth m.hp j := fun j => by
  show nth (m.hp.set _ _) j = _
  rw [nth_set]
  by_cases e : p = j
  ·rw [if_pos ⟨e, hp⟩, if_pos e]
  ·rw [if_neg (fun h => e h.1), if_neg e]
 have hfr : hps (putS m p k v) y.sv = hps m y.sv := by
  refine nth_ext (by rw [hps_len, hps_len, hln]) fun j hj => ?_
  rw [hps_len, hln] at hj
  rw [nth_hps (by rw [hln]; exact hj), nth_hps hj, hnt]
  by_cases e : p = j
  ·rw [if_pos e, e]
  ·rw [if_neg e]
 refine h.put hg (fun q e => ⟨by rw [hrow q e]; exact (fun e => by cases e), (OwnE.lt hF.1 q e).1⟩) (fun r => ?_) rfl rfl ⟨h.ln.f, h.ln.s.trans hln.symm, h.ln.o⟩
 cases r with
 | no => trivial
 | mb => trivial
 | hp =>
   have h1 := Ly.at_keep (h.own .hp) hg (fun q e => by rw [hrow q e]; exact fun e => by cases e)
   exact ⟨by rw [hfr]; exact h1.1, h1.2⟩
 | fr => exact Ly.at_keep (h.own .fr) hg (fun q e => by rw [hrow q e]; exact fun e => by cases e)
 | ob => exact Ly.at_keep (h.own .ob) hg (fun q e => by rw [hrow q e]; exact fun e => by cases e)
 | ov => exact Ly.at_keep (h.own .ov) hg (fun q e => by rw [hrow q e]; exact fun e => by cases e)
 | fv i => exact Ly.at_keep (h.own (.fv i)) hg (fun q e => by rw [hrow q e]; exact fun e => by cases e)
 | sl i =>
   intro hi
   rw [hln] at hi
   rw [hnt]
   by_cases e : p = i
   ·rw [if_pos e, ← e]; exact ⟨ho, hF.2⟩
   ·rw [if_neg e]
    exact Ly.at_keep (h.own (.sl i)) hg (fun q e2 => by rw [hrow q e2]; intro e3; injection e3 with e3; exact e e3) hi
theorem MM.setN (h : MM B W0 u v0 v1 b y m Z) (n : Int) : MM B W0 u v0 v1 b y { m with n := n } (Z.setCell ⟨b, 6, none⟩ (.int .i64 n)) :=
 h.box (y' := y) (m' := { m with n := n }) rfl (fun r => by have h1 := h.own r; cases r <;> exact h1) 6 _ rfl h.inp ⟨h.ln.f, h.ln.s, h.ln.o⟩
theorem MM.setI (h : MM B W0 u v0 v1 b y m Z) {iv' : Value} {l : List Int} (hi : InS vI W0 iv' l) : MM B W0 u v0 v1 b { y with iv := iv' } { m with inp := l } (Z.setCell ⟨b, 3, none⟩ iv') :=
 h.box (y' := { y with iv := iv' }) (m' := { m with inp := l }) rfl (fun r => by have h1 := h.own r; cases r <;> exact h1) 3 _ rfl hi ⟨h.ln.f, h.ln.s, h.ln.o⟩
theorem MM.setE (h : MM B W0 u v0 v1 b y m Z) (n : Int) : MM B W0 u v0 v1 b { y with en := n } m (Z.setCell ⟨b, 7, none⟩ (.int .i64 n)) :=
 h.box (y' := { y with en := n }) (m' := m) rfl (fun r => by have h1 := h.own r; cases r <;> exact h1) 7 _ rfl h.inp ⟨h.ln.f, h.ln.s, h.ln.o⟩
theorem MM.cutF (h : MM B W0 u v0 v1 b y m Z) {k : Nat} (hk : k ≤ m.fr.length) (hF : OwnE elF Z B 69 (.slice y.fs.a k y.fs.c) ((frs m y.fv).take k)) :
  MM B W0 u v0 v1 b { y with fs := ⟨y.fs.a, k, y.fs.c⟩, fv := y.fv.take k } { m with fr := m.fr.take k } (Z.setCell ⟨b, 5, none⟩ (.slice y.fs.a k y.fs.c)) := by
 have hln : (m.fr.take k).length = k := by rw [List.length_take, Nat.min_eq_left hk]
 have hfl : (y.fv.take k).length = k := by rw [List.length_take, h.ln.f, Nat.min_eq_left hk]
 have hfr : frs { m with fr := m.fr.take k } (y.fv.take k) = (frs m y.fv).take k := by
  refine nth_ext (by rw [List.length_take, frs_len, frs_len, Nat.min_eq_left hk]; exact hln) fun j hj => ?_
  rw [frs_len] at hj
  have hj : j < (m.fr.take k).length := hj
  rw [hln] at hj
  rw [nth_frs (m := { m with fr := m.fr.take k }) (by show j < (m.fr.take k).length; rw [hln]; exact hj), nth_take (frs m y.fv) _ _ hj, nth_frs (by omega)]
  show FR.mk ((nth (m.fr.take k) j).f : Int) ((nth (m.fr.take k) j).i : Int) (nth (m.fr.take k) j).no (nth (m.fr.take k) j).cl (nth (y.fv.take k) j) (nth (m.fr.take k) j).ex = _
  rw [nth_take m.fr _ _ hj, nth_take y.fv _ _ hj]
 refine h.box (y' := { y with fs := ⟨y.fs.a, k, y.fs.c⟩, fv := y.fv.take k }) (m' := { m with fr := m.fr.take k }) rfl (fun r => ?_) 5 _ rfl h.inp ⟨hfl.trans hln.symm, h.ln.s, h.ln.o⟩
 have h1 := h.own r
 cases r with
 | fr => exact ⟨by rw [hfr]; exact hF, fun q hq => h1.2 q (by rw [← hq]; show (Value.slice y.fs.a y.fs.n y.fs.c).ownBlock = (Value.slice y.fs.a k y.fs.c).ownBlock; cases y.fs.a <;> rfl)⟩
 | fv i =>
   intro hi
   have hi : i < (m.fr.take k).length := hi
   rw [hln] at hi
   show OwnE elV _ B _ (nth (y.fv.take k) i).v (nth (m.fr.take k) i).vs ∧ In _ _ (nth (y.fv.take k) i).v
   rw [nth_take _ _ _ hi, nth_take _ _ _ hi]
   exact h1 (by omega)
 | no => trivial
 | mb => trivial
 | hp => exact h1
 | ob => exact h1
 | ov => exact h1
 | sl i => exact h1
theorem MM.pushF (h : MM B W0 u v0 v1 b y m Z) {g : Frm} {s v' : Sl} (hs2 : OwnE elV Z B 50 s.v g.vs) (hno : ∀ q, s.v.ownBlock = some q → y.rl q = .no)
  (ho : OwnE elF Z' B 69 v'.v (frs m y.fv ++ [⟨(g.f : Int), (g.i : Int), g.no, g.cl, s, g.ex⟩])) (hg : Z.grownBy Z' y.fs.v.ownBlock) (hat : v'.v.ownBlock = y.fs.v.ownBlock ∨ v'.v.ownBlock = some Z.heap.size) :
  (Z'.cell? ⟨b, 5, none⟩ = some y.fs.v ∧ Z'.frozen? ⟨b, 5, none⟩ = false) ∧ ∃ rl', (∀ q, q < Z.heap.size → y.rl q = .no → s.v.ownBlock ≠ some q → rl' q = .no) ∧ MM B W0 u v0 v1 b { y with rl := rl', fs := v', fv := y.fv ++ [s] } { m with fr := m.fr ++ [g] } (Z'.setCell ⟨b, 5, none⟩ v'.v) := by
 have h1 := h.role (o := s.v.ownBlock) (fun q e => ⟨hno q e, (OwnE.lt hs2 q e).2⟩) (r' := .fv m.fr.length) (.inr (.inl ⟨_, rfl, Nat.le_refl _⟩))
 obtain ⟨y1, hy1⟩ : ∃ y1 : Ly, y1 = { y with rl := rlO y.rl s.v.ownBlock (.fv m.fr.length) } := ⟨_, rfl⟩
 have er : y1.rl = rlO y.rl s.v.ownBlock (.fv m.fr.length) := by rw [hy1]
 have e1 : y1.fs = y.fs := by rw [hy1]
 rw [← hy1] at h1
 have hz := hg.size
 have hrow : ∀ q, y.fs.v.ownBlock = some q → y1.rl q = .fr := fun q e => by rw [← e1] at e; exact (h1.own .fr).2 q e
 have hv1 : ∀ q, v'.v.ownBlock = some q → y1.rl q = .no ∨ y1.rl q = .fr := fun q e => by
  rcases hat with e2 | e2
  ·exact .inr (hrow q (by rw [← e2]; exact e))
  ·rw [e] at e2; injection e2 with e2; exact .inl (h1.rlo q (by omega))
 have hbx := h.boxG hg (fun q e => by rw [(h.own .fr).2 q e]; decide)
 have hnew : In y1.rl (.fv m.fr.length) s.v := by rw [er]; exact In.new
 refine ⟨⟨hbx.1 5 _ rfl, hbx.2 5⟩, rlO y1.rl v'.v.ownBlock .fr, fun q hq h0 hne => ?_, ?_⟩
 ·refine rlO_no ?_ (fun k e e2 => ?_)
  ·rw [er]; exact rlO_no h0 (fun k e e2 => hne (by rw [e, e2]))
  ·rcases hat with e3 | e3
   ·have := (h.own .fr).2 k (by rw [← e3]; exact e)
    rw [e2, h0] at this; cases this
   ·rw [e] at e3; injection e3 with e3; omega
 refine h1.grow hg (fun q e => ⟨by rw [hrow q e]; decide, (OwnE.lt h.fr q e).1⟩) (rlO_at h1.rb (by decide) (by decide) hv1) (fun q hq => rlO_no (h1.rlo q (by omega)) (fun k e => by have := (OwnE.lt ho k e).2; omega)) (fun r => ?_) 5 _ (by rw [hy1]; rfl) h.inp ⟨by simp [h.ln.f], by rw [hy1]; exact h.ln.s, by rw [hy1]; exact h.ln.o⟩
 have hfr : frs { m with fr := m.fr ++ [g] } (y.fv ++ [s]) = frs m y.fv ++ [⟨(g.f : Int), (g.i : Int), g.no, g.cl, s, g.ex⟩] := by
  refine nth_ext (by rw [List.length_append, frs_len, frs_len]; simp) fun k hk => ?_
  rw [frs_len] at hk
  have hk : k < (m.fr ++ [g]).length := hk
  rw [List.length_append, List.length_singleton] at hk
  rw [nth_frs (m := { m with fr := m.fr ++ [g] }) (by show k < (m.fr ++ [g]).length; rw [List.length_append, List.length_singleton]; exact hk), nth_append (frs m y.fv), frs_len]
  show FR.mk ((nth (m.fr ++ [g]) k).f : Int) ((nth (m.fr ++ [g]) k).i : Int) (nth (m.fr ++ [g]) k).no (nth (m.fr ++ [g]) k).cl (nth (y.fv ++ [s]) k) (nth (m.fr ++ [g]) k).ex = _
  rw [nth_append m.fr, nth_append y.fv, h.ln.f]
  by_cases e : k < m.fr.length
  ·rw [if_pos e, if_pos e, if_pos e, nth_frs e]
  ·rw [if_neg e, if_neg e, if_neg e, show k - m.fr.length = 0 by omega]; rfl
 have hsub : ∀ r, r ≠ .fr → (y1.at B m r Z' → ({ y1 with rl := rlO y1.rl v'.v.ownBlock .fr } : Ly).at B m r Z') := fun r hr h2 => Ly.at_role h2 hr hv1
 subst hy1
 cases r with
 | no => trivial
 | mb => trivial
 | fr => exact ⟨by rw [← hfr] at ho; exact ho, In.new⟩
 | hp => exact hsub .hp (by decide) (Ly.at_keep (h1.own .hp) hg (fun q e => by rw [hrow q e]; exact fun e => by cases e))
 | ob => exact hsub .ob (by decide) (Ly.at_keep (h1.own .ob) hg (fun q e => by rw [hrow q e]; exact fun e => by cases e))
 | ov => exact hsub .ov (by decide) (Ly.at_keep (h1.own .ov) hg (fun q e => by rw [hrow q e]; exact fun e => by cases e))
 | sl i => exact hsub (.sl i) (fun e => by cases e) (Ly.at_keep (h1.own (.sl i)) hg (fun q e => by rw [hrow q e]; exact fun e => by cases e))
 | fv k =>
   intro hk
   have hk : k < (m.fr ++ [g]).length := hk
   rw [List.length_append, List.length_singleton] at hk
   show OwnE elV _ B _ (nth (y.fv ++ [s]) k).v (nth (m.fr ++ [g]) k).vs ∧ In _ _ (nth (y.fv ++ [s]) k).v
   rw [nth_append, nth_append, h.ln.f]
   by_cases e : k < m.fr.length
   ·rw [if_pos e, if_pos e]
    have h2 := hsub (.fv k) (fun e => by cases e) (Ly.at_keep (h1.own (.fv k)) hg (fun q e => by rw [hrow q e]; exact fun e => by cases e)) e
    exact h2
   ·rw [if_neg e, if_neg e, show k - m.fr.length = 0 by omega]
    obtain rfl : k = m.fr.length := by omega
    exact ⟨keepR (rl := rlO y.rl s.v.ownBlock (.fv m.fr.length)) hs2 hnew hg (fun q e => by have h3 := hrow q e; intro h4; have h5 := h3.symm.trans h4; cases h5), hnew.upd (fun e => by cases e) (fun e => by cases e) hv1⟩
theorem MM.pushH (h : MM B W0 u v0 v1 b y m Z) {o : Hir.Obj} {s v' : Sl} (hs2 : OwnE elT Z B 125 s.v o.sl) (hno : ∀ q, s.v.ownBlock = some q → y.rl q = .no)
  (ho : OwnE elO Z' B 102 v'.v (hps m y.sv ++ [(o.c, s)])) (hg : Z.grownBy Z' y.hs.v.ownBlock) (hat : v'.v.ownBlock = y.hs.v.ownBlock ∨ v'.v.ownBlock = some Z.heap.size) :
  (Z'.cell? ⟨b, 4, none⟩ = some y.hs.v ∧ Z'.frozen? ⟨b, 4, none⟩ = false) ∧ ∃ rl', (∀ q, q < Z.heap.size → y.rl q = .no → s.v.ownBlock ≠ some q → rl' q = .no) ∧ MM B W0 u v0 v1 b { y with rl := rl', hs := v', sv := y.sv ++ [s] } { m with hp := m.hp ++ [o] } (Z'.setCell ⟨b, 4, none⟩ v'.v) := by
 have h1 := h.role (o := s.v.ownBlock) (fun q e => ⟨hno q e, (OwnE.lt hs2 q e).2⟩) (r' := .sl m.hp.length) (.inr (.inr ⟨_, rfl, Nat.le_refl _⟩))
 obtain ⟨y1, hy1⟩ : ∃ y1 : Ly, y1 = { y with rl := rlO y.rl s.v.ownBlock (.sl m.hp.length) } := ⟨_, rfl⟩
 have er : y1.rl = rlO y.rl s.v.ownBlock (.sl m.hp.length) := by rw [hy1]
 have e1 : y1.hs = y.hs := by rw [hy1]
 rw [← hy1] at h1
 have hz := hg.size
 have hrow : ∀ q, y.hs.v.ownBlock = some q → y1.rl q = .hp := fun q e => by rw [← e1] at e; exact (h1.own .hp).2 q e
 have hv1 : ∀ q, v'.v.ownBlock = some q → y1.rl q = .no ∨ y1.rl q = .hp := fun q e => by
  rcases hat with e2 | e2
  ·exact .inr (hrow q (by rw [← e2]; exact e))
  ·rw [e] at e2; injection e2 with e2; exact .inl (h1.rlo q (by omega))
 have hbx := h.boxG hg (fun q e => by rw [(h.own .hp).2 q e]; decide)
 have hnew : In y1.rl (.sl m.hp.length) s.v := by rw [er]; exact In.new
 refine ⟨⟨hbx.1 4 _ rfl, hbx.2 4⟩, rlO y1.rl v'.v.ownBlock .hp, fun q hq h0 hne => ?_, ?_⟩
 ·refine rlO_no ?_ (fun k e e2 => ?_)
  ·rw [er]; exact rlO_no h0 (fun k e e2 => hne (by rw [e, e2]))
  ·rcases hat with e3 | e3
   ·have := (h.own .hp).2 k (by rw [← e3]; exact e)
    rw [e2, h0] at this; cases this
   ·rw [e] at e3; injection e3 with e3; omega
 refine h1.grow hg (fun q e => ⟨by rw [hrow q e]; decide, (OwnE.lt h.hp q e).1⟩) (rlO_at h1.rb (by decide) (by decide) hv1) (fun q hq => rlO_no (h1.rlo q (by omega)) (fun k e => by have := (OwnE.lt ho k e).2; omega)) (fun r => ?_) 4 _ (by rw [hy1]; rfl) h.inp ⟨by rw [hy1]; exact h.ln.f, by simp [h.ln.s], by rw [hy1]; exact h.ln.o⟩
 have hfr : hps { m with hp := m.hp ++ [o] } (y.sv ++ [s]) = hps m y.sv ++ [(o.c, s)] := by
  refine nth_ext (by rw [List.length_append, hps_len, hps_len]; simp) fun k hk => ?_
  rw [hps_len] at hk
  have hk : k < (m.hp ++ [o]).length := hk
  rw [List.length_append, List.length_singleton] at hk
  rw [nth_hps (m := { m with hp := m.hp ++ [o] }) (by show k < (m.hp ++ [o]).length; rw [List.length_append, List.length_singleton]; exact hk), nth_append (hps m y.sv), hps_len]
  show ((nth (m.hp ++ [o]) k).c, nth (y.sv ++ [s]) k) = _
  rw [nth_append m.hp, nth_append y.sv, h.ln.s]
  by_cases e : k < m.hp.length
  ·rw [if_pos e, if_pos e, if_pos e, nth_hps e]
  ·rw [if_neg e, if_neg e, if_neg e, show k - m.hp.length = 0 by omega]; rfl
 have hsub : ∀ r, r ≠ .hp → (y1.at B m r Z' → ({ y1 with rl := rlO y1.rl v'.v.ownBlock .hp } : Ly).at B m r Z') := fun r hr h2 => Ly.at_role h2 hr hv1
 subst hy1
 cases r with
 | no => trivial
 | mb => trivial
 | hp => exact ⟨by rw [← hfr] at ho; exact ho, In.new⟩
 | fr => exact hsub .fr (by decide) (Ly.at_keep (h1.own .fr) hg (fun q e => by rw [hrow q e]; exact fun e => by cases e))
 | ob => exact hsub .ob (by decide) (Ly.at_keep (h1.own .ob) hg (fun q e => by rw [hrow q e]; exact fun e => by cases e))
 | ov => exact hsub .ov (by decide) (Ly.at_keep (h1.own .ov) hg (fun q e => by rw [hrow q e]; exact fun e => by cases e))
 | fv i => exact hsub (.fv i) (fun e => by cases e) (Ly.at_keep (h1.own (.fv i)) hg (fun q e => by rw [hrow q e]; exact fun e => by cases e))
 | sl k =>
   intro hk
   have hk : k < (m.hp ++ [o]).length := hk
   rw [List.length_append, List.length_singleton] at hk
   show OwnE elT _ B _ (nth (y.sv ++ [s]) k).v (nth (m.hp ++ [o]) k).sl ∧ In _ _ (nth (y.sv ++ [s]) k).v
   rw [nth_append, nth_append, h.ln.s]
   by_cases e : k < m.hp.length
   ·rw [if_pos e, if_pos e]
    have h2 := hsub (.sl k) (fun e => by cases e) (Ly.at_keep (h1.own (.sl k)) hg (fun q e => by rw [hrow q e]; exact fun e => by cases e)) e
    exact h2
   ·rw [if_neg e, if_neg e, show k - m.hp.length = 0 by omega]
    obtain rfl : k = m.hp.length := by omega
    exact ⟨keepR (rl := rlO y.rl s.v.ownBlock (.sl m.hp.length)) hs2 hnew hg (fun q e => by have h3 := hrow q e; intro h4; have h5 := h3.symm.trans h4; cases h5), hnew.upd (fun e => by cases e) (fun e => by cases e) hv1⟩
theorem MM.pushO (h : MM B W0 u v0 v1 b y m Z) {o : Ob} {s v' : Sl} (hs2 : OwnE elV Z B 50 s.v o.vs) (hno : ∀ q, s.v.ownBlock = some q → y.rl q = .no)
  (ho : OwnE elB Z' B 53 v'.v (obs m y.ov ++ [⟨o.f, o.i, o.fr, o.c, s⟩])) (hg : Z.grownBy Z' y.os.v.ownBlock) (hat : v'.v.ownBlock = y.os.v.ownBlock ∨ v'.v.ownBlock = some Z.heap.size) :
  (Z'.cell? ⟨b, 8, none⟩ = some y.os.v ∧ Z'.frozen? ⟨b, 8, none⟩ = false) ∧ ∃ rl', (∀ q, q < Z.heap.size → y.rl q = .no → s.v.ownBlock ≠ some q → rl' q = .no) ∧ MM B W0 u v0 v1 b { y with rl := rl', os := v', ov := y.ov ++ [s] } { m with ob := m.ob ++ [o] } (Z'.setCell ⟨b, 8, none⟩ v'.v) := by
 have h1 := h.role (o := s.v.ownBlock) (fun q e => ⟨hno q e, (OwnE.lt hs2 q e).2⟩) (r' := .ov) (.inl rfl)
 obtain ⟨y1, hy1⟩ : ∃ y1 : Ly, y1 = { y with rl := rlO y.rl s.v.ownBlock (.ov) } := ⟨_, rfl⟩
 have er : y1.rl = rlO y.rl s.v.ownBlock (.ov) := by rw [hy1]
 have e1 : y1.os = y.os := by rw [hy1]
 rw [← hy1] at h1
 have hz := hg.size
 have hrow : ∀ q, y.os.v.ownBlock = some q → y1.rl q = .ob := fun q e => by rw [← e1] at e; exact (h1.own .ob).2 q e
 have hv1 : ∀ q, v'.v.ownBlock = some q → y1.rl q = .no ∨ y1.rl q = .ob := fun q e => by
  rcases hat with e2 | e2
  ·exact .inr (hrow q (by rw [← e2]; exact e))
  ·rw [e] at e2; injection e2 with e2; exact .inl (h1.rlo q (by omega))
 have hbx := h.boxG hg (fun q e => by rw [(h.own .ob).2 q e]; decide)
 have hnew : In y1.rl (.ov) s.v := by rw [er]; exact In.new
 refine ⟨⟨hbx.1 8 _ rfl, hbx.2 8⟩, rlO y1.rl v'.v.ownBlock .ob, fun q hq h0 hne => ?_, ?_⟩
 ·refine rlO_no ?_ (fun k e e2 => ?_)
  ·rw [er]; exact rlO_no h0 (fun k e e2 => hne (by rw [e, e2]))
  ·rcases hat with e3 | e3
   ·have := (h.own .ob).2 k (by rw [← e3]; exact e)
    rw [e2, h0] at this; cases this
   ·rw [e] at e3; injection e3 with e3; omega
 refine h1.grow hg (fun q e => ⟨by rw [hrow q e]; decide, (OwnE.lt h.ob q e).1⟩) (rlO_at h1.rb (by decide) (by decide) hv1) (fun q hq => rlO_no (h1.rlo q (by omega)) (fun k e => by have := (OwnE.lt ho k e).2; omega)) (fun r => ?_) 8 _ (by rw [hy1]; rfl) h.inp ⟨by rw [hy1]; exact h.ln.f, by rw [hy1]; exact h.ln.s, by simp [h.ln.o]⟩
 have hfr : obs { m with ob := m.ob ++ [o] } (y.ov ++ [s]) = obs m y.ov ++ [⟨o.f, o.i, o.fr, o.c, s⟩] := by
  refine nth_ext (by rw [List.length_append, obs_len, obs_len]; simp) fun k hk => ?_
  rw [obs_len] at hk
  have hk : k < (m.ob ++ [o]).length := hk
  rw [List.length_append, List.length_singleton] at hk
  rw [nth_obs (m := { m with ob := m.ob ++ [o] }) (by show k < (m.ob ++ [o]).length; rw [List.length_append, List.length_singleton]; exact hk), nth_append (obs m y.ov), obs_len]
  show BR.mk (nth (m.ob ++ [o]) k).f (nth (m.ob ++ [o]) k).i (nth (m.ob ++ [o]) k).fr (nth (m.ob ++ [o]) k).c (nth (y.ov ++ [s]) k) = _
  rw [nth_append m.ob, nth_append y.ov, h.ln.o]
  by_cases e : k < m.ob.length
  ·rw [if_pos e, if_pos e, if_pos e, nth_obs e]
  ·rw [if_neg e, if_neg e, if_neg e, show k - m.ob.length = 0 by omega]; rfl
 have hsub : ∀ r, r ≠ .ob → (y1.at B m r Z' → ({ y1 with rl := rlO y1.rl v'.v.ownBlock .ob } : Ly).at B m r Z') := fun r hr h2 => Ly.at_role h2 hr hv1
 subst hy1
 cases r with
 | no => trivial
 | mb => trivial
 | ob => exact ⟨by rw [← hfr] at ho; exact ho, In.new⟩
 | fr => exact hsub .fr (by decide) (Ly.at_keep (h1.own .fr) hg (fun q e => by rw [hrow q e]; exact fun e => by cases e))
 | hp => exact hsub .hp (by decide) (Ly.at_keep (h1.own .hp) hg (fun q e => by rw [hrow q e]; exact fun e => by cases e))
 | fv i => exact hsub (.fv i) (fun e => by cases e) (Ly.at_keep (h1.own (.fv i)) hg (fun q e => by rw [hrow q e]; exact fun e => by cases e))
 | sl i => exact hsub (.sl i) (fun e => by cases e) (Ly.at_keep (h1.own (.sl i)) hg (fun q e => by rw [hrow q e]; exact fun e => by cases e))
 | ov =>
   intro k hk
   have hk : k < (m.ob ++ [o]).length := hk
   rw [List.length_append, List.length_singleton] at hk
   show OwnE elV _ B _ (nth (y.ov ++ [s]) k).v (nth (m.ob ++ [o]) k).vs ∧ In _ _ (nth (y.ov ++ [s]) k).v
   rw [nth_append, nth_append, h.ln.o]
   by_cases e : k < m.ob.length
   ·rw [if_pos e, if_pos e]
    have h2 := hsub (.ov) (fun e => by cases e) (Ly.at_keep (h1.own .ov) hg (fun q e => by rw [hrow q e]; exact fun e => by cases e)) k e
    exact h2
   ·rw [if_neg e, if_neg e, show k - m.ob.length = 0 by omega]
    exact ⟨keepR (rl := rlO y.rl s.v.ownBlock (.ov)) hs2 hnew hg (fun q e => by have h3 := hrow q e; intro h4; have h5 := h3.symm.trans h4; cases h5), hnew.upd (fun e => by cases e) (fun e => by cases e) hv1⟩
end
end Go.Proofs.YtnklnklkblgnfaaGreatDoor
end
section
namespace Go.Dfl
open Go.RowKit
theorem grownBy_setRow (w : World) (g : Nat) (cs : Array Value) : w.grownBy (w.setRow g cs) (some g) :=
 ⟨rfl, rfl, rfl, by simp [World.setRow], fun k _ hk => setRow_other w g k cs (by have : k ≠ g := fun e => hk (by rw [e]); omega)⟩
section
variable {α : Type} {E : El α}
theorem OwnE.row {w : World} {g cap base : Nat} {cur : Array Value} {e : TypeId} {l : List α} (hg : base ≤ g) (hh : w.heap[g]? = some (.cells cur e (0, 0))) (hc : l.length ≤ cap) (hm : cap ≤ maxLen) (hsz : cur.size = cap * E.sz) (ht : cur.toList.take (l.length * E.sz) = l.flatMap E.c) : OwnE E w base e (.slice (some ⟨g, 0, none⟩) l.length cap) l :=
 ⟨flat_len E l, .inr ⟨g, cap, cur, rfl, hg, hh, hc, hm, hsz, ht⟩⟩
end
end Go.Dfl
end
section
namespace Go.Dfl
open Go.RowKit
section
variable {α : Type} [Inhabited α] {E : El α}
theorem flat_part {l : List α} {k j : Nat} {u : α} {cs L : List Value} (hk : k < l.length) (hj : j + cs.length ≤ E.sz) (hu : E.c u = (E.c (nth l k)).take j ++ cs ++ (E.c (nth l k)).drop (j + cs.length)) (hL : l.length * E.sz ≤ L.length) (ht : L.take (l.length * E.sz) = l.flatMap E.c) :
  (L.take (k * E.sz + j) ++ cs ++ L.drop (k * E.sz + j + cs.length)).take (l.length * E.sz) = (l.set k u).flatMap E.c := by
 have hp := E.pos
 have hks : k * E.sz + E.sz ≤ l.length * E.sz := by rw [← Nat.succ_mul]; exact Nat.mul_le_mul_right _ hk
 refine List.ext_getElem? fun q => ?_
 by_cases hq : q < l.length * E.sz
 ·have hqd : q = q / E.sz * E.sz + q % E.sz := by have := Nat.div_add_mod q E.sz; rw [Nat.mul_comm] at this; omega
  have h1 : q / E.sz < l.length := (Nat.div_lt_iff_lt_mul hp).2 hq
  have h2 : q % E.sz < E.sz := Nat.mod_lt _ hp
  have hold : ∀ i r, q = i * E.sz + r → i < l.length → r < E.sz → (E.c (nth l i))[r]? = L[q]? := fun i r e hi hr => by
   rw [← flat_get E l i r hi hr, ← ht, ← e, List.getElem?_take, if_pos hq]
  have hN : (L.take (k * E.sz + j) ++ cs ++ L.drop (k * E.sz + j + cs.length))[q]? = if q < k * E.sz + j then L[q]? else if q < k * E.sz + j + cs.length then cs[q - (k * E.sz + j)]? else L[q]? := by
   have hl1 : (L.take (k * E.sz + j)).length = k * E.sz + j := by rw [List.length_take]; omega
   by_cases c1 : q < k * E.sz + j
   ·rw [if_pos c1, List.append_assoc, List.getElem?_append_left (by omega), List.getElem?_take, if_pos c1]
   ·rw [if_neg c1]
    by_cases c2 : q < k * E.sz + j + cs.length
    ·rw [if_pos c2, List.append_assoc, List.getElem?_append_right (by omega), List.getElem?_append_left (by omega), hl1]
    ·rw [if_neg c2, List.getElem?_append_right (by rw [List.length_append]; omega), List.length_append, hl1, List.getElem?_drop]
     congr 1; omega
  rw [List.getElem?_take, if_pos hq, hN, hqd, flat_get E _ _ _ (by rw [List.length_set]; exact h1) h2, ← hqd, set_ext h1]
  by_cases e : k = q / E.sz
  ·rw [if_pos e, hu]
   have hal : (E.c (nth l k)).length = E.sz := E.len _
   have hq2 : q = k * E.sz + q % E.sz := by rw [e]; exact hqd
   have ho := hold k (q % E.sz) hq2 hk h2
   by_cases c1 : q % E.sz < j
   ·rw [if_pos (by omega), List.append_assoc, List.getElem?_append_left (by rw [List.length_take]; omega), List.getElem?_take, if_pos c1, ho]
   ·rw [if_neg (by omega)]
    by_cases c2 : q % E.sz < j + cs.length
    ·rw [if_pos (by omega), List.append_assoc, List.getElem?_append_right (by rw [List.length_take]; omega), List.getElem?_append_left (by rw [List.length_take]; omega), List.length_take, Nat.min_eq_left (by omega)]
     congr 1; omega
    ·rw [if_neg (by omega), List.getElem?_append_right (by rw [List.length_append, List.length_take]; omega), List.length_append, List.length_take, Nat.min_eq_left (by omega), List.getElem?_drop, ← ho]
     congr 1; omega
  ·rw [if_neg e]
   have ho := hold _ _ hqd h1 h2
   rw [ho]
   by_cases c1 : q < k * E.sz + j
   ·rw [if_pos c1]
   ·rw [if_neg c1, if_neg ?_]
    intro c2
    have h3 : k < q / E.sz + 1 := by
     refine Nat.lt_of_mul_lt_mul_right (a := E.sz) ?_
     rw [Nat.succ_mul]; omega
    have h4 : q / E.sz < k + 1 := by
     refine Nat.lt_of_mul_lt_mul_right (a := E.sz) ?_
     rw [Nat.succ_mul]; omega
    omega
 ·rw [List.getElem?_eq_none (by rw [List.length_take]; omega), List.getElem?_eq_none (by rw [flat_len, List.length_set]; omega)]
theorem wpList_storeP {P : Program} {w : World} {base : Nat} {e t : TypeId} {a : Option Addr} {c : Nat} {l : List α} {ops : Array Oper} {rest : List Oper} {o : Oper} {ac : Act} {Q : Exit → Act → World → Prop} (hgd : o.guard = none) (x y : Operand) (ho : o.op = .store t x y) (cs : List Value) (hi : (P.info? t).map (·.size) = some cs.length)
  (h : OwnE E w base e (.slice a l.length c) l) (k j : Nat) (hk : k < l.length) (h1c : ∀ v ∈ cs, v.oneCell' = true) (u : α) (hj : j + cs.length ≤ E.sz) (hu : E.c u = (E.c (nth l k)).take j ++ cs ++ (E.c (nth l k)).drop (j + cs.length)) (hx : ac.eval x = .pointer (some ⟨blk a, ofs a + (k * E.sz + j), none⟩)) (hy : ac.eval y = .agg cs.toArray)
  (hK : ∀ w', OwnE E w' base e (.slice a l.length c) (l.set k u) → w.grownBy w' (Value.slice a l.length c).ownBlock → wpList P ops Q rest (ac.put o.dst undef) w') : wpList P ops Q (o :: rest) ac w := by
 obtain ⟨h1, ⟨h9, h2⟩ | ⟨g, cap, cur, hv, hg, hh, hc, hm, hsz, htk⟩⟩ := h
 ·omega
 simp only [Value.slice.injEq] at hv
 obtain ⟨rfl, -, rfl⟩ := hv
 have hx' : ac.eval x = .pointer (some ⟨g, k * E.sz + j, none⟩) := by rw [hx]; simp [blk, ofs]
 have hlc : l.length * E.sz ≤ c * E.sz := Nat.mul_le_mul_right _ hc
 have hks : k * E.sz + E.sz ≤ l.length * E.sz := by rw [← Nat.succ_mul]; exact Nat.mul_le_mul_right _ hk
 have hst := run_storeCells_at P g (k * E.sz + j) e cs 0 cur w hh (by rw [hsz]; omega) h1c
 simp only [Nat.add_zero] at hst
 refine wpList_plain hgd fun K hK' => ?_
 cases hq : P.info? t with
 | none => simp [hq] at hi
 | some i =>
   have hs : i.size = cs.length := by simpa [hq] using hi
   unfold Oper.wp execOp
   simp only [ho, hx', hy, Instr.storeAt, Instr.sureAddr, Sem.run_bind, Sem.run_pure, Result.andThen_ok]
   simp [storeVar, sizeOf, typeInfo, hq, Value.cells, hs, hst]
   have hO := OwnE.row (E := E) (w := w.setRow g (cur.toList.take (k * E.sz + j) ++ cs ++ cur.toList.drop (k * E.sz + j + cs.length)).toArray) (base := base) (l := l.set k u) hg (setRow_heap w g cur _ e _ hh) (cap := c) (by rw [List.length_set]; exact hc) hm (by simp only [List.size_toArray, List.length_append, List.length_take, List.length_drop, Array.length_toList, hsz]; omega) (by
    rw [List.length_set]
    exact flat_part (L := cur.toList) hk hj hu (by have h5 : cur.toList.length = c * E.sz := hsz; rw [h5]; exact hlc) htk)
   rw [List.length_set] at hO
   have := hK _ hO (grownBy_setRow _ _ _)
   refine hK' _ _ ?_
   simpa using this
end
end Go.Dfl
end
section
namespace Go.Proofs.YtnklnklkblgnfaaGreatDoor
open Go.RowKit Go.Dfl Go.Obs Go.Hir
theorem sVa : SliceOf Tryz.prog 51 50 (.agg #[.int .i64 0, .int .i64 0, .int .i64 0]) 3 24 := ⟨Tryz.underlying51, info_parts (P := Tryz.prog) (e := 50) (by kernel_rfl)⟩
theorem sFr : SliceOf Tryz.prog 62 69 (.agg #[.int .i64 0, .int .i64 0, .int .i64 0, .int .i64 0, .slice none 0 0, .int .i64 0, .int .i64 0, .int .i64 0]) 8 80 := ⟨Tryz.underlying62, info_parts (P := Tryz.prog) (e := 69) (by kernel_rfl)⟩
theorem sOj : SliceOf Tryz.prog 61 102 (.agg #[.string .empty, .slice none 0 0]) 2 40 := ⟨Tryz.underlying61, info_parts (P := Tryz.prog) (e := 102) (by kernel_rfl)⟩
theorem sSo : SliceOf Tryz.prog 100 125 (.agg #[.string .empty, .int .i64 0, .int .i64 0, .int .i64 0]) 4 40 := ⟨Tryz.underlying100, info_parts (P := Tryz.prog) (e := 125) (by kernel_rfl)⟩
theorem sOb5 : SliceOf Tryz.prog 30 53 (.agg #[.int .i64 0, .int .i64 0, .int .i64 0, .int .i64 0, .slice none 0 0]) 5 56 := ⟨Tryz.underlying30, info_parts (P := Tryz.prog) (e := 53) (by kernel_rfl)⟩
theorem OwnE.reads {α : Type} [Inhabited α] {E : El α} {Z : World} {B : Nat} {e t : TypeId} {s : Sl} {l : List α} {P : Program} {z : Value} {by8 : Nat} (h : OwnE E Z B e s.v l) (ht : SliceOf P t e z E.sz by8) :
  (∀ x : Int, 0 ≤ x → x < l.length → ∀ W, (Instr.indexAt t s.v (.int .i64 x)).run P W = .ok (.pointer (some ⟨blk s.a, ofs s.a + x.toNat * E.sz, none⟩)) W) ∧ ∀ k, k < l.length → ∀ j v, (E.c (nth l k))[j]? = some v → Z.cell? ⟨blk s.a, ofs s.a + k * E.sz + j, none⟩ = some v := by
 have hn := shapeV h
 obtain ⟨a, c, he, -, h1, h2, -⟩ := (OwnE.sliced h).outN ht E.pos
 unfold Sl.v at he
 injection he with e1 e2 e3
 subst e1 e3
 refine ⟨fun x h0 hl W => ?_, fun k hk j v hv => ?_⟩
 ·unfold Sl.v; rw [hn]; exact h1 .i64 x h0 hl W
 ·have hj : j < (E.c (nth l k)).length := (List.getElem?_eq_some_iff.1 hv).1
  rw [E.len] at hj
  rw [h2 k hk j hj, hv]; rfl
section
variable {B : Nat} {W0 : World} {u : Un} {v0 v1 : Value} {b : Nat} {y : Ly} {m : Mch} {Z : World}
theorem MM.rdF (h : MM B W0 u v0 v1 b y m Z) :
  (∀ x : Int, 0 ≤ x → x < m.fr.length → ∀ W, (Instr.indexAt 62 (.slice y.fs.a y.fs.n y.fs.c) (.int .i64 x)).run Tryz.prog W = .ok (.pointer (some ⟨blk y.fs.a, ofs y.fs.a + x.toNat * 8, none⟩)) W) ∧
  ∀ k, k < m.fr.length → Z.cell? ⟨blk y.fs.a, ofs y.fs.a + k * 8, none⟩ = some (.int .i64 ((nth m.fr k).f : Int)) ∧ Z.cell? ⟨blk y.fs.a, ofs y.fs.a + k * 8 + 1, none⟩ = some (.int .i64 ((nth m.fr k).i : Int)) ∧ Z.cell? ⟨blk y.fs.a, ofs y.fs.a + k * 8 + 2, none⟩ = some (.int .i64 (nth m.fr k).no) ∧ Z.cell? ⟨blk y.fs.a, ofs y.fs.a + k * 8 + 3, none⟩ = some (.int .i64 (nth m.fr k).cl) ∧ Z.cell? ⟨blk y.fs.a, ofs y.fs.a + k * 8 + 4, none⟩ = some (.slice (nth y.fv k).a (nth y.fv k).n (nth y.fv k).c) ∧
   Z.cell? ⟨blk y.fs.a, ofs y.fs.a + k * 8 + 5, none⟩ = some (.int .i64 (nth m.fr k).ex.k) ∧ Z.cell? ⟨blk y.fs.a, ofs y.fs.a + k * 8 + 6, none⟩ = some (.int .i64 (nth m.fr k).ex.n) ∧ Z.cell? ⟨blk y.fs.a, ofs y.fs.a + k * 8 + 7, none⟩ = some (.int .i64 (nth m.fr k).ex.s) := by
 obtain ⟨h1, h2⟩ := OwnE.reads h.fr sFr
 rw [frs_len] at h1 h2
 refine ⟨h1, fun k hk => ?_⟩
 have h3 := h2 k hk
 rw [nth_frs hk] at h3
 exact ⟨h3 0 _ rfl, h3 1 _ rfl, h3 2 _ rfl, h3 3 _ rfl, h3 4 _ rfl, h3 5 _ rfl, h3 6 _ rfl, h3 7 _ rfl⟩
theorem MM.rdV (h : MM B W0 u v0 v1 b y m Z) {k : Nat} (hk : k < m.fr.length) :
  (∀ x : Int, 0 ≤ x → x < (nth m.fr k).vs.length → ∀ W, (Instr.indexAt 51 (.slice (nth y.fv k).a (nth y.fv k).n (nth y.fv k).c) (.int .i64 x)).run Tryz.prog W = .ok (.pointer (some ⟨blk (nth y.fv k).a, ofs (nth y.fv k).a + x.toNat * 3, none⟩)) W) ∧
  ∀ j, j < (nth m.fr k).vs.length → Z.cell? ⟨blk (nth y.fv k).a, ofs (nth y.fv k).a + j * 3, none⟩ = some (.int .i64 (nth (nth m.fr k).vs j).k) ∧ Z.cell? ⟨blk (nth y.fv k).a, ofs (nth y.fv k).a + j * 3 + 1, none⟩ = some (.int .i64 (nth (nth m.fr k).vs j).n) ∧ Z.cell? ⟨blk (nth y.fv k).a, ofs (nth y.fv k).a + j * 3 + 2, none⟩ = some (.int .i64 (nth (nth m.fr k).vs j).s) := by
 obtain ⟨h1, h2⟩ := OwnE.reads (h.own (.fv k) hk).1 sVa
 exact ⟨h1, fun j hj => ⟨h2 j hj 0 _ rfl, h2 j hj 1 _ rfl, h2 j hj 2 _ rfl⟩⟩
theorem MM.nV (h : MM B W0 u v0 v1 b y m Z) {k : Nat} (hk : k < m.fr.length) : (nth y.fv k).n = (nth m.fr k).vs.length := shapeV (h.own (.fv k) hk).1
theorem MM.nS (h : MM B W0 u v0 v1 b y m Z) {k : Nat} (hk : k < m.hp.length) : (nth y.sv k).n = (nth m.hp k).sl.length := shapeV (h.own (.sl k) hk).1
theorem MM.rdO (h : MM B W0 u v0 v1 b y m Z) :
  (∀ x : Int, 0 ≤ x → x < m.hp.length → ∀ W, (Instr.indexAt 61 (.slice y.hs.a y.hs.n y.hs.c) (.int .i64 x)).run Tryz.prog W = .ok (.pointer (some ⟨blk y.hs.a, ofs y.hs.a + x.toNat * 2, none⟩)) W) ∧
  ∀ k, k < m.hp.length → Z.cell? ⟨blk y.hs.a, ofs y.hs.a + k * 2, none⟩ = some (.string (nth m.hp k).c) ∧ Z.cell? ⟨blk y.hs.a, ofs y.hs.a + k * 2 + 1, none⟩ = some (.slice (nth y.sv k).a (nth y.sv k).n (nth y.sv k).c) := by
 obtain ⟨h1, h2⟩ := OwnE.reads h.hp sOj
 rw [hps_len] at h1 h2
 refine ⟨h1, fun k hk => ?_⟩
 have h3 := h2 k hk
 rw [nth_hps hk] at h3
 exact ⟨h3 0 _ rfl, h3 1 _ rfl⟩
end
end Go.Proofs.YtnklnklkblgnfaaGreatDoor
end
section
namespace Go
theorem results_one {fn : Func} {p : Tmp} {ty : TypeId} (h : fn.results = #[.cell p ty]) (tmps : Array Value) (P : Program) (w : World) :
  (results fn tmps).run P w = ((asAddr (tmps.getD p undef)).run P w).andThen fun a w₁ => (loadVar ty a).run P w₁ := by
 simp only [results, h]
 simp [Sem.run_bind, Result.andThen]
 try (cases (asAddr (tmps.getD p undef)).run P w <;> rfl)
end Go
namespace Go.Proofs.YtnklnklkblgnfaaGreatDoor
open Go.RowKit Go.Dfl Go.Obs Go.Hir
open Go.Gra (gen_code gen_calls)
abbrev vlV (x : Vl) : Value := .agg #[.int .i64 x.k, .int .i64 x.n, .int .i64 x.s]
set_option maxHeartbeats 1600000 in
theorem rInteger_any (n : Int) (W : World) : Calls Tryz.prog 52 #[.int .i64 n] W fun e W' => e = .returned (vlV ⟨1, n, 0⟩) ∧ Below W.heap.size W W' := by
 go_enter Tryz.func52, Tryz.ntmps52
 go_wp2_with fail
 (try simp only [Exit.inBlock, Exit.then])
 refine bodyPost_ret (v := vlV ⟨1, n, 0⟩) (by rw [results_one rfl]; go_simp; try rfl) rfl ?_
 exact ⟨rfl, (Below.refl _ _).alloc (Nat.le_refl _) _⟩
theorem store3 {Z : World} {b : Nat} {z0 z1 z2 y0 y1 y2 : Value} {t : TypeId} (h : Z.heap[b]? = some (.cells #[z0, z1, z2] t)) :
  (Z.cell? ⟨b, 0, none⟩ = some z0 ∧ Z.cell? ⟨b, 1, none⟩ = some z1 ∧ Z.cell? ⟨b, 2, none⟩ = some z2 ∧ ∀ j, Z.frozen? ⟨b, j, none⟩ = false) ∧
  (fkC b [y0, y1, y2]).p (((Z.setCell ⟨b, 0, none⟩ y0).setCell ⟨b, 1, none⟩ y1).setCell ⟨b, 2, none⟩ y2) ∧
  Z.grownBy (((Z.setCell ⟨b, 0, none⟩ y0).setCell ⟨b, 1, none⟩ y1).setCell ⟨b, 2, none⟩ y2) (some b) := by
 have h1 := heap_setCell_same Z b 0 _ _ y0 h
 have h2 := heap_setCell_same _ b 1 _ _ y1 h1
 have h3 := heap_setCell_same _ b 2 _ _ y2 h2
 refine ⟨⟨by simp [World.cell?, h], by simp [World.cell?, h], by simp [World.cell?, h], fun j => by simp [World.frozen?, h]⟩, fun i v hi => ?_, grownBy_trans (grownBy_trans (grownBy_setCell _ _ _) (grownBy_setCell _ _ _)) (grownBy_setCell _ _ _)⟩
 match i, hi with
 | 0, hi => simp at hi; subst hi; simp [World.cell?, h3]
 | 1, hi => simp at hi; subst hi; simp [World.cell?, h3]
 | 2, hi => simp at hi; subst hi; simp [World.cell?, h3]
 | i + 3, hi => simp at hi
set_option maxHeartbeats 1600000 in
theorem rZero_any (t : ByteArray) (W : World) : Calls Tryz.prog 46 #[.string t] W fun e W' => e = .returned (vlV (zV t)) ∧ Below W.heap.size W W' := by
 have HE := Lib.hid (((Env.refl W).below ((Below.refl _ _).alloc (Nat.le_refl _) (.cells #[.int .i64 0, .int .i64 0, .int .i64 0] 50))).add (q := fkH W.heap.size (.cells #[.int .i64 0, .int .i64 0, .int .i64 0] 50)) (heap_alloc_new _ _))
 by_cases ht : t = tI
 ·have t1 : (t.toList == [105, 110, 116]) = true := tl_lit ht
  have HT := Lib.hid (show zV t = ⟨1, 0, 0⟩ by unfold zV; rw [if_pos ht])
  clear ht
  go_enter Tryz.func46, Tryz.ntmps46
  go_wp2_with fail
  refine (rInteger_any 0 _).mono ?_
  rintro e W1 ⟨rfl, b1⟩
  have H1 := Lib.hid (HE.out.below b1)
  have hN : W1.heap[W.heap.size]? = some (.cells #[.int .i64 0, .int .i64 0, .int .i64 0] 50) := H1.out.fact 0 rfl
  clear b1
  obtain ⟨⟨z0, z1, z2, zf⟩, hC, hG⟩ := store3 (y0 := (.int .i64 1)) (y1 := (.int .i64 0)) (y2 := (.int .i64 0)) hN
  have f0 := zf 0
  have f1 := zf 1
  have f2 := zf 2
  have HG := Lib.hid (And.intro hC hG)
  clear hC hG zf
  go_wp2_with fail
  (try simp only [Exit.inBlock, Exit.then])
  refine bodyPost_ret (v := (vlV ⟨1, 0, 0⟩)) (by rw [results_one rfl]; go_simp; try rfl) rfl ?_
  exact ⟨by rw [HT.out], H1.out.bel.grown HG.out.2 H1.out.bel.size (fun q e => by injection e with e; omega)⟩
 ·have t1 : (t.toList == [105, 110, 116]) = false := tl_litn ht
  have HT := Lib.hid (show zV t = ⟨2, 0, 0⟩ by unfold zV; rw [if_neg ht])
  clear ht
  go_enter Tryz.func46, Tryz.ntmps46
  go_wp2_with fail
  (try simp only [Exit.inBlock, Exit.then])
  refine bodyPost_ret (v := (vlV ⟨2, 0, 0⟩)) (by rw [results_one rfl]; go_simp; try rfl) rfl ?_
  exact ⟨by rw [HT.out], (Below.refl _ _).alloc (Nat.le_refl _) _⟩
set_option maxHeartbeats 1600000 in
theorem rEqual_any (x y : Vl) (W : World) : Calls Tryz.prog 53 #[vlV x, vlV y] W fun e W' => e = .returned (.int .i64 (eqV x y)) ∧ Below W.heap.size W W' := by
 have HB := Lib.hid (((Below.refl W.heap.size W).alloc (Nat.le_refl _) (.cells #[.int .i64 x.k, .int .i64 x.n, .int .i64 x.s] 50)).alloc (by rw [World.size_alloc]; omega) (.cells #[.int .i64 y.k, .int .i64 y.n, .int .i64 y.s] 50))
 by_cases h1 : x.k = y.k
 case neg =>
  have t1 : (x.k == y.k) = false := by simpa using h1
  have HT := Lib.hid (show eqV x y = 0 by unfold eqV; rw [if_neg fun h => h1 h.1])
  clear h1
  go_enter Tryz.func53, Tryz.ntmps53
  go_wp2_with fail
  go_ret
  exact ⟨by rw [HT.out]; try rfl, HB.out⟩
 have t1 : (x.k == y.k) = true := by simpa using h1
 by_cases h2 : x.k = 2
 ·have t2 : (x.k == 2) = true := by simpa using h2
  have HT := Lib.hid (show eqV x y = 1 by unfold eqV; rw [if_pos ⟨h1, .inl h2⟩])
  clear h1 h2
  go_enter Tryz.func53, Tryz.ntmps53
  go_wp2_with fail
  go_ret
  exact ⟨by rw [HT.out]; try rfl, HB.out⟩
 have t2 : (x.k == 2) = false := by simpa using h2
 by_cases h3 : x.n = y.n
 ·have t3 : (x.n == y.n) = true := by simpa using h3
  have HT := Lib.hid (show eqV x y = 1 by unfold eqV; rw [if_pos ⟨h1, .inr h3⟩])
  clear h1 h2 h3
  go_enter Tryz.func53, Tryz.ntmps53
  go_wp2_with fail
  go_ret
  exact ⟨by rw [HT.out]; try rfl, HB.out⟩
 ·have t3 : (x.n == y.n) = false := by simpa using h3
  have HT := Lib.hid (show eqV x y = 0 by unfold eqV; rw [if_neg fun h => h.2.elim h2 h3])
  clear h1 h2 h3
  go_enter Tryz.func53, Tryz.ntmps53
  go_wp2_with fail
  go_ret
  exact ⟨by rw [HT.out]; try rfl, HB.out⟩
set_option maxHeartbeats 1600000 in
theorem rFu13_any (u : Un) (v0 v1 : Value) (n : Int) (c m : ByteArray) (W : World) (h0 : InS vCl W v0 u.cs) (h : InS vFu W v1 u.fs) : Calls Tryz.prog 48 #[.agg #[v0, v1, .int .i64 n], .string c, .string m] W fun e W' => e = .returned (.int .i64 (fuI u.fs c m)) ∧ Below W.heap.size W W' := by
 have h' := h
 obtain ⟨ha, hc, rfl⟩ := h0.shape
 obtain ⟨fa, fc, rfl⟩ := h'.shape
 have HE := Lib.hid (((Env.refl W).alloc [.slice ha u.cs.length hc, .slice fa u.fs.length fc, .int .i64 n] 27))
 go_enter Tryz.func48, Tryz.ntmps48
 go_wp2_with fail
 refine (rFu_any u.fs _ _ n c m _ (h.below HE.out.bel)).mono ?_
 rintro e W1 ⟨rfl, b1⟩
 have H1 := Lib.hid (HE.out.below b1)
 clear b1
 go_wp2_with fail
 go_ret
 exact ⟨rfl, H1.out.bel⟩
set_option maxHeartbeats 1600000 in
theorem rCheck13_any (u : Un) (v0 v1 : Value) (W : World) (h : UnIn W v0 v1 u) (hw : UnW u) : Calls Tryz.prog 10 #[unV u v0 v1] W (CheckR u W) := by
 have h0 := h.1
 have h1 := h.2
 obtain ⟨ha, hc, rfl⟩ := h0.shape
 obtain ⟨fa, fc, rfl⟩ := h1.shape
 have HE := Lib.hid (((Env.refl W).alloc [.slice ha u.cs.length hc, .slice fa u.fs.length fc, .int .i64 u.mn] 27))
 unfold unV
 go_enter Tryz.func10, Tryz.ntmps10
 go_wp2_with fail
 refine (rCheck12_any u _ _ _ (h.below HE.out.bel) hw).mono ?_
 rintro e W1 ⟨i, j, n, rfl, hn, b1⟩
 have H1 := Lib.hid (And.intro (HE.out.below b1) hn)
 clear b1 hn
 go_wp2_with fail
 go_ret3
 exact ⟨i, j, n, rfl, H1.out.2, H1.out.1.bel⟩
set_option maxHeartbeats 1600000 in
theorem rBin_any (op a b : Int) (W : World) : Calls Tryz.prog 54 #[.int .i64 op, .int .i64 a, .int .i64 b] W fun e W' => ∃ n : Int, e = .returned (.tuple #[.int .i64 (binV op a b), .int .i64 n]) ∧ W = W' := by
 by_cases h : op = 1
 ·subst h
  have HT := Lib.hid (show binV 1 a b = IntKind.i64.wrap (a + b) from rfl)
  go_enter Tryz.func54, Tryz.ntmps54
  go_wp2_with fail
  go_ret2
  exact ⟨0, by rw [HT.out, IntWalk.i64_left]; try rfl, rfl⟩
 by_cases h : op = 2
 ·subst h
  have HT := Lib.hid (show binV 2 a b = IntKind.i64.wrap (a - b) from rfl)
  go_enter Tryz.func54, Tryz.ntmps54
  go_wp2_with fail
  go_ret2
  exact ⟨0, by rw [HT.out, IntWalk.i64_left]; try rfl, rfl⟩
 by_cases h : op = 3
 ·subst h
  have HT := Lib.hid (show binV 3 a b = IntKind.i64.wrap (a * b) from rfl)
  go_enter Tryz.func54, Tryz.ntmps54
  go_wp2_with fail
  go_ret2
  exact ⟨0, by rw [HT.out, IntWalk.i64_left]; try rfl, rfl⟩
 rename_i n1 n2
 have t1 : (op == 1) = false := by simpa using n1
 have t2 : (op == 2) = false := by simpa using n2
 have t3 : (op == 3) = false := by simpa using h
 have hbv : binV op a b = if op = 4 ∧ a < b ∨ op = 5 ∧ a = b then 1 else 0 := by unfold binV; rw [if_neg n1, if_neg n2, if_neg h]
 clear n1 n2 h
 by_cases h4 : op = 4
 ·subst h4
  clear t1 t2 t3
  by_cases hab : a < b
  ·have t5 : decide (a < b) = true := decide_eq_true hab
   have HT := Lib.hid (show binV 4 a b = 1 by rw [hbv, if_pos (.inl ⟨rfl, hab⟩)])
   clear hbv hab
   go_enter Tryz.func54, Tryz.ntmps54
   go_wp2_with fail
   go_ret2
   exact ⟨0, by rw [HT.out]; try rfl, rfl⟩
  ·have t5 : decide (a < b) = false := decide_eq_false hab
   have HT := Lib.hid (show binV 4 a b = 0 by rw [hbv, if_neg (by rintro (⟨-, h⟩ | ⟨h, -⟩); exact hab h; omega)])
   clear hbv hab
   go_enter Tryz.func54, Tryz.ntmps54
   go_wp2_with fail
   go_ret2
   exact ⟨0, by rw [HT.out]; try rfl, rfl⟩
 by_cases h5 : op = 5
 ·subst h5
  clear t1 t2 t3
  by_cases hab : a = b
  ·have t5 : (a == b) = true := by simpa using hab
   have HT := Lib.hid (show binV 5 a b = 1 by rw [hbv, if_pos (.inr ⟨rfl, hab⟩)])
   clear hbv hab
   go_enter Tryz.func54, Tryz.ntmps54
   go_wp2_with fail
   go_ret2
   exact ⟨0, by rw [HT.out]; try rfl, rfl⟩
  ·have t5 : (a == b) = false := by simpa using hab
   have HT := Lib.hid (show binV 5 a b = 0 by rw [hbv, if_neg (by rintro (⟨h, -⟩ | ⟨-, h⟩); omega; exact hab h)])
   clear hbv hab
   go_enter Tryz.func54, Tryz.ntmps54
   go_wp2_with fail
   go_ret2
   exact ⟨0, by rw [HT.out]; try rfl, rfl⟩
 have t4 : (op == 4) = false := by simpa using h4
 have t4b : (op != 4) = true := by simpa using h4
 have t5 : (op == 5) = false := by simpa using h5
 have t5b : (op != 5) = true := by simpa using h5
 have HT := Lib.hid (show binV op a b = 0 by rw [hbv, if_neg (by rintro (⟨h, -⟩ | ⟨h, -⟩); exact h4 h; exact h5 h)])
 clear hbv h4 h5
 go_enter Tryz.func54, Tryz.ntmps54
 go_wp2_with fail
 go_ret2
 exact ⟨12, by rw [HT.out]; try rfl, rfl⟩
end Go.Proofs.YtnklnklkblgnfaaGreatDoor
end
section
namespace Go.Proofs.YtnklnklkblgnfaaGreatDoor
open Go.RowKit Go.Dfl Go.Obs Go.Hir
open Go.Gra (gen_code gen_calls)
section
variable {B : Nat} {W0 : World} {u : Un} {v0 v1 : Value} {b : Nat} {y : Ly} {m : Mch} {Z : World}
theorem MM.rdT (h : MM B W0 u v0 v1 b y m Z) (hp : 0 < m.fr.length) :
  Z.cell? ⟨blk y.fs.a, ofs y.fs.a + tpN m * 8, none⟩ = some (.int .i64 ((tp m).f : Int)) ∧ Z.cell? ⟨blk y.fs.a, ofs y.fs.a + tpN m * 8 + 1, none⟩ = some (.int .i64 ((tp m).i : Int)) ∧ Z.cell? ⟨blk y.fs.a, ofs y.fs.a + tpN m * 8 + 2, none⟩ = some (.int .i64 (tp m).no) ∧ Z.cell? ⟨blk y.fs.a, ofs y.fs.a + tpN m * 8 + 3, none⟩ = some (.int .i64 (tp m).cl) ∧ Z.cell? ⟨blk y.fs.a, ofs y.fs.a + tpN m * 8 + 4, none⟩ = some (.slice (nth y.fv (tpN m)).a (nth y.fv (tpN m)).n (nth y.fv (tpN m)).c) ∧
   Z.cell? ⟨blk y.fs.a, ofs y.fs.a + tpN m * 8 + 5, none⟩ = some (.int .i64 (tp m).ex.k) ∧ Z.cell? ⟨blk y.fs.a, ofs y.fs.a + tpN m * 8 + 6, none⟩ = some (.int .i64 (tp m).ex.n) ∧ Z.cell? ⟨blk y.fs.a, ofs y.fs.a + tpN m * 8 + 7, none⟩ = some (.int .i64 (tp m).ex.s) :=
 h.rdF.2 (tpN m) (by unfold tpN; omega)
theorem MM.rdW (h : MM B W0 u v0 v1 b y m Z) (hp : 0 < m.fr.length) :
  (∀ x : Int, 0 ≤ x → x < (tp m).vs.length → ∀ W, (Instr.indexAt 51 (.slice (nth y.fv (tpN m)).a (nth y.fv (tpN m)).n (nth y.fv (tpN m)).c) (.int .i64 x)).run Tryz.prog W = .ok (.pointer (some ⟨blk (nth y.fv (tpN m)).a, ofs (nth y.fv (tpN m)).a + x.toNat * 3, none⟩)) W) ∧
  ∀ j, j < (tp m).vs.length → Z.cell? ⟨blk (nth y.fv (tpN m)).a, ofs (nth y.fv (tpN m)).a + j * 3, none⟩ = some (.int .i64 (nth (tp m).vs j).k) ∧ Z.cell? ⟨blk (nth y.fv (tpN m)).a, ofs (nth y.fv (tpN m)).a + j * 3 + 1, none⟩ = some (.int .i64 (nth (tp m).vs j).n) ∧ Z.cell? ⟨blk (nth y.fv (tpN m)).a, ofs (nth y.fv (tpN m)).a + j * 3 + 2, none⟩ = some (.int .i64 (nth (tp m).vs j).s) :=
 h.rdV (k := tpN m) (by unfold tpN; omega)
theorem MM.mno (h : MM B W0 u v0 v1 b y m Z) {q : Nat} (hq : y.rl q = .no) : q ≠ b := fun e => by have := h.rb; rw [← e, hq] at this; cases this
end
set_option maxHeartbeats 1600000 in
theorem rTop_any {B : Nat} {W0 : World} {u : Un} {v0 v1 : Value} {b : Nat} {y : Ly} {m : Mch} {Z : World} (h : MM B W0 u v0 v1 b y m Z) (hp : 0 < m.fr.length) (hd : m.fr.length ≤ 64) :
  Calls Tryz.prog 12 #[.pointer (some ⟨b, 0, none⟩)] Z fun e Z' => e = .returned (.pointer (some ⟨blk y.fs.a, ofs y.fs.a + tpN m * 8, none⟩)) ∧ Below Z.heap.size Z Z' := by
 have h5 := h.bx 5 _ rfl
 have hn := h.nF
 obtain ⟨hi, -⟩ := h.rdF
 have hkl : tpN m < m.fr.length := by unfold tpN; omega
 have hkn : tpN m + 1 = m.fr.length := by unfold tpN; omega
 have j1 := hi (tpN m : Int) (by omega) (by omega)
 rw [Int.toNat_natCast] at j1
 unfold Sl.v at h5
 obtain ⟨k, hk⟩ : ∃ k, k = tpN m := ⟨_, rfl⟩
 rw [← hk] at j1 hkl hkn ⊢
 rw [← hn] at hkl hkn hd hp
 generalize y.fs.a = fa at *
 generalize y.fs.n = fn at *
 generalize y.fs.c = fc at *
 have w1 : IntKind.i64.wrap ((fn : Int) - 1) = (k : Int) := by rw [IntWalk.i64_in _ (by omega)]; omega
 have w2 : (fn : Int) - 1 = (k : Int) := by omega
 clear hi hk hn h
 go_enter Tryz.func12, Tryz.ntmps12
 go_wp2_with fail
 go_quiet (fail)
 go_wp2_with fail
 go_ret
 exact ⟨rfl, qt_below (Qt.drewN _ _)⟩
theorem fu_at {W0 : World} {u : Un} {v1 : Value} (h : InS vFu W0 v1 u.fs) {f : Nat} (hf : f < u.fs.length) :
  ∃ (fa : Option Addr) (fc : Nat) (wa : Option Addr) (wc : Nat) (xa : Option Addr) (xc : Nat), v1 = .slice fa u.fs.length fc ∧ u.fs.length ≤ 9223372036854775807 ∧
   (∀ W, (Instr.indexAt 25 (.slice fa u.fs.length fc) (.int .i64 (f : Int))).run Tryz.prog W = .ok (.pointer (some ⟨blk fa, ofs fa + f * 7, none⟩)) W) ∧
   (InS vVd W0 (.slice wa (nth u.fs f).vs.length wc) (nth u.fs f).vs ∧ InS vIs W0 (.slice xa (nth u.fs f).cd.length xc) (nth u.fs f).cd) ∧
   ∀ Z, Below W0.heap.size W0 Z → Z.cell? ⟨blk fa, ofs fa + f * 7 + 4, none⟩ = some (.slice wa (nth u.fs f).vs.length wc) ∧ Z.cell? ⟨blk fa, ofs fa + f * 7 + 6, none⟩ = some (.slice xa (nth u.fs f).cd.length xc) := by
 obtain ⟨fa, fc, rfl, hl, hi, hc⟩ := InS.fu h
 obtain ⟨-, v4, v6, ⟨-, -, -, -, hv, hx⟩, hz⟩ := hc f hf
 obtain ⟨wa, wc, rfl⟩ := hv.shape
 obtain ⟨xa, xc, rfl⟩ := hx.shape
 refine ⟨fa, fc, wa, wc, xa, xc, rfl, hl, fun W => ?_, ⟨hv, hx⟩, fun Z hZ => ⟨(hz Z hZ).2.2.2.2.1, (hz Z hZ).2.2.2.2.2.2⟩⟩
 have := hi (f : Int) (by omega) (by omega) W
 rw [Int.toNat_natCast] at this; exact this
set_option maxHeartbeats 3200000 in
set_option maxRecDepth 4000 in
theorem rRead_any {W0 : World} {u : Un} {v0 v1 : Value} {b : Nat} {y : Ly} {m : Mch} {Z : World} (h : MM W0.heap.size W0 u v0 v1 b y m Z) (hp : 0 < m.fr.length) (hd : m.fr.length ≤ 64) (hu : InS vFu W0 v1 u.fs) (hf : (tp m).f < u.fs.length) {v : Int} (hv0 : 0 ≤ v) (hv1 : v < (tp m).vs.length) (hv2 : v < (fnOf u (tp m)).vs.length) :
  Calls Tryz.prog 28 #[.pointer (some ⟨b, 0, none⟩), .int .i64 v] Z fun e Z' => e = .returned (vlV (rd u (tp m) v)) ∧ Below Z.heap.size Z Z' := by
 have HE := Lib.hid (((Env.refl Z).below ((Below.refl _ _).alloc (Nat.le_refl _) (.cells #[.int .i64 0, .int .i64 0, .int .i64 0] 50))).add (q := fkH Z.heap.size (.cells #[.int .i64 0, .int .i64 0, .int .i64 0] 50)) (heap_alloc_new _ _))
 have hv9 : v.toNat < (tp m).vs.length := by omega
 have HC := Lib.hid (And.intro h (And.intro hp (And.intro hd (And.intro hu (And.intro hf (And.intro hv9 hv2))))))
 obtain ⟨ir, -⟩ := h.rdW hp
 have jv := ir v hv0 hv1
 obtain ⟨g, hg⟩ : ∃ g, g = tp m := ⟨_, rfl⟩
 rw [← hg]
 have HG0 := Lib.hid hg
 clear h hp hd hu hf hv1 hv2 ir hv9 hg
 go_enter Tryz.func28, Tryz.ntmps28
 go_wp2_with fail
 refine (rTop_any (HC.out.1.below HE.out.bel) HC.out.2.1 HC.out.2.2.1).mono ?_
 rintro e W1 ⟨rfl, b1⟩
 have H1 := Lib.hid (HE.out.below b1)
 clear b1 HE
 have HM := Lib.hid (HC.out.1.below H1.out.bel)
 obtain ⟨q0, -, -, -, q4, -⟩ := HM.out.rdT HC.out.2.1
 obtain ⟨-, hz⟩ := HM.out.rdW HC.out.2.1
 obtain ⟨r0, r1, r2⟩ := hz v.toNat HC.out.2.2.2.2.2.1
 have hg := HG0.out
 obtain ⟨x, hx⟩ : ∃ x, x = nth g.vs v.toNat := ⟨_, rfl⟩
 obtain ⟨k, hk⟩ : ∃ k, k = tpN m := ⟨_, rfl⟩
 rw [← hg, ← hx, ← hk] at r0 r1 r2
 rw [← hg, ← hk] at q0
 rw [← hk] at q4 jv ⊢
 obtain ⟨s, hs⟩ : ∃ s, s = nth y.fv k := ⟨_, rfl⟩
 rw [← hs] at r0 r1 r2 q4 jv
 have HGX := Lib.hid (And.intro hg hx)
 have hN : W1.heap[Z.heap.size]? = some (.cells #[.int .i64 0, .int .i64 0, .int .i64 0] 50) := H1.out.fact 0 rfl
 have HN := Lib.hid hN
 clear hz hg hx hk hs hN
 by_cases hk0 : x.k = 0
 ·have t0 : (x.k == 0) = true := by simpa using hk0
  obtain ⟨fa, fc, wa, wc, xa, xc, hv1, hFl, jf, ⟨hV, -⟩, hz⟩ := fu_at HC.out.2.2.2.1 (f := g.f) (by rw [HGX.out.1]; exact HC.out.2.2.2.2.1)
  have c1 := HM.out.bx 1 _ rfl
  rw [hv1] at c1
  obtain ⟨p4, -⟩ := hz W1 HM.out.bel
  obtain ⟨jt, zt⟩ := vd_at hV rfl hv0 (by rw [HGX.out.1]; exact HC.out.2.2.2.2.2.2)
  have p1 := zt W1 HM.out.bel
  obtain ⟨t, ht⟩ : ∃ t, t = vty (nth u.fs g.f) v := ⟨_, rfl⟩
  rw [← ht] at p1
  have HT := Lib.hid (show rd u g v = zV t by unfold rd; rw [← HGX.out.2, if_pos hk0, ht]; rfl)
  have HS := Lib.hid (show W1.drew.cell? ⟨b, 1, none⟩ = some (.slice fa u.fs.length fc) ∧ W1.drew.cell? ⟨blk y.fs.a, ofs y.fs.a + k * 8, none⟩ = some (.int .i64 (g.f : Int)) ∧ W1.drew.cell? ⟨blk fa, ofs fa + g.f * 7 + 4, none⟩ = some (.slice wa (nth u.fs g.f).vs.length wc) ∧ W1.drew.cell? ⟨blk wa, ofs wa + v.toNat * 2 + 1, none⟩ = some (.string t) from ⟨c1, q0, p4, p1⟩)
  clear hk0 hv1 hV hz zt ht
  go_upto_region 3 with fail
  clear c1 q0 p4 p1 q4 r0 r1 r2 t0
  refine wp_region_mix [0, 1, 2, 3, 4, 5, 6, 7, 8, 9, 10, 11, 12, 13, 14, 15] [16, 17] (fun w' => w'.cell? ⟨b, 1, none⟩ = some (.slice fa u.fs.length fc) ∧ w'.cell? ⟨blk y.fs.a, ofs y.fs.a + k * 8, none⟩ = some (.int .i64 (g.f : Int)) ∧ w'.cell? ⟨blk fa, ofs fa + g.f * 7 + 4, none⟩ = some (.slice wa (nth u.fs g.f).vs.length wc) ∧ w'.cell? ⟨blk wa, ofs wa + v.toNat * 2 + 1, none⟩ = some (.string t)) (by kernel_rfl) (by kernel_rfl) (by kernel_rfl) HS.out ?_
  repeat (
   refine wpHeads_cons (v := ?_) rfl (Or.inl ⟨by rfl, ?_⟩) ?_
   rotate_left
   ·(intro W hW; obtain ⟨x1, x2, x3, x4⟩ := hW; (try go_simp); try with_reducible rfl)
   simp only [Act.put, List.setIfInBounds_toArray, List.getElem_toArray, List.getElem_cons_zero, List.getElem_cons_succ, List.set_cons_succ, List.set_cons_zero])
  refine wpHeads_nil ?_
  have HED := Lib.hid H1.out.drew
  generalize W1.drew = V at *
  refine wpTails_cons rfl ?_
  go_wp2_with fail
  refine (rZero_any t _).mono ?_
  rintro e W5 ⟨rfl, q5⟩
  have g5 := grownBy_below q5
  have H5 := Lib.hid (HED.out.below q5)
  have hS5 := And.intro (g5.cell HS.out.1 (by simp)) (And.intro (g5.cell HS.out.2.1 (by simp)) (And.intro (g5.cell HS.out.2.2.1 (by simp)) (g5.cell HS.out.2.2.2 (by simp))))
  clear q5 g5
  go_wp2_with fail
  refine tail_mk hS5 ?_
  clear hS5
  refine wpTails_one rfl ?_
  have hN : W5.heap[Z.heap.size]? = some (.cells #[.int .i64 0, .int .i64 0, .int .i64 0] 50) := H5.out.fact 0 rfl
  obtain ⟨⟨z0, z1, z2, zf⟩, hC, hG⟩ := store3 (y0 := (.int .i64 (zV t).k)) (y1 := (.int .i64 (zV t).n)) (y2 := (.int .i64 (zV t).s)) hN
  have f0 := zf 0
  have f1 := zf 1
  have f2 := zf 2
  have HG := Lib.hid (And.intro hC hG)
  clear hC hG zf
  clear hN
  go_wp2_with fail
  refine thenQ_mk ?_
  go_wp2_with fail
  (try simp only [Exit.inBlock, Exit.then])
  refine bodyPost_ret (v := (vlV (zV t))) (by rw [results_one rfl]; go_simp; try rfl) rfl ?_
  exact ⟨by rw [HT.out], H5.out.bel.grown HG.out.2 H5.out.bel.size (fun q e => by injection e with e; omega)⟩
 ·have t0 : (x.k == 0) = false := by simpa using hk0
  have HT := Lib.hid (show rd u g v = x by unfold rd; rw [← HGX.out.2, if_neg hk0])
  have hN := HN.out
  obtain ⟨⟨z0, z1, z2, zf⟩, hC, hG⟩ := store3 (y0 := (.int .i64 x.k)) (y1 := (.int .i64 x.n)) (y2 := (.int .i64 x.s)) hN
  have f0 := zf 0
  have f1 := zf 1
  have f2 := zf 2
  have HG := Lib.hid (And.intro hC hG)
  clear hC hG zf
  clear hN hk0
  go_wp2_with fail
  (try simp only [Exit.inBlock, Exit.then])
  refine bodyPost_ret (v := (vlV x)) (by rw [results_one rfl]; go_simp; try rfl) rfl ?_
  exact ⟨by rw [HT.out], H1.out.bel.grown HG.out.2 H1.out.bel.size (fun q e => by injection e with e; omega)⟩
end Go.Proofs.YtnklnklkblgnfaaGreatDoor
end
section
namespace Go.Proofs.YtnklnklkblgnfaaGreatDoor
open Go.RowKit Go.Dfl Go.Obs Go.Hir
open Go.Gra (gen_code gen_calls)
def Kp (y : Ly) (Z Z' : World) : Prop := Z.heap.size ≤ Z'.heap.size ∧ ∀ q, q < Z.heap.size → y.rl q = .no → Z'.heap[q]? = Z.heap[q]?
section
variable {B : Nat} {W0 : World} {u : Un} {v0 v1 : Value} {b : Nat} {y : Ly} {m : Mch} {Z Z' Z'' : World} {row : Option Nat}
theorem Kp.of (hg : Z.grownBy Z' row) (hr : ∀ q, row = some q → y.rl q ≠ .no) : Kp y Z Z' := ⟨hg.size, fun q hq h0 => hg.block q hq (fun e => hr q e.symm h0)⟩
theorem Kp.trans (h : Kp y Z Z') (k : Kp y Z' Z'') : Kp y Z Z'' := ⟨Nat.le_trans h.1 k.1, fun q hq h0 => (k.2 q (Nat.lt_of_lt_of_le hq h.1) h0).trans (h.2 q hq h0)⟩
theorem Kp.below (hb : Below Z.heap.size Z Z') : Kp y Z Z' := ⟨hb.size, fun q hq _ => hb.block q hq⟩
theorem Kp.cell (h : Kp y Z Z') {q i : Nat} {v : Value} (hq : y.rl q = .no) (hc : Z.cell? ⟨q, i, none⟩ = some v) : Z'.cell? ⟨q, i, none⟩ = some v := by
 rw [World.cell?_of_block (w := Z) (h.2 q (World.block_lt_of_cell? _ _ hc) hq)]; exact hc
theorem Kp.fk (h : Kp y Z Z') {q : Nat} {cs : List Value} (hq : y.rl q = .no) (hc : (fkC q cs).p Z) : (fkC q cs).p Z' := fun i v hi => h.cell hq (hc i v hi)
theorem tpN_up {g : Frm} : tpN (up m g) = tpN m := by unfold tpN; rw [up_ln]
theorem tp_up (hp : 0 < m.fr.length) {g : Frm} : tp (up m g) = g := by
 show nth (up m g).fr (tpN (up m g)) = g
 rw [tpN_up, up_nth hp, if_pos rfl]
theorem up_up {g g' : Frm} : up (up m g) g' = up m g' := by
 have h : ∀ k, ({ up m g with fr := (m.fr.set (tpN m) g).set k g' } : Mch) = { m with fr := (m.fr.set (tpN m) g).set k g' } := fun _ => rfl
 show ({ up m g with fr := (m.fr.set (tpN m) g).set (tpN (up m g)) g' } : Mch) = { m with fr := m.fr.set (tpN m) g' }
 rw [h, tpN_up, List.set_set]
theorem MM.setAt (h : MM B W0 u v0 v1 b y m Z) (hp : 0 < m.fr.length) (i : Nat) :
  (Z.frozen? ⟨blk y.fs.a, ofs y.fs.a + tpN m * 8 + 1, none⟩ = false) ∧ MM B W0 u v0 v1 b y (goN m i) (Z.setCell ⟨blk y.fs.a, ofs y.fs.a + tpN m * 8 + 1, none⟩ (.int .i64 (i : Int))) ∧ Kp y Z (Z.setCell ⟨blk y.fs.a, ofs y.fs.a + tpN m * 8 + 1, none⟩ (.int .i64 (i : Int))) := by
 have hk : tpN m < m.fr.length := by unfold tpN; omega
 have ho := h.fr
 have hn : y.fs.v = .slice y.fs.a (frs m y.fv).length y.fs.c := by unfold Sl.v; rw [h.nF, frs_len]
 rw [hn] at ho
 obtain ⟨h1, h2, h3, -⟩ := OwnE.upd ho (tpN m) 1 (by rw [frs_len]; exact hk) (by show 1 < 8; omega) ⟨((tp m).f : Int), (i : Int), (tp m).no, (tp m).cl, nth y.fv (tpN m), (tp m).ex⟩ (.int .i64 (i : Int)) (by rw [nth_frs hk]; rfl)
 rw [← hn] at h1 h2
 have e : (⟨blk y.fs.a, ofs y.fs.a + (tpN m * elF.sz + 1), none⟩ : Addr) = ⟨blk y.fs.a, ofs y.fs.a + tpN m * 8 + 1, none⟩ := by rw [← Nat.add_assoc]; rfl
 rw [e] at h1 h2 h3
 exact ⟨h3, h.frw (g := { tp m with i := i }) hp rfl h2 h1, Kp.of h2 (fun q e => by rw [(h.own .fr).2 q e]; decide)⟩
end
theorem szV : (Tryz.prog.info? 50).map (·.size) = some 3 := by kernel_rfl
set_option maxHeartbeats 3200000 in
set_option maxRecDepth 4000 in
theorem rSet_any {W0 : World} {u : Un} {v0 v1 : Value} {b : Nat} {y : Ly} {m : Mch} {Z : World} (h : MM W0.heap.size W0 u v0 v1 b y m Z) (hp : 0 < m.fr.length) (hd : m.fr.length ≤ 64) {v : Int} (hv0 : 0 ≤ v) (hv1 : v < (tp m).vs.length) (hi : (tp m).i ≤ 1048576) (x : Vl) :
  Calls Tryz.prog 34 #[.pointer (some ⟨b, 0, none⟩), .int .i64 v, vlV x] Z fun e Z' => e = .returned (.tuple #[]) ∧ MM W0.heap.size W0 u v0 v1 b y (setV m v x) Z' ∧ Kp y Z Z' := by
 have HE := Lib.hid ((Env.refl Z).alloc [.int .i64 x.k, .int .i64 x.n, .int .i64 x.s] 50)
 have hv9 : v.toNat < (tp m).vs.length := by omega
 obtain ⟨ir, -⟩ := h.rdW hp
 have jv := ir v hv0 hv1
 have HC := Lib.hid (And.intro h (And.intro hp (And.intro hd (And.intro hv9 hi))))
 clear h hp hd hv1 ir hv9 hi
 go_enter Tryz.func34, Tryz.ntmps34
 go_wp2_with fail
 refine (rTop_any (HC.out.1.below HE.out.bel) HC.out.2.1 HC.out.2.2.1).mono ?_
 rintro e W1 ⟨rfl, b1⟩
 have H1 := Lib.hid (HE.out.below b1)
 clear b1 HE
 have HM := Lib.hid (HC.out.1.below H1.out.bel)
 obtain ⟨q0, q1, -, -, q4, -⟩ := HM.out.rdT HC.out.2.1
 obtain ⟨k, hk⟩ : ∃ k, k = tpN m := ⟨_, rfl⟩
 obtain ⟨s, hs⟩ : ∃ s, s = nth y.fv k := ⟨_, rfl⟩
 have hs2 := hs
 rw [hk] at hs2
 obtain ⟨n, hn⟩ : ∃ n, n = s.n := ⟨_, rfl⟩
 have hnl : n = (tp m).vs.length := by rw [hn, hs2]; exact HM.out.nV (by have := HC.out.2.1; unfold tpN; omega)
 have hov := (HM.out.own (.fv (tpN m)) (by have := HC.out.2.1; unfold tpN; omega)).1
 rw [← hs2] at hov
 unfold Sl.v at hov
 rw [← hn, hnl] at hov
 have hov2 : OwnE elV W1 W0.heap.size 50 (.slice s.a (tp m).vs.length s.c) (tp m).vs := hov
 rw [← hk] at q4 jv ⊢
 rw [← hs] at q4 jv
 rw [← hn, hnl] at q4 jv
 have HK := Lib.hid (And.intro hk (And.intro hs2 (And.intro hn hnl)))
 have HO := Lib.hid hov2
 have e0 := H1.out.cell 0 rfl 0 rfl
 have e1 := H1.out.cell 0 rfl 1 rfl
 have e2 := H1.out.cell 0 rfl 2 rfl
 clear q0 q1 hk hs hs2 hn hnl hov hov2
 go_upto_region 2 with fail
 obtain ⟨n, hn⟩ : ∃ n, n = (tp m).vs.length := ⟨_, rfl⟩
 rw [← hn] at q4 jv
 have HS := Lib.hid (show W1.drew.cell? ⟨blk y.fs.a, ofs y.fs.a + k * 8 + 4, none⟩ = some (.slice s.a n s.c) ∧ W1.drew.cell? ⟨Z.heap.size, 0, none⟩ = some (.int .i64 x.k) ∧ W1.drew.cell? ⟨Z.heap.size, 1, none⟩ = some (.int .i64 x.n) ∧ W1.drew.cell? ⟨Z.heap.size, 2, none⟩ = some (.int .i64 x.s) from ⟨q4, e0, e1, e2⟩)
 have HN := Lib.hid hn
 clear q4 e0 e1 e2 hn
 refine wp_region_mix [0, 1, 2, 3, 4, 5, 6] [7] (fun w' => w'.cell? ⟨blk y.fs.a, ofs y.fs.a + k * 8 + 4, none⟩ = some (.slice s.a n s.c) ∧ w'.cell? ⟨Z.heap.size, 0, none⟩ = some (.int .i64 x.k) ∧ w'.cell? ⟨Z.heap.size, 1, none⟩ = some (.int .i64 x.n) ∧ w'.cell? ⟨Z.heap.size, 2, none⟩ = some (.int .i64 x.s)) (by kernel_rfl) (by kernel_rfl) (by kernel_rfl) HS.out ?_
 repeat (
  refine wpHeads_cons (v := ?_) rfl (Or.inl ⟨by rfl, ?_⟩) ?_
  rotate_left
  ·(intro W hW; obtain ⟨x1, x2, x3, x4⟩ := hW; (try go_simp); try with_reducible rfl)
  simp only [Act.put, List.setIfInBounds_toArray, List.getElem_toArray, List.getElem_cons_zero, List.getElem_cons_succ, List.set_cons_succ, List.set_cons_zero])
 refine wpHeads_nil ?_
 refine wpTails_one rfl ?_
 have HMD := Lib.hid (HM.out.below ((Below.refl _ _).drew))
 have HOD := Lib.hid (HO.out.grown (w' := W1.drew) (row := none) (grownBy_drew (grownBy_refl _ _)) (by simp [Value.ownBlock]; cases s.a <;> simp))
 have hkl := HC.out.2.2.2.1
 go_wp2_with (refine wpList_storeP (E := elV) rfl _ _ rfl [.int .i64 x.k, .int .i64 x.n, .int .i64 x.s] szV HOD.out v.toNat 0 hkl (elV.one x) x (by show 0 + 3 ≤ 3; omega) (by rfl) (by rfl) (by rfl) ?_; intro w11 hown hgr; have H11 := Lib.hid (And.intro hown hgr); clear hown hgr)
 obtain ⟨i, hi⟩ : ∃ i, i = (tp m).i := ⟨_, rfl⟩
 have hi9 : i ≤ 1048576 := by rw [hi]; exact HC.out.2.2.2.2
 have hM2 : MM W0.heap.size W0 u v0 v1 b y (up m { tp m with vs := (tp m).vs.set v.toNat x }) w11 := by
  have h1 := H11.out.1
  have h2 := H11.out.2
  have e : (Value.slice s.a (tp m).vs.length s.c) = (nth y.fv (tpN m)).v := by rw [← HK.out.2.1]; unfold Sl.v; rw [← HK.out.2.2.1, ← HK.out.2.2.2]
  rw [e] at h1 h2
  exact HMD.out.fvw HC.out.2.1 h2 h1
 have hK2 : Kp y W1.drew w11 := Kp.of H11.out.2 (fun q e => by
  have h2 := (HMD.out.own (.fv (tpN m)) (by have := HC.out.2.1; unfold tpN; omega)).2 q (by rw [← e, ← HK.out.2.1]; unfold Sl.v; rw [← HK.out.2.2.1, ← HK.out.2.2.2])
  rw [h2]; exact fun e => by cases e)
 have hp2 : 0 < (up m { tp m with vs := (tp m).vs.set v.toNat x }).fr.length := by rw [up_ln]; exact HC.out.2.1
 obtain ⟨-, q1a, -⟩ := hM2.rdT hp2
 obtain ⟨hz, hM3, hK3⟩ := hM2.setAt hp2 (i + 1)
 rw [tpN_up, tp_up HC.out.2.1, ← HK.out.1] at q1a
 rw [tpN_up, ← HK.out.1] at hz hM3 hK3
 have q1 : w11.cell? ⟨blk y.fs.a, ofs y.fs.a + k * 8 + 1, none⟩ = some (.int .i64 (i : Int)) := by rw [hi]; exact q1a
 have hM4 : MM W0.heap.size W0 u v0 v1 b y (setV m v x) (w11.setCell ⟨blk y.fs.a, ofs y.fs.a + k * 8 + 1, none⟩ (.int .i64 ((i + 1 : Nat) : Int))) := by
  have e : goN (up m { tp m with vs := (tp m).vs.set v.toNat x }) (i + 1) = setV m v x := by
   unfold goN setV setG
   rw [tp_up HC.out.2.1, up_up, hi]
  rw [← e]; exact hM3
 have hK4 : Kp y Z (w11.setCell ⟨blk y.fs.a, ofs y.fs.a + k * 8 + 1, none⟩ (.int .i64 ((i + 1 : Nat) : Int))) := ((Kp.below H1.out.drew.bel).trans hK2).trans hK3
 have H4 := Lib.hid (And.intro hM4 hK4)
 clear hM2 hK2 hp2 hM3 hK3 hM4 hK4 hi hkl q1a
 refine thenQ_mk ?_
 go_wp2_with fail
 refine bodyPost_end (v := .tuple #[]) (results_none rfl _ _ _) rfl ?_
 exact ⟨rfl, H4.out⟩
end Go.Proofs.YtnklnklkblgnfaaGreatDoor
end
section
namespace Go.Hir
open Go.Dfl (nth)
open Go.Obs
theorem slF_at {l : List (ByteArray × Vl)} {m : ByteArray} : ∀ (n k p : Nat), k ≤ p → p < k + n → (∀ j, k ≤ j → j < p → (nth l j).1 ≠ m) → (nth l p).1 = m → slF l m n k = p
 | 0, k, p, h1, h2, _, _ => by omega
 | n + 1, k, p, h1, h2, h3, h4 => by
   unfold slF
   by_cases e : k = p
   ·subst e; rw [if_pos h4]
   ·rw [if_neg (h3 k (Nat.le_refl _) (by omega))]
    exact slF_at n (k + 1) p (by omega) (by omega) (fun j h5 h6 => h3 j (by omega) h6) h4
theorem slF_out {l : List (ByteArray × Vl)} {m : ByteArray} : ∀ (n k : Nat), (∀ j, k ≤ j → j < k + n → (nth l j).1 ≠ m) → slF l m n k = 0
 | 0, k, _ => rfl
 | n + 1, k, h => by
   unfold slF
   rw [if_neg (h k (Nat.le_refl _) (by omega))]
   exact slF_out n (k + 1) (fun j h5 h6 => h j (by omega) (by omega))
end Go.Hir
namespace Go.Proofs.YtnklnklkblgnfaaGreatDoor
open Go.RowKit Go.Dfl Go.Obs Go.Hir
open Go.Gra (gen_code gen_calls)
set_option maxHeartbeats 3200000 in
theorem rDispatch_any (u : Un) (v0 v1 : Value) (n : Int) (c m : ByteArray) (W : World) (h : UnIn W v0 v1 u) (hl : u.cs.length ≤ 1000000) : Calls Tryz.prog 49 #[.agg #[v0, v1, .int .i64 n], .string c, .string m] W fun e W' => e = .returned (.int .i64 (dsp u c m)) ∧ Below W.heap.size W W' := by
 have h0 := h.1
 have h1 := h.2
 obtain ⟨ha, hc, rfl⟩ := h0.shape
 obtain ⟨fa, fc, rfl⟩ := h1.shape
 have HE := Lib.hid (((Env.refl W).alloc [.slice ha u.cs.length hc, .slice fa u.fs.length fc, .int .i64 n] 27))
 have HC := Lib.hid h
 clear h h0 h1
 go_enter Tryz.func49, Tryz.ntmps49
 go_wp2_with fail
 refine (rMeth_any u.cs _ c m _ (HC.out.1.below HE.out.bel) hl).mono ?_
 rintro e W1 ⟨d, s, pv, ok, rfl, hp, -, hm, -, -, b1⟩
 obtain ⟨sn, st, sps, sr⟩ := s
 obtain ⟨pa, pn, pc, rfl⟩ : ∃ pa pn pc, pv = .slice pa pn pc := by obtain ⟨a, c, e⟩ := hp.shape; exact ⟨a, _, c, e⟩
 have H1 := Lib.hid (HE.out.below b1)
 have HA := Lib.hid (H1.out.alloc [.string sn, .bool st, .slice pa pn pc, .string sr] 115)
 dsimp only
 clear hp b1
 cases ok
 ·have HT := Lib.hid (show dsp u c m = -1 by unfold dsp; rw [hm]; rfl)
  clear hm
  go_wp2_with fail
  go_ret
  exact ⟨by rw [HT.out]; try rfl, HA.out.bel⟩
 ·cases st
  ·have HT := Lib.hid (show dsp u c m = fuI u.fs d m by unfold dsp; rw [hm]; rfl)
   have c0 := HA.out.cell 1 rfl 0 rfl
   have c1 := HA.out.cell 1 rfl 1 rfl
   have c2 := HA.out.cell 1 rfl 2 rfl
   clear hm
   go_wp2_with fail
   refine (rFu13_any u _ _ n d m _ (HC.out.1.below HA.out.bel) (HC.out.2.below HA.out.bel)).mono ?_
   rintro e W2 ⟨rfl, b2⟩
   have H2 := Lib.hid (HA.out.below b2)
   clear b2 c0 c1 c2
   go_wp2_with fail
   go_ret
   exact ⟨by rw [HT.out]; try rfl, H2.out.bel⟩
  ·have HT := Lib.hid (show dsp u c m = -1 by unfold dsp; rw [hm]; rfl)
   clear hm
   go_wp2_with fail
   go_ret
   exact ⟨by rw [HT.out]; try rfl, HA.out.bel⟩
set_option maxHeartbeats 3200000 in
theorem rSlot_any (o : Hir.Obj) (s : Sl) (nm : ByteArray) (B : Nat) (Z : World) (h : OwnE elT Z B 125 s.v o.sl) : Calls Tryz.prog 47 #[.agg #[.string o.c, .slice s.a s.n s.c], .string nm] Z fun e Z' => e = .returned (.int .i64 (slt o nm : Int)) ∧ Below Z.heap.size Z Z' := by
 have hn := shapeV h
 have HE := Lib.hid ((Env.refl Z).alloc [.string o.c, .slice s.a s.n s.c] 102)
 have h2 : OwnE elT (Z.alloc (.cells #[.string o.c, .slice s.a s.n s.c] 102)) B 125 s.v o.sl := h.grown (row := none) (grownBy_alloc Z (.cells #[.string o.c, .slice s.a s.n s.c] 102)) (by cases s.v.ownBlock <;> simp)
 obtain ⟨hi, hc⟩ := OwnE.reads h2 sSo
 obtain ⟨n, hn2⟩ : ∃ n, n = o.sl.length := ⟨_, rfl⟩
 have hn3 : s.n = n := by rw [hn2]; exact hn
 rw [hn3] at HE ⊢
 unfold Sl.v at hi
 rw [hn3, ← hn2] at hi
 rw [hn3, ← hn2] at hc
 have hmx : n ≤ 9223372036854775807 := by
  obtain ⟨_, _, -, hq, -⟩ := (OwnE.sliced h).outN sSo (by decide)
  rw [hn2]; exact hq
 have HC := Lib.hid (And.intro hi (And.intro hc hn2))
 clear h h2 hi hc hn hn2 hn3
 go_enter Tryz.func47, Tryz.ntmps47
 go_wp2_with fail
 refine gen_code (fun Z' => Env Z [fkC Z.heap.size [.string o.c, .slice s.a n s.c]] Z' ∧ Z' = (Z.alloc (.cells #[.string o.c, .slice s.a n s.c] 102))) ⟨HE.out, rfl⟩ ?_
 rintro Z1 ⟨hZ, hz1⟩
 have HZ := Lib.hid (And.intro hZ hz1)
 have d1 := hZ.cell 0 rfl 1 rfl
 clear hZ hz1
 go_loop [5] (fun x => ∃ k : Nat, k ≤ n ∧ x = .int .i64 (k : Int) ∧ Hid (∀ j, j < k → (nth o.sl j).1 ≠ nm)) (fun x => n - (intOf x).toNat)
 case atStart => exact ⟨0, by omega, rfl, fun j hj => by omega⟩
 case round =>
  obtain ⟨k, hk, rfl, hh⟩ := hrel
  by_cases hlt : k < n
  ·have hki : (k : Int) < (n : Int) := by omega
   have j0 := HC.out.1 (k : Int) (by omega) (by omega)
   rw [Int.toNat_natCast] at j0
   have j1 : ∀ W, (Instr.indexAt 100 (.slice s.a n s.c) (.int .i64 (k : Int))).run Tryz.prog W = .ok (.pointer (some ⟨blk s.a, ofs s.a + k * 4, none⟩)) W := j0
   have p9 := HC.out.2.1 k (by omega) 0 _ rfl
   rw [← HZ.out.2] at p9
   have p0 : Z1.cell? ⟨blk s.a, ofs s.a + k * 4, none⟩ = some (.string (nth o.sl k).1) := p9
   clear j0 p9
   obtain ⟨t, ht⟩ : ∃ t, t = (nth o.sl k).1 := ⟨_, rfl⟩
   rw [← ht] at p0
   by_cases e : t = nm
   ·have t1 := tl_eq e
    have HT := Lib.hid (show slt o nm = k from slF_at o.sl.length 0 k (by omega) (by rw [← HC.out.2.2]; omega) (fun j _ h6 => hh.out j h6) (by rw [← ht]; exact e))
    clear e ht
    go_wp2_with fail
    go_ret
    exact ⟨by rw [HT.out]; try rfl, HZ.out.1.bel⟩
   ·have t1 := tl_ne e
    have HH := Lib.hid (show ∀ j, j < k + 1 → (nth o.sl j).1 ≠ nm from fun j hj => by
     by_cases e2 : j = k
     ·rw [e2, ← ht]; exact e
     ·exact hh.out j (by omega))
    clear e ht
    go_wp2_with fail
    go_round
    case rel => exact ⟨k + 1, by omega, by go_num, HH.out⟩
    case measure => simp [intOf]; omega
  ·obtain rfl : n = k := by omega
   have HT := Lib.hid (show slt o nm = 0 from slF_out o.sl.length 0 (fun j _ h6 => hh.out j (by rw [HC.out.2.2]; omega)))
   clear hlt hk
   go_wp2_with fail
   go_ret
   exact ⟨by rw [HT.out]; try rfl, HZ.out.1.bel⟩
set_option maxHeartbeats 3200000 in
theorem rSite_any (u : Un) (v0 v1 : Value) (fn at' : Nat) (W : World) (h : UnIn W v0 v1 u) (hf : fn < u.fs.length) (ha : at' < (nth u.fs fn).cd.length) (hn : cdN u.fs ≤ 1048576) : Calls Tryz.prog 56 #[unV u v0 v1, .int .i64 (fn : Int), .int .i64 (at' : Int)] W fun e W' => e = .returned (.int .i64 ((siU u.fs fn at').length : Int)) ∧ Below W.heap.size W W' := by
 have h0 := h.1
 have h1 := h.2
 have hfl := ins_len h1
 obtain ⟨ha, hc, rfl⟩ := h0.shape
 obtain ⟨fa, fc, rfl, -, fidx, fcell⟩ := InS.fu h1
 obtain ⟨F, hF⟩ : ∃ F, F = u.fs.length := ⟨_, rfl⟩
 rw [← hF] at fidx fcell hf hfl ⊢
 have HE := Lib.hid (((Env.refl W).alloc [.slice ha u.cs.length hc, .slice fa F fc, .int .i64 u.mn] 27))
 have HC := Lib.hid (And.intro (And.intro fidx fcell) (And.intro hF (And.intro ‹at' < (nth u.fs fn).cd.length› hn)))
 have hat := HC.out.2.2.1
 clear h h0 h1 fidx fcell hF hn
 have hcd : (nth u.fs fn).cd.length ≤ 9223372036854775807 := by
  obtain ⟨-, v4, v6, ⟨-, -, -, -, -, hx⟩, -⟩ := HC.out.1.2 fn hf
  exact ins_len hx
 have hat2 : at' ≤ 9223372036854775806 := by omega
 unfold unV
 go_enter Tryz.func56, Tryz.ntmps56
 go_wp2_with fail
 refine gen_code (fun Z => Env W [fkC W.heap.size [.slice ha u.cs.length hc, .slice fa F fc, .int .i64 u.mn]] Z) HE.out ?_
 intro Z hZ
 obtain ⟨b, hb⟩ : ∃ b, b = W.heap.size := ⟨_, rfl⟩
 rw [← hb] at hZ ⊢
 have HZ := Lib.hid hZ
 have c1 := hZ.cell 0 rfl 1 rfl
 clear hZ hb HE ‹at' < (nth u.fs fn).cd.length› hcd
 go_loop [7, 8] (fun x z => ∃ k q : Nat, k ≤ fn ∧ z = .int .i64 (k : Int) ∧ x = .int .i64 (q : Int) ∧ Hid (q = (siU u.fs k 0).length)) (fun _ z => fn + 1 - (intOf z).toNat)
 case atStart => exact ⟨0, 0, by omega, rfl, rfl, by unfold Hid; simp [siU, siL_zero]⟩
 case round =>
  obtain ⟨k, q, hk, rfl, rfl, hq⟩ := hrel
  have hki : (k : Int) ≤ (fn : Int) := by omega
  have hkF : k < F := by omega
  obtain ⟨-, v4, v6, ⟨-, -, -, -, -, hx⟩, hz⟩ := HC.out.1.2 k hkF
  obtain ⟨-, -, -, -, -, -, p6⟩ := hz Z HZ.out.bel
  have j1 := HC.out.1.1 (k : Int) (by omega) (by omega)
  rw [Int.toNat_natCast] at j1
  obtain ⟨xa, xc, rfl, hml, xidx, xcell⟩ := InS.is hx
  obtain ⟨m, hm⟩ : ∃ m, m = (nth u.fs k).cd.length := ⟨_, rfl⟩
  rw [← hm] at p6 hml xidx xcell
  have HX := Lib.hid (And.intro hm (And.intro xidx xcell))
  clear hz hx hm xidx xcell
  go_wp2_with fail
  go_loop [7, 9] (fun x z => ∃ j r : Nat, j ≤ m ∧ z = .int .i64 (j : Int) ∧ x = .int .i64 (r : Int) ∧ (k = fn → j ≤ at') ∧ Hid (r = (siU u.fs k j).length)) (fun _ z => m - (intOf z).toNat)
  case atStart => exact ⟨0, q, by omega, rfl, rfl, fun _ => by omega, hq.out⟩
  case round =>
   obtain ⟨j, r, hj, rfl, rfl, hja, hr⟩ := hrel
   by_cases hjm : j < m
   ·have hji : (j : Int) < (m : Int) := by omega
    obtain ⟨-, v7, -, hy⟩ := HX.out.2.2 j hjm
    have y0 := (hy Z HZ.out.bel).1
    have j2 := HX.out.2.1 (j : Int) (by omega) (by omega)
    rw [Int.toNat_natCast] at j2
    clear hy
    obtain ⟨op, hop⟩ : ∃ o, o = (nth (nth u.fs k).cd j).op := ⟨_, rfl⟩
    rw [← hop] at y0
    by_cases hkf : k = fn
    case pos =>
     have t1 : ((k : Int) == (fn : Int)) = true := by simp; omega
     have t1n : (k == fn) = true := by simp; omega
     by_cases hjat : j = at'
     ·have t2 : ((j : Int) == (at' : Int)) = true := by simp; omega
      have t2n : (j == at') = true := by simp; omega
      have HT := Lib.hid (show r = (siU u.fs fn at').length by rw [← hkf, ← hjat]; exact hr.out)
      clear hkf hjat hop hr hja
      go_wp2_with fail
      go_ret
      exact ⟨by rw [← HT.out]; try rfl, HZ.out.bel⟩
     ·have t2 : ((j : Int) == (at' : Int)) = false := by simp; omega
      have t2n : (j == at') = false := by simp; omega
      have hja2 : j < at' := by have := hja hkf; omega
      clear hkf hjat
      by_cases h6 : op = 6
      ·have hs : (siU u.fs k (j + 1)).length = r + 1 := by rw [siU_yes (by rw [← hop]; exact h6), List.length_append, hr.out]; rfl
       have hb2 := Nat.le_trans (siU_len (fs := u.fs) (i := k) (k := j + 1) (by rw [← HC.out.2.1]; exact hkF) (by rw [← HX.out.1]; omega)) HC.out.2.2.2
       rw [hs] at hb2
       have hb3 : (r : Int) + 1 ≤ 1048576 := by omega
       clear hb2
       have HS := Lib.hid hs.symm
       have t6 : (op == 6) = true := by simp [h6]
       clear h6 hop hr hs
       go_wp2_with fail
       go_round
       case rel => exact ⟨j + 1, r + 1, by omega, by go_num, by go_num, (fun _ => by omega), HS.out⟩
       case measure => simp [intOf]; omega
      ·have hs : (siU u.fs k (j + 1)).length = r := by rw [siU_no (by rw [← hop]; exact h6), hr.out]
       have HS := Lib.hid hs.symm
       have t6 : (op == 6) = false := by simpa using h6
       clear h6 hop hr hs
       go_wp2_with fail
       go_round
       case rel => exact ⟨j + 1, r, by omega, by go_num, rfl, (fun _ => by omega), HS.out⟩
       case measure => simp [intOf]; omega
    case neg =>
     have t1 : ((k : Int) == (fn : Int)) = false := by simp; omega
     have t1n : (k == fn) = false := by simp; omega
     have hja2 : k = fn → j < at' := fun h => absurd h hkf
     by_cases h6 : op = 6
     ·have hs : (siU u.fs k (j + 1)).length = r + 1 := by rw [siU_yes (by rw [← hop]; exact h6), List.length_append, hr.out]; rfl
      have hb2 := Nat.le_trans (siU_len (fs := u.fs) (i := k) (k := j + 1) (by rw [← HC.out.2.1]; exact hkF) (by rw [← HX.out.1]; omega)) HC.out.2.2.2
      rw [hs] at hb2
      have hb3 : (r : Int) + 1 ≤ 1048576 := by omega
      clear hb2
      have HS := Lib.hid hs.symm
      have t6 : (op == 6) = true := by simp [h6]
      clear h6 hop hr hs
      go_wp2_with fail
      go_round
      case rel => exact ⟨j + 1, r + 1, by omega, by go_num, by go_num, (fun _ => by omega), HS.out⟩
      case measure => simp [intOf]; omega
     ·have hs : (siU u.fs k (j + 1)).length = r := by rw [siU_no (by rw [← hop]; exact h6), hr.out]
      have HS := Lib.hid hs.symm
      have t6 : (op == 6) = false := by simpa using h6
      clear h6 hop hr hs
      go_wp2_with fail
      go_round
      case rel => exact ⟨j + 1, r, by omega, by go_num, rfl, (fun _ => by omega), HS.out⟩
      case measure => simp [intOf]; omega
   ·obtain rfl : m = j := by omega
    have hkf : k ≠ fn := fun h => by
     have h1 := hja h
     have h2 := HX.out.1
     rw [h] at h2
     have := HC.out.2.2.1
     omega
    have HT := Lib.hid (show r = (siU u.fs (k + 1) 0).length by rw [siU_next, ← HX.out.1]; exact hr.out)
    have hk1 : k + 1 ≤ fn := by omega
    clear hjm hj hr hja hkf
    go_wp2_with fail
    go_round
    case rel => exact ⟨k + 1, r, by omega, by go_num, rfl, HT.out⟩
    case measure => simp [intOf]; omega
end Go.Proofs.YtnklnklkblgnfaaGreatDoor
end
section
namespace Go.Hir
open Go.Dfl (nth nth_mem take_snoc)
open Go.Obs
variable {cs : List Cl}
theorem chF_len : ∀ (f : Nat) (out : List ByteArray) (c : ByteArray), ChI cs out → (chF cs f out c).1.length ≤ cs.length
 | 0, out, c, h => h.len
 | f + 1, out, c, h => by
   by_cases h1 : isC cs c
   ·by_cases h2 : c ∈ out
    ·rw [chF_in h1 h2]; exact h.len
    ·by_cases h3 : (clOf cs c).s = ⟨#[]⟩
     ·rw [chF_top h1 h2 h3]; exact (h.push h1 h2).len
     ·rw [chF_up h1 h2 h3]; exact chF_len f _ _ (h.push h1 h2)
   ·rw [chF_none h1]; exact h.len
theorem sups_len {c : ByteArray} : (sups cs c).length ≤ cs.length := chF_len _ _ _ ChI.nil
def slV (f : Vd) : ByteArray × Vl := (f.n, zV f.t)
def accK (cs : List Cl) (l : List ByteArray) (k : Nat) : List (ByteArray × Vl) := ((l.take k).flatMap fun d => (clOf cs d).fs).map slV
theorem accK_succ {l : List ByteArray} {k : Nat} (h : k < l.length) : accK cs l (k + 1) = accK cs l k ++ (clOf cs (nth l k)).fs.map slV := by
 unfold accK
 rw [take_snoc _ _ h, List.flatMap_append, List.map_append]
 simp
theorem accK_len {l : List ByteArray} {M : Nat} (h : ∀ d, (clOf cs d).fs.length ≤ M) : ∀ k, k ≤ l.length → (accK cs l k).length ≤ k * M
 | 0, _ => by simp [accK]
 | k + 1, hk => by
   have h1 := accK_len (l := l) h k (by omega)
   rw [accK_succ (l := l) (by omega), List.length_append, List.length_map, Nat.succ_mul]
   have := h (nth l k)
   omega
end Go.Hir
namespace Go.Proofs.YtnklnklkblgnfaaGreatDoor
open Go.RowKit Go.Dfl Go.Obs Go.Hir
open Go.Gra (gen_code gen_calls)
structure ObM (W : World) (b br bo B1 : Nat) (ub : List Value) (la : Option Addr) (l : List ByteArray) (c : ByteArray) (s : Sl) (acc : List (ByteArray × Vl)) (Z : World) : Prop where
 bel : Below W.heap.size W Z
 sz : B1 ≤ Z.heap.size
 lt : W.heap.size ≤ b ∧ W.heap.size ≤ br ∧ W.heap.size ≤ bo ∧ b < B1 ∧ br < B1 ∧ bo < B1 ∧ b ≠ bo ∧ br ≠ bo ∧ W.heap.size ≤ B1
 un : (fkC b ub).p Z
 r : Z.heap[br]? = some (.cells #[.string ⟨#[]⟩, .slice none 0 0] 102)
 lb : ∀ i, i < l.length → blk la < B1 ∧ blk la ≠ bo
 l : ∀ i, i < l.length → Z.cell? ⟨blk la, ofs la + i, none⟩ = some (.string (nth l i))
 o0 : Z.cell? ⟨bo, 0, none⟩ = some (.string c)
 o1 : Z.cell? ⟨bo, 1, none⟩ = some s.v
 fz : Z.frozen? ⟨bo, 1, none⟩ = false
 row : OwnE elT Z B1 125 s.v acc
section
variable {W : World} {b br bo B1 : Nat} {ub : List Value} {la : Option Addr} {l : List ByteArray} {c : ByteArray} {s : Sl} {acc acc' : List (ByteArray × Vl)} {Z Z' : World}
theorem ObM.below (h : ObM W b br bo B1 ub la l c s acc Z) (hb : Below Z.heap.size Z Z') : ObM W b br bo B1 ub la l c s acc Z' := by
 have hz := h.sz
 have hl := h.lt
 have g := grownBy_below hb
 exact ⟨h.bel.trans (hb.mono h.bel.size), Nat.le_trans hz hb.size, hl, (fkC b ub).k h.un hb, by rw [hb.block br (by omega)]; exact h.r, h.lb, fun i hi => g.cell (h.l i hi) (by simp), g.cell h.o0 (by simp), g.cell h.o1 (by simp), by rw [hb.frozen (p := ⟨bo, 1, none⟩) (show bo < Z.heap.size by omega)]; exact h.fz, h.row.grown g (by cases s.v.ownBlock <;> simp)⟩
theorem ObM.app (h : ObM W b br bo B1 ub la l c s acc Z) {v' : Sl} (ho : OwnE elT Z' B1 125 v'.v acc') (hg : Z.grownBy Z' s.v.ownBlock) :
  (Z'.cell? ⟨bo, 1, none⟩ = some s.v ∧ Z'.frozen? ⟨bo, 1, none⟩ = false) ∧ ObM W b br bo B1 ub la l c v' acc' (Z'.setCell ⟨bo, 1, none⟩ v'.v) := by
 have hz := h.sz
 have hl := h.lt
 have hs := hg.size
 have hrow : ∀ q, s.v.ownBlock = some q → B1 ≤ q := fun q e => (OwnE.lt h.row q e).1
 have hne : ∀ q, q < B1 → some q ≠ s.v.ownBlock := fun q hq e => by have := hrow q e.symm; omega
 have hrow' : ∀ q, v'.v.ownBlock = some q → B1 ≤ q := fun q e => (OwnE.lt ho q e).1
 have ho1 := hg.cell h.o1 (hne bo (by omega))
 have hfz : Z'.frozen? ⟨bo, 1, none⟩ = false := by rw [World.frozen?_of_block (a := ⟨bo, 1, none⟩) (hg.block bo (by omega) (hne bo (by omega)))]; exact h.fz
 have oth : ∀ (q i : Nat) (x : Value), q ≠ bo → Z'.cell? ⟨q, i, none⟩ = some x → (Z'.setCell ⟨bo, 1, none⟩ v'.v).cell? ⟨q, i, none⟩ = some x := fun q i x hq hx => by
  rw [World.cell?_setCell_other _ _ _ _ (by first | (intro e; exact hq (congrArg Addr.block e)) | (intro e; exact hq (congrArg Addr.block e).symm))]; exact hx
 refine ⟨⟨ho1, hfz⟩, (h.bel.grown hg (Nat.le_trans hl.2.2.2.2.2.2.2.2 hz) (fun q e => Nat.le_trans hl.2.2.2.2.2.2.2.2 (hrow q e))).setCell (show W.heap.size ≤ (⟨bo, 1, none⟩ : Addr).block from hl.2.2.1) _, by rw [World.size_setCell]; omega, hl, fun i x hx => oth b i x hl.2.2.2.2.2.2.1 (hg.cell (h.un i x hx) (hne b (by omega))), ?_, h.lb, fun i hi => oth _ _ _ (h.lb i hi).2 (hg.cell (h.l i hi) (hne _ (h.lb i hi).1)), ?_, World.cell?_setCell_same _ _ _ ho1, by rw [World.frozen?_setCell]; exact hfz, ?_⟩
 ·rw [Below.heap_setCell _ _ _ _ (show br ≠ bo from hl.2.2.2.2.2.2.2.1), hg.block br (by omega) (hne br (by omega))]; exact h.r
 ·rw [World.cell?_setCell_other _ _ _ _ (by intro e; simp at e)]; exact hg.cell h.o0 (hne bo (by omega))
 ·exact ho.grown (grownBy_setCell _ _ _) (by
   cases hq : v'.v.ownBlock with
   | none => exact .inl rfl
   | some q => exact .inr fun e => by injection e with e; have h1 := hrow' q hq; have h2 := hl.2.2.2.2.2.1; simp only at e; omega)
end
def ObjR (u : Un) (c : ByteArray) (W : World) (e : Ending) (W' : World) : Prop := ∃ s : Sl, e = .returned (.agg #[.string c, .slice s.a s.n s.c]) ∧ OwnE elT W' W.heap.size 125 s.v (newO u c).sl ∧ Below W.heap.size W W'
theorem newO_acc (u : Un) (c : ByteArray) : (newO u c).sl = accK u.cs (sups u.cs c) (sups u.cs c).length := by
 unfold newO flds accK
 rw [List.take_length]; rfl
theorem clOf_fs {u : Un} (hF : ∀ d ∈ u.cs, d.fs.length ≤ 1048576) (d : ByteArray) : (clOf u.cs d).fs.length ≤ 1048576 := by
 unfold clOf
 by_cases e : fd u.cs d < u.cs.length
 ·exact hF _ (nth_mem _ _ e)
 ·rw [nth_out _ _ (by omega)]; show ([] : List Vd).length ≤ _; simp
set_option maxHeartbeats 6400000 in
set_option maxRecDepth 8000 in
theorem rObject_any (u : Un) (v0 v1 : Value) (c : ByteArray) (W : World) (h : UnIn W v0 v1 u) (hl : u.cs.length ≤ 64) (hF : ∀ d ∈ u.cs, d.fs.length ≤ 1048576) : Calls Tryz.prog 55 #[unV u v0 v1, .string c] W (ObjR u c W) := by
 have h0 := h.1
 have h1 := h.2
 obtain ⟨ha, hc, rfl, hNl, hidx, hcell⟩ := InS.cl h0
 obtain ⟨fa, fc, rfl⟩ := h1.shape
 obtain ⟨N, hN⟩ : ∃ N, N = u.cs.length := ⟨_, rfl⟩
 rw [← hN] at hidx hcell h0 hl hNl ⊢
 have hE1 := (Env.refl W).alloc [.slice ha N hc, .slice fa u.fs.length fc, .int .i64 u.mn] 27
 have hE2 := (hE1.below ((Below.refl _ _).alloc (Nat.le_refl _) (.cells #[.string ⟨#[]⟩, .slice none 0 0] 102))).add (q := fkH _ (.cells #[.string ⟨#[]⟩, .slice none 0 0] 102)) (heap_alloc_new _ _)
 have hE3 := (hE2.below ((Below.refl _ _).alloc (Nat.le_refl _) (.cells #[.string c, .slice none 0 0] 102))).add (q := fkH _ (.cells #[.string c, .slice none 0 0] 102)) (heap_alloc_new _ _)
 simp only [World.size_alloc] at hE3
 have HE := Lib.hid hE3
 have HC := Lib.hid (And.intro h0 (And.intro (And.intro hidx hcell) (And.intro hN hF)))
 clear h h0 h1 hidx hcell hN hE1 hE2 hE3 hF
 unfold unV
 go_enter Tryz.func55, Tryz.ntmps55
 go_upto_region 2 with fail
 refine gen_code (fun Z => Env W [fkH (W.heap.size + 2) (.cells #[.string c, .slice none 0 0] 102), fkH (W.heap.size + 1) (.cells #[.string ⟨#[]⟩, .slice none 0 0] 102), fkC W.heap.size [.slice ha N hc, .slice fa u.fs.length fc, .int .i64 u.mn]] Z ∧ Z.heap.size = W.heap.size + 3) ⟨HE.out, by simp only [World.size_alloc]⟩ ?_
 rintro Z ⟨hZ, hzs⟩
 obtain ⟨b, hb⟩ : ∃ b, b = W.heap.size := ⟨_, rfl⟩
 obtain ⟨br, hbr⟩ : ∃ b, b = W.heap.size + 1 := ⟨_, rfl⟩
 obtain ⟨bo, hbo⟩ : ∃ b, b = W.heap.size + 2 := ⟨_, rfl⟩
 have HB := Lib.hid (show b = W.heap.size ∧ br = W.heap.size + 1 ∧ bo = W.heap.size + 2 from ⟨hb, hbr, hbo⟩)
 rw [← hbo, ← hbr, ← hb] at hZ ⊢
 have HZ := Lib.hid hZ
 have c0 := hZ.cell 2 rfl 0 rfl
 clear hZ hb hbr hbo HE
 go_wp2_with fail
 refine (rSupersO_any u.cs _ c _ (HC.out.1.below HZ.out.bel) (by have := HC.out.2.2.1; omega)).mono ?_
 rintro e W1 ⟨la, lc, rfl, hls, b1, hlo⟩
 obtain ⟨l, hl2⟩ : ∃ l, l = sups u.cs c := ⟨_, rfl⟩
 rw [← hl2] at hls hlo ⊢
 have hll : l.length ≤ 64 := by rw [hl2]; have h1 := sups_len (cs := u.cs) (c := c); have h2 := HC.out.2.2.1; omega
 obtain ⟨_, _, hsh, -, sidx, scell⟩ := InS.strs hls
 injection hsh with hs1 hs2 hs3
 subst hs1 hs3
 have hE1 := HZ.out.below b1
 have hbb : (fkH bo (.cells #[.string c, .slice none 0 0] 102)).p W1 := hE1.fact 0 rfl
 have hbb : W1.heap[bo]? = some (.cells #[.string c, .slice none 0 0] 102) := hbb
 obtain ⟨B1, hB1⟩ : ∃ B1, B1 = W1.heap.size := ⟨_, rfl⟩
 have hzb : W.heap.size + 3 ≤ B1 := by rw [hB1, ← hzs]; exact b1.size
 have hM : ObM W b br bo B1 [.slice ha N hc, .slice fa u.fs.length fc, .int .i64 u.mn] la l c ⟨none, 0, 0⟩ [] W1 := by
  have h9 := HB.out
  refine ⟨hE1.bel, by omega, by omega, hE1.fact 2 rfl, hE1.fact 1 rfl, fun i hi => ⟨by have h3 := (scell i hi).1; omega, ?_⟩, fun i hi => (scell i hi).2.2 W1 (Below.refl _ _), by simp [World.cell?, hbb], by simp [World.cell?, hbb, Sl.v], by simp [World.frozen?, hbb], OwnE.nil _ _ _ _⟩
  have := hlo (by omega); omega
 have HM := Lib.hid hM
 have HL := Lib.hid (And.intro hl2 (show ∀ x ∈ l, isC u.cs x from fun x hx => sups_isC (by rw [hl2] at hx; exact hx)))
 have HI := Lib.hid sidx
 clear b1 c0 hls hlo scell hE1 hbb hM hl2 hB1 hzb hzs HZ sidx
 go_wp2_with fail
 go_loopw [7] (fun x wr => ∃ k : Nat, k ≤ l.length ∧ x = .int .i64 (k : Int) ∧ Hid (∃ s, ObM W b br bo B1 [.slice ha N hc, .slice fa u.fs.length fc, .int .i64 u.mn] la l c s (accK u.cs l k) wr)) (fun x _ => l.length - (intOf x).toNat)
 case atStart => exact ⟨0, by omega, rfl, _, HM.out⟩
 case round =>
  clear HM
  obtain ⟨k, hk, rfl, hh⟩ := hrel
  obtain ⟨s, hM⟩ := hh.out
  have HM := Lib.hid hM
  clear hM hh
  by_cases hlt : k < l.length
  ·have hki : (k : Int) < (l.length : Int) := by omega
   obtain ⟨x, hx⟩ : ∃ x, x = nth l k := ⟨_, rfl⟩
   have hxc : isC u.cs x := by rw [hx]; exact HL.out.2 _ (nth_mem _ _ hlt)
   obtain ⟨n, hn⟩ : ∃ n, n = fd u.cs x := ⟨_, rfl⟩
   have hnl : n < N := by rw [hn, HC.out.2.2.1]; exact hxc
   have hfi : fI u.cs x = (n : Int) := by rw [fI_yes hxc, hn]
   obtain ⟨-, v2, v3, ⟨-, -, hfs, -⟩, hz⟩ := HC.out.2.1.2 n hnl
   have hcl : nth u.cs n = clOf u.cs x := by rw [hn]; rfl
   rw [hcl] at hfs hz
   obtain ⟨ya, yc, rfl, hyl, yidx, ycell⟩ := InS.vd hfs
   obtain ⟨fl, hfl⟩ : ∃ fl, fl = (clOf u.cs x).fs := ⟨_, rfl⟩
   rw [← hfl] at hyl yidx ycell
   obtain ⟨yn, hyn⟩ : ∃ n, n = fl.length := ⟨_, rfl⟩
   have hyb : yn ≤ 1048576 := by rw [hyn, hfl]; exact clOf_fs HC.out.2.2.2 x
   rw [← hyn] at yidx ycell hyl
   have hyn2 : (clOf u.cs x).fs.length = yn := by rw [hyn, hfl]
   rw [hyn2] at hz
   have cidx := HC.out.2.1.1 (n : Int) (by omega) (by omega)
   rw [Int.toNat_natCast] at cidx
   have lidx := HI.out (k : Int) (by omega) (by omega)
   rw [Int.toNat_natCast] at lidx
   obtain ⟨Cls, hCls⟩ : ∃ Cls : World → Prop, ∀ Z', Cls Z' ↔ Below wr.heap.size wr Z' := ⟨_, fun _ => Iff.rfl⟩
   have hC : Cls wr.drew := (hCls _).2 ((Below.refl _ _).drew)
   have k0 := fun q : Wd Cls => (hCls _).1 q.ok
   have hB : ∀ q : Wd Cls, ∀ Z', Below q.val.heap.size q.val Z' → Cls Z' := fun q Z' hb => (hCls _).2 ((k0 q).trans (hb.mono (k0 q).size))
   haveI hne : Nonempty (Wd Cls) := ⟨⟨_, hC⟩⟩
   have g0 : ∀ q : Wd Cls, q.val.cell? ⟨b, 0, none⟩ = some (.slice ha N hc) := fun q => (HM.out.below (k0 q)).un 0 _ rfl
   have g1 : ∀ q : Wd Cls, q.val.cell? ⟨blk la, ofs la + k, none⟩ = some (.string x) := fun q => by rw [hx]; exact (HM.out.below (k0 q)).l k hlt
   have g2 : ∀ q : Wd Cls, q.val.cell? ⟨blk ha, ofs ha + n * 4 + 2, none⟩ = some (.slice ya yn yc) := fun q => (hz q.val (HM.out.below (k0 q)).bel).2.2.1
   have f1 : ∀ q : Wd Cls, Calls Tryz.prog 71 #[.agg #[.slice ha N hc], .string x] q.val fun e w'' => e = .returned (.int .i64 (n : Int)) ∧ ∃ r : Wd Cls, w'' = r.val := fun q => cls_bel (hB q) (by rw [← hfi]; exact rFind_any u.cs _ x q.val (HC.out.1.below (HM.out.below (k0 q)).bel))
   have F1 := Lib.hid f1
   have HK := Lib.hid k0
   have HCC := Lib.hid hC
   have HY := Lib.hid (And.intro (And.intro hx hfl) (And.intro hyn (And.intro yidx ycell)))
   have HLT := Lib.hid hlt
   clear hx hxc hn hfi hcl hfs hz hfl hyn hyn2 yidx ycell hCls hC k0 hB f1
   go_upto_region 6 with fail
   refine wp_region_class Cls (by kernel_rfl) (by kernel_rfl) HCC.out ?_
   repeat (go_big_quiet_step ((go_at_call 71; exact F1.out _)))
   refine wpQuiet_nil ?_
   rintro _ ⟨q9, rfl⟩
   have HM9 := Lib.hid (HM.out.below (HK.out q9))
   clear g0 g1 g2 cidx lidx HM
   go_wp2_with fail
   go_loopw [9] (fun z wr' => ∃ q : Nat, q ≤ yn ∧ z = .int .i64 (q : Int) ∧ Hid (∃ s, ObM W b br bo B1 [.slice ha N hc, .slice fa u.fs.length fc, .int .i64 u.mn] la l c s (accK u.cs l k ++ (fl.take q).map slV) wr')) (fun z _ => yn - (intOf z).toNat)
   case atStart => exact ⟨0, by omega, rfl, s, by simpa using HM9.out⟩
   case round =>
    clear HM9
    obtain ⟨q, hq, rfl, hh⟩ := hrel
    obtain ⟨s', hM⟩ := hh.out
    clear hh
    by_cases hqy : q < yn
    ·have hqi : (q : Int) < (yn : Int) := by omega
     obtain ⟨ac, hac⟩ : ∃ ac, ac = accK u.cs l k ++ (fl.take q).map slV := ⟨_, rfl⟩
     rw [← hac] at hM
     have hacl : ac.length ≤ 68157440 := by
      rw [hac, List.length_append, List.length_map, List.length_take]
      have h1 := accK_len (cs := u.cs) (l := l) (M := 1048576) (fun d => clOf_fs HC.out.2.2.2 d) k (by omega)
      have h2 : k * 1048576 ≤ 64 * 1048576 := Nat.mul_le_mul_right _ (by omega)
      have h3 : min q fl.length ≤ 1048576 := Nat.le_trans (Nat.min_le_left _ _) (by omega)
      omega
     have HM := Lib.hid (hM.below ((Below.refl _ _).drew))
     obtain ⟨hyb2, -, hz⟩ := HY.out.2.2.2 q hqy
     have HYB := Lib.hid hyb2
     obtain ⟨p0, p1⟩ := hz wr.drew HM.out.bel
     have yi := HY.out.2.2.1 (q : Int) (by omega) (by omega)
     rw [Int.toNat_natCast] at yi
     obtain ⟨f, hf⟩ : ∃ f, f = nth fl q := ⟨_, rfl⟩
     rw [← hf] at p0 p1
     have HF := Lib.hid (And.intro hf hac)
     have HS := Lib.hid (show wr.drew.cell? ⟨bo, 1, none⟩ = some (.slice s'.a s'.n s'.c) ∧ wr.drew.cell? ⟨blk ya, ofs ya + q * 2, none⟩ = some (.string f.n) ∧ wr.drew.cell? ⟨blk ya, ofs ya + q * 2 + 1, none⟩ = some (.string f.t) from ⟨HM.out.o1, p0, p1⟩)
     clear hz hf hac p0 p1 hM hyb2
     go_upto_region 10 with fail
     refine wp_region_mix [0, 1, 2, 3, 4, 5, 6, 7, 8, 9, 10, 11] [12, 13, 14, 15, 16, 17] (fun w' => w'.cell? ⟨bo, 1, none⟩ = some (.slice s'.a s'.n s'.c) ∧ w'.cell? ⟨blk ya, ofs ya + q * 2, none⟩ = some (.string f.n) ∧ w'.cell? ⟨blk ya, ofs ya + q * 2 + 1, none⟩ = some (.string f.t)) (by kernel_rfl) (by kernel_rfl) (by kernel_rfl) HS.out ?_
     repeat (
      refine wpHeads_cons (v := ?_) rfl (Or.inl ⟨by rfl, ?_⟩) ?_
      rotate_left
      ·(intro W hW; obtain ⟨x1, x2, x3⟩ := hW; (try go_simp); try with_reducible rfl)
      simp only [Act.put, List.setIfInBounds_toArray, List.getElem_toArray, List.getElem_cons_zero, List.getElem_cons_succ, List.set_cons_succ, List.set_cons_zero])
     refine wpHeads_nil ?_
     clear yi
     generalize wr.drew = V at *
     refine wpTails_cons rfl ?_
     go_wp2_with fail
     refine (rZero_any f.t _).mono ?_
     rintro e W5 ⟨rfl, b5⟩
     obtain ⟨zv, hzv⟩ : ∃ z, z = zV f.t := ⟨_, rfl⟩
     rw [← hzv]
     have HM5 := Lib.hid (HM.out.below b5)
     have g5 := grownBy_below b5
     have g6 := grownBy_alloc W5 (.cells #[.string f.n, .int .i64 zv.k, .int .i64 zv.n, .int .i64 zv.s] 125)
     have hS5 := And.intro (g5.cell HS.out.1 (by simp)) (And.intro (g5.cell HS.out.2.1 (by simp)) (g5.cell HS.out.2.2 (by simp)))
     have hM6 := HM5.out.below ((Below.refl _ _).alloc (Nat.le_refl _) (.cells #[.string f.n, .int .i64 zv.k, .int .i64 zv.n, .int .i64 zv.s] 125))
     have hS6 := And.intro (g6.cell hS5.1 (by simp)) (And.intro (g6.cell hS5.2.1 (by simp)) (g6.cell hS5.2.2 (by simp)))
     have HX := Lib.hid (And.intro (And.intro hS5 hS6) (And.intro hM6 hzv))
     have hsn : s'.n = ac.length := shapeV hM6.row
     have hl1 : (ac.length + 1) * 40 ≤ 140737488355328 := by omega
     have hl2 : ac.length + 1 ≤ 1000000000000 := by omega
     have HLN := Lib.hid (And.intro hsn (And.intro hl1 hl2))
     clear b5 g5 g6 hS5 hS6 hM6 hzv hsn hl1 hl2 hacl
     go_wp2_with fail
     refine tail_mk HX.out.1.1 ?_
     refine wpTails_cons rfl ?_
     go_wp2_with fail
     refine tail_mk HX.out.1.1 ?_
     refine wpTails_cons rfl ?_
     go_wp2_with fail
     refine tail_mk HX.out.1.2 ?_
     refine wpTails_cons rfl ?_
     refine wp_appendE (E := elT) sSo rfl rfl _ _ rfl (v := .slice s'.a s'.n s'.c) (l := ac) (base := B1) rfl W5.heap.size rfl HX.out.2.1.row (f.n, zv) (cells_new (W := W5) (cs := [.string f.n, .int .i64 zv.k, .int .i64 zv.n, .int .i64 zv.s]) (t := 125) rfl) HLN.out.2.1 HLN.out.2.2 HX.out.2.1.sz ?_
     intro v' w3 hown hgr hat9
     clear hat9
     obtain ⟨s9, c9, rfl⟩ := hown.shape (n := ac.length + 1) (by simp)
     have hA := ObM.app (v' := ⟨s9, ac.length + 1, c9⟩) (acc' := ac ++ [(f.n, zv)]) HX.out.2.1 hown hgr
     have hne : some (blk ya) ≠ s'.v.ownBlock := fun e => by
      have h1 := (OwnE.lt HX.out.2.1.row _ e.symm).1
      have h2 := HX.out.2.1.lt.2.2.2.2.2.2.2.2
      have h3 := HYB.out
      omega
     have hS7 := And.intro hA.1.1 (And.intro (hgr.cell HX.out.1.2.2.1 hne) (hgr.cell HX.out.1.2.2.2 hne))
     have z1 : w3.cell? ⟨bo, 1, none⟩ = some (.slice s'.a s'.n s'.c) := hA.1.1
     have f1 := hA.1.2
     have HA := Lib.hid (And.intro hS7 hA.2)
     clear hown hgr hA hne hS7
     refine tail_mk HA.out.1 ?_
     refine wpTails_cons rfl ?_
     go_wp2_with fail
     refine tail_mk HA.out.1 ?_
     refine wpTails_one rfl ?_
     go_wp2_with fail
     refine thenQ_mk ?_
     go_wp2_with fail
     go_roundw
     case rel => exact ⟨q + 1, by omega, by go_num, _, by
      rw [take_snoc _ _ (by rw [← HY.out.2.1]; omega), List.map_append, ← List.append_assoc, ← HF.out.2, ← HF.out.1]
      have h1 := HA.out.2
      rw [HX.out.2.2] at h1
      exact h1⟩
     case measure => simp [intOf]; omega
    ·obtain rfl : yn = q := by omega
     have HM2 := Lib.hid (show ObM W b br bo B1 [.slice ha N hc, .slice fa u.fs.length fc, .int .i64 u.mn] la l c s' (accK u.cs l (k + 1)) wr by
      rw [accK_succ HLT.out, ← HY.out.1.1, ← HY.out.1.2]
      have h1 := hM
      rw [List.take_of_length_le (by rw [HY.out.2.1]; exact Nat.le_refl _)] at h1
      exact h1)
     clear hqy hq hM
     go_wp2_with fail
     go_roundw
     case rel => exact ⟨k + 1, by omega, by go_num, s', HM2.out⟩
     case measure => simp [intOf]; omega
  ·obtain rfl : k = l.length := by omega
   have HA := Lib.hid (newO_acc u c)
   obtain ⟨ac, hac⟩ : ∃ ac, ac = accK u.cs l l.length := ⟨_, rfl⟩
   rw [← HL.out.1, ← hac] at HA
   have hM := HM.out
   rw [← hac] at hM
   have hN : wr.heap[br]? = some (.cells #[.string ⟨#[]⟩, .slice none 0 0] 102) := hM.r
   have o0 := hM.o0
   have o1 : wr.cell? ⟨bo, 1, none⟩ = some (.slice s.a s.n s.c) := hM.o1
   have z0 : wr.cell? ⟨br, 0, none⟩ = some (.string ⟨#[]⟩) := by simp [World.cell?, hN]
   have z1 : wr.cell? ⟨br, 1, none⟩ = some (.slice none 0 0) := by simp [World.cell?, hN]
   have f0 : wr.frozen? ⟨br, 0, none⟩ = false := by simp [World.frozen?, hN]
   have f1 : wr.frozen? ⟨br, 1, none⟩ = false := by simp [World.frozen?, hN]
   have HM2 := Lib.hid hM
   clear hlt hk hac hM hN HM
   go_wp2_with fail
   (try simp only [Exit.inBlock, Exit.then])
   refine bodyPost_ret (v := (.agg #[.string c, .slice s.a s.n s.c])) (by rw [results_one rfl]; go_simp; try rfl) rfl ?_
   have h9 := HM2.out.lt
   refine ⟨s, rfl, ?_, (HM2.out.bel.setCell (show W.heap.size ≤ (⟨br, 0, none⟩ : Addr).block from h9.2.1) _).setCell (show W.heap.size ≤ (⟨br, 1, none⟩ : Addr).block from h9.2.1) _⟩
   rw [HA.out]
   have hr := HM2.out.row
   have hne : ∀ q, s.v.ownBlock = some q → q ≠ br := fun q e e2 => by have := (OwnE.lt hr q e).1; omega
   have hne2 : s.v.ownBlock = none ∨ s.v.ownBlock ≠ some br := by
    cases hq : s.v.ownBlock with
    | none => exact .inl rfl
    | some q => exact .inr fun e => hne q hq (Option.some.inj e)
   exact ((hr.grown (grownBy_setCell _ _ _) hne2).grown (grownBy_setCell _ _ _) hne2).mono9 h9.2.2.2.2.2.2.2.2
end Go.Proofs.YtnklnklkblgnfaaGreatDoor
end
section
namespace Go.Dfl
def stN (b : Nat) : World → Nat → List Value → World
 | Z, _, [] => Z
 | Z, j, y :: ys => stN b (Z.setCell ⟨b, j, none⟩ y) (j + 1) ys
theorem stN_cell {b N : Nat} : ∀ (ys : List Value) (j : Nat) (Z : World), (∀ i, i < N → ∃ v, Z.cell? ⟨b, i, none⟩ = some v) → j + ys.length ≤ N → ∀ i, i < N → (stN b Z j ys).cell? ⟨b, i, none⟩ = if j ≤ i ∧ i < j + ys.length then ys[i - j]? else Z.cell? ⟨b, i, none⟩
 | [], j, Z, _, _, i, _ => by
   have h0 : ¬ (j ≤ i ∧ i < j + ([] : List Value).length) := by rintro ⟨h1, h2⟩; rw [List.length_nil] at h2; omega
   rw [if_neg h0]; rfl
 | y :: ys, j, Z, h, hl, i, hi => by
   rw [List.length_cons] at hl
   have hc : ∀ k v, Z.cell? ⟨b, k, none⟩ = some v → (Z.setCell ⟨b, j, none⟩ y).cell? ⟨b, k, none⟩ = some (if k = j then y else v) := fun k v hv => by
    by_cases e : k = j
    ·subst e; rw [if_pos rfl]; exact World.cell?_setCell_same _ _ _ hv
    ·have hne : (⟨b, k, none⟩ : Addr) ≠ ⟨b, j, none⟩ := fun e2 => e (congrArg Addr.off e2)
     rw [if_neg e, World.cell?_setCell_other _ _ _ _ (by first | exact hne | exact hne.symm)]; exact hv
   show (stN b (Z.setCell ⟨b, j, none⟩ y) (j + 1) ys).cell? _ = _
   rw [stN_cell ys (j + 1) _ (fun k hk => by obtain ⟨v, hv⟩ := h k hk; exact ⟨_, hc k v hv⟩) (by omega) i hi]
   obtain ⟨v, hv⟩ := h i hi
   rw [hc i v hv, hv, List.length_cons]
   by_cases e : i = j
   ·subst e
    rw [if_neg (by omega), if_pos rfl, if_pos (by omega), Nat.sub_self]; rfl
   ·by_cases e2 : j + 1 ≤ i ∧ i < j + 1 + ys.length
    ·rw [if_pos e2, if_pos (by omega), show i - j = (i - (j + 1)) + 1 by omega]; rfl
    ·rw [if_neg e2, if_neg e, if_neg (by omega)]
theorem stN_grown (b : Nat) : ∀ (ys : List Value) (j : Nat) (Z : World), Z.grownBy (stN b Z j ys) (some b)
 | [], _, _ => grownBy_refl _ _
 | _ :: ys, j, _ => grownBy_trans (grownBy_setCell _ _ _) (stN_grown b ys (j + 1) _)
theorem stN_block {Z : World} {b : Nat} {cs : Array Value} {t : TypeId} (h : Z.heap[b]? = some (.cells cs t)) (ys : List Value) (hl : ys.length = cs.size) :
  (∀ j, j < cs.size → Z.cell? ⟨b, j, none⟩ = cs[j]?) ∧ (∀ j, Z.frozen? ⟨b, j, none⟩ = false) ∧ (fkC b ys).p (stN b Z 0 ys) ∧ Z.grownBy (stN b Z 0 ys) (some b) := by
 have hc : ∀ j, Z.cell? ⟨b, j, none⟩ = cs[j]? := fun j => by simp [World.cell?, h]
 refine ⟨fun j _ => hc j, fun j => by simp [World.frozen?, h], fun i v hi => ?_, stN_grown b ys 0 Z⟩
 have hil : i < ys.length := (List.getElem?_eq_some_iff.1 hi).1
 rw [stN_cell (N := cs.size) ys 0 Z (fun k hk => ⟨cs[k], by rw [hc, Array.getElem?_eq_getElem hk]⟩) (by omega) i (by omega), if_pos (by omega), Nat.sub_zero]
 exact hi
end Go.Dfl
namespace Go.Proofs.YtnklnklkblgnfaaGreatDoor
open Go.RowKit Go.Dfl Go.Obs Go.Hir
open Go.Gra (gen_code gen_calls)
theorem made_vals (n : Nat) : (madeCells (Value.agg #[.int .i64 0, .int .i64 0, .int .i64 0]).cells (n * 3)).toList = (List.replicate n (default : Vl)).flatMap elV.c := by
 have h1 : (madeCells (Value.agg #[.int .i64 0, .int .i64 0, .int .i64 0]).cells (n * 3)).toList = List.replicate (n * 3) (.int .i64 0) := by
  rw [List.eq_replicate_iff]
  refine ⟨by simp [madeCells], fun v hv => ?_⟩
  simp only [madeCells, Value.cells] at hv
  simp at hv
  obtain ⟨i, -, rfl⟩ := hv
  rcases (by omega : i % 3 = 0 ∨ i % 3 = 1 ∨ i % 3 = 2) with h | h | h <;> simp [h]
 have h2 : (List.replicate n (default : Vl)).flatMap elV.c = List.replicate (n * 3) (.int .i64 0) := by
  rw [List.eq_replicate_iff]
  refine ⟨by rw [flat_len]; simp [elV], fun v hv => ?_⟩
  obtain ⟨x, hx, hv⟩ := List.mem_flatMap.1 hv
  rw [List.mem_replicate] at hx
  obtain ⟨-, rfl⟩ := hx
  have hv : v ∈ [Value.int .i64 0, Value.int .i64 0, Value.int .i64 0] := hv
  simp at hv
  exact hv
 rw [h1, h2]
theorem wp_makeV (w : World) {ops : Array Oper} {rest : List Oper} {o : Oper} {a : Act} {Q : Exit → Act → World → Prop}
  (hg : o.guard = none) (l c : Operand) (hop : o.op = Op.makeSlice 51 l c) (kl kc : IntKind) (L C : Int) (n : Nat) (hl : a.eval l = .int kl L) (hc : a.eval c = .int kc C) (hL : L = (n : Int)) (hC : C = (n : Int))
  (hb : 24 * n ≤ 281474976710656) (hm : n ≤ maxLen)
  (hK : ∀ s cap w', OwnE elV w' w.heap.size 50 (.slice s n cap) (List.replicate n default) → Below w.heap.size w w' → wpList Tryz.prog ops Q rest (a.put o.dst (.slice s n cap)) w') :
  wpList Tryz.prog ops Q (o :: rest) a w := by
 obtain ⟨i, hi, hz0, hz1, hz2⟩ := sVa.info
 refine wpList_make_full w hg l c 51 hop w.heap.size 50 i (.agg #[.int .i64 0, .int .i64 0, .int .i64 0]) 3 sVa.und hi hz0 hz1 kl kc L C n hl hc hL hC (by rw [hz2]; exact hb) hm (Nat.le_refl _) ?_
 intro w' h1 h2
 refine hK _ _ w' ?_ ((Below.refl _ _).grown h2 (Nat.le_refl _) (by simp))
 rw [made_vals] at h1
 unfold OwnE
 rw [List.length_replicate]
 exact h1
structure EnS {W0 : World} {u : Un} {v0 v1 : Value} {b : Nat} (y : Ly) (m : Mch) (Z0 : World) (fn : Nat) (bf : Nat) (s : Sl) (vs : List Vl) (Z : World) : Prop where
 mm : MM W0.heap.size W0 u v0 v1 b y m Z
 bel : Below Z0.heap.size Z0 Z
 lt : Z0.heap.size ≤ bf ∧ bf < Z.heap.size
 ne : s.v.ownBlock ≠ some bf
 bx : (fkC bf [.int .i64 (fn : Int), .int .i64 0, .int .i64 m.n, .int .i64 ((m.ob.length : Int) - 1), s.v, .int .i64 0, .int .i64 0, .int .i64 0]).p Z
 row : OwnE elV Z Z0.heap.size 50 s.v vs
 no : ∀ q, Z0.heap.size ≤ q → y.rl q = .no
 w0 : W0.heap.size ≤ Z0.heap.size
section
variable {W0 : World} {u : Un} {v0 v1 : Value} {b : Nat} {y : Ly} {m : Mch} {Z0 Z Z' : World} {fn bf : Nat} {s : Sl} {vs vs' : List Vl}
theorem EnS.below (h : EnS (W0 := W0) (u := u) (v0 := v0) (v1 := v1) (b := b) y m Z0 fn bf s vs Z) (hb : Below Z.heap.size Z Z') : EnS (W0 := W0) (u := u) (v0 := v0) (v1 := v1) (b := b) y m Z0 fn bf s vs Z' :=
 ⟨h.mm.below hb, h.bel.trans (hb.mono h.bel.size), ⟨h.lt.1, Nat.lt_of_lt_of_le h.lt.2 hb.size⟩, h.ne, (fkC _ _).k h.bx hb, h.row.grown (grownBy_below hb) (by cases s.v.ownBlock <;> simp), h.no, h.w0⟩
theorem EnS.put (h : EnS (W0 := W0) (u := u) (v0 := v0) (v1 := v1) (b := b) y m Z0 fn bf s vs Z) (ho : OwnE elV Z' Z0.heap.size 50 s.v vs') (hg : Z.grownBy Z' s.v.ownBlock) : EnS (W0 := W0) (u := u) (v0 := v0) (v1 := v1) (b := b) y m Z0 fn bf s vs' Z' := by
 have hr : ∀ q, s.v.ownBlock = some q → Z0.heap.size ≤ q := fun q e => (OwnE.lt h.row q e).1
 exact ⟨h.mm.other hg (fun q e => ⟨h.no q (hr q e), Nat.le_trans h.w0 (hr q e)⟩), h.bel.grown hg h.bel.size hr, ⟨h.lt.1, Nat.lt_of_lt_of_le h.lt.2 hg.size⟩, h.ne, fkC_grown h.bx hg (fun e => h.ne e.symm), ho, h.no, h.w0⟩
end
end Go.Proofs.YtnklnklkblgnfaaGreatDoor
end
section
namespace Go.Hir
open Go.Dfl (nth nth_set nth_append nth_ext nth_out)
open Go.Obs
def padK (a : List Vl) (N k : Nat) : List Vl := a.take k ++ List.replicate (N - k) default
theorem padK_len {a : List Vl} {N k : Nat} (h : k ≤ a.length) (hN : k ≤ N) : (padK a N k).length = N := by
 unfold padK; rw [List.length_append, List.length_take, List.length_replicate, Nat.min_eq_left h]; omega
theorem nth_rep {n k : Nat} : nth (List.replicate n (default : Vl)) k = default := by
 unfold nth
 rw [List.getD_eq_getElem?_getD, List.getElem?_replicate]
 split <;> rfl
theorem nth_padK {a : List Vl} {N k : Nat} (h : k ≤ a.length) (i : Nat) : nth (padK a N k) i = if i < k then nth a i else default := by
 unfold padK
 rw [nth_append, List.length_take, Nat.min_eq_left h]
 by_cases e : i < k
 ·rw [if_pos e, if_pos e, nth_take _ _ _ e]
 ·rw [if_neg e, if_neg e, nth_rep]
theorem padK_set {a : List Vl} {N k : Nat} (h : k < a.length) (hN : k < N) : (padK a N k).set k (nth a k) = padK a N (k + 1) := by
 refine nth_ext (by rw [List.length_set, padK_len (by omega) (by omega), padK_len (by omega) (by omega)]) fun i hi => ?_
 rw [List.length_set, padK_len (by omega) (by omega)] at hi
 rw [nth_set, padK_len (by omega) (by omega), nth_padK (by omega), nth_padK (by omega)]
 by_cases e : k = i
 ·subst e; rw [if_pos ⟨rfl, hN⟩, if_pos (by omega)]
 ·rw [if_neg fun h => e h.1]
  by_cases e2 : i < k
  ·rw [if_pos e2, if_pos (by omega)]
  ·rw [if_neg e2, if_neg (by omega)]
theorem padK_all (a : List Vl) (N : Nat) : padK a N a.length = pad a N := by unfold padK pad; rw [List.take_length]
theorem padK_zero (a : List Vl) (N : Nat) : padK a N 0 = List.replicate N default := by unfold padK; simp
end Go.Hir
namespace Go.Proofs.YtnklnklkblgnfaaGreatDoor
open Go.RowKit Go.Dfl Go.Obs Go.Hir
open Go.Gra (gen_code gen_calls)
set_option maxHeartbeats 6400000 in
set_option maxRecDepth 8000 in
theorem rEnter_any {W0 : World} {u : Un} {v0 v1 : Value} {b : Nat} {y : Ly} {m : Mch} {Z : World} (h : MM W0.heap.size W0 u v0 v1 b y m Z) (hu : InS vFu W0 v1 u.fs) {fn : Nat} (hf : fn < u.fs.length) (hvl : (nth u.fs fn).vs.length ≤ 256) (a : List Vl) (av : Sl) (B9 : Nat) (ha : OwnE elV Z B9 50 av.v a) (hal : a.length ≤ (nth u.fs fn).vs.length) (hd : m.fr.length ≤ 64) (hn0 : 0 ≤ m.n) (hn1 : m.n ≤ 1048576) (hol : m.ob.length ≤ 1048576) :
  Calls Tryz.prog 11 #[.pointer (some ⟨b, 0, none⟩), .int .i64 (fn : Int), .slice av.a av.n av.c] Z fun e Z' => e = .returned (.tuple #[]) ∧ ∃ y', MM W0.heap.size W0 u v0 v1 b y' (entP u m fn a) Z' ∧ y'.en = y.en := by
 obtain ⟨fa, fc, wa, wc, xa, xc, hv1, hFl, jf, -, hz⟩ := fu_at hu hf
 subst hv1
 have hos := h.nO
 obtain ⟨N, hN⟩ : ∃ N, N = (nth u.fs fn).vs.length := ⟨_, rfl⟩
 rw [← hN] at hvl hal hz
 obtain ⟨F, hF⟩ : ∃ F, F = u.fs.length := ⟨_, rfl⟩
 rw [← hF] at jf hFl h ⊢
 have HV := Lib.hid hz
 have HC := Lib.hid (And.intro h (And.intro ha (And.intro hos (And.intro hN (And.intro hd (And.intro hn0 (And.intro hn1 hol)))))))
 have hosn : y.os.n ≤ 1048576 := by rw [hos]; exact hol
 have w1 : IntKind.i64.wrap ((y.os.n : Int) - 1) = (y.os.n : Int) - 1 := IntWalk.i64_in _ (by omega)
 clear h ha hos hN hd hn0 hn1 hol hz hf hF
 go_enter Tryz.func11, Tryz.ntmps11
 go_upto_region 0 with fail
 go_cut [6] (fun q wx => ∃ (bf : Nat) (s : Sl), q = .pointer (some ⟨bf, 0, none⟩) ∧ EnS (W0 := W0) (u := u) (v0 := v0) (v1 := .slice fa F fc) (b := b) y m Z fn bf s (List.replicate N default) wx)
 case first =>
  refine wp_region_plan (.take 0 (.take 1 (.take 2 (.take 3 (.take 4 (.take 5 (.take 6 (.take 7 (.take 8 (.take 9 (.take 10 (.take 11 (.take 12 (.take 13 (.take 14 (.take 15 (.take 16 (.take 17 (.take 18 (.take 19 (.take 20 (.take 21 (.alt 22 (.take 23 (.alt 24 (.alt 25 .done .stop) .stop)) (.alt 24 (.alt 22 (.take 23 (.alt 25 .done .stop)) .stop) .stop)))))))))))))))))))))))) (fun w' => Below Z.heap.size Z w') (by kernel_rfl) (by kernel_rfl) (by kernel_rfl) (by kernel_rfl) ((Below.refl _ _).drew) ?_
  have HY := Lib.hid ((Below.refl Z.heap.size Z).drew)
  generalize Z.drew = V at *
  repeat (
   refine plan_take (v := ?_) rfl (Or.inl ⟨by rfl, ?_⟩) ?_
   rotate_left
   ·(intro W hW; have c1 := (HC.out.1.below hW).bx 1 _ rfl; have c6 := (HC.out.1.below hW).bx 6 _ rfl; have c8 : W.cell? ⟨b, 8, none⟩ = some (.slice y.os.a y.os.n y.os.c) := (HC.out.1.below hW).bx 8 _ rfl; have p4 := (HV.out W ((HC.out.1.below hW).bel)).1; (try go_simp); try with_reducible rfl)
   simp only [Act.put, List.setIfInBounds_toArray, List.getElem_toArray, List.getElem_cons_zero, List.getElem_cons_succ, List.set_cons_succ, List.set_cons_zero])
  refine plan_alt rfl ?_ ?_
  ·refine wp_makeV _ rfl _ _ rfl .i64 .i64 _ _ N rfl rfl rfl rfl (by omega) (by unfold maxLen; omega) ?_
   intro sa sc V1 hown hb1
   have hb2 : Below Z.heap.size Z V1 := HY.out.trans (hb1.mono HY.out.size)
   have H1 := Lib.hid (And.intro hown hb2)
   clear hown hb1 hb2
   refine tail_mk H1.out.2 ?_
   repeat (
    refine plan_take (v := ?_) rfl (Or.inl ⟨by rfl, ?_⟩) ?_
    rotate_left
    ·(intro W hW; have c1 := (HC.out.1.below hW).bx 1 _ rfl; have c6 := (HC.out.1.below hW).bx 6 _ rfl; have c8 : W.cell? ⟨b, 8, none⟩ = some (.slice y.os.a y.os.n y.os.c) := (HC.out.1.below hW).bx 8 _ rfl; have p4 := (HV.out W ((HC.out.1.below hW).bel)).1; (try go_simp); try with_reducible rfl)
    simp only [Act.put, List.setIfInBounds_toArray, List.getElem_toArray, List.getElem_cons_zero, List.getElem_cons_succ, List.set_cons_succ, List.set_cons_zero])
   refine plan_alt rfl ?_ plan_stop
   go_wp2_with fail
   refine tail_mk (H1.out.2.alloc H1.out.2.size _) ?_
   refine plan_alt rfl ?_ plan_stop
   go_wp2_with fail
   have hb3 : Below Z.heap.size Z (V1.alloc (.cells #[.int .i64 (fn : Int), .int .i64 0, .int .i64 m.n, .int .i64 ((y.os.n : Int) - 1), .slice sa N sc, .int .i64 0, .int .i64 0, .int .i64 0] 69)) := H1.out.2.alloc H1.out.2.size _
   have HE := Lib.hid (show EnS (W0 := W0) (u := u) (v0 := v0) (v1 := .slice fa F fc) (b := b) y m Z fn V1.heap.size ⟨sa, N, sc⟩ (List.replicate N default) (V1.alloc (.cells #[.int .i64 (fn : Int), .int .i64 0, .int .i64 m.n, .int .i64 ((y.os.n : Int) - 1), .slice sa N sc, .int .i64 0, .int .i64 0, .int .i64 0] 69)) from
    ⟨HC.out.1.below hb3, hb3, ⟨H1.out.2.size, by rw [World.size_alloc]; omega⟩, fun e => by have := (OwnE.lt H1.out.1 _ e).2; omega, by rw [← HC.out.2.2.1]; exact cells_new rfl, (H1.out.1.mono9 HY.out.size).grown (grownBy_alloc V1 _) (by show (Value.slice sa N sc).ownBlock = none ∨ _; cases (Value.slice sa N sc).ownBlock <;> simp), fun q hq => HC.out.1.rlo q hq, HC.out.1.bel.size⟩)
   have HB3 := Lib.hid hb3
   clear hb3
   refine tail_mk HB3.out ?_
   refine plan_done ?_
   go_wp2_with fail
   go_meet
   case rel => exact ⟨_, _, rfl, HE.out⟩
  ·refine plan_alt rfl ?_ plan_stop
   go_wp2_with fail
   have hN := heap_alloc_new V (.cells #[.int .i64 0, .int .i64 0, .int .i64 0, .int .i64 0, .slice none 0 0, .int .i64 0, .int .i64 0, .int .i64 0] 69)
   have hA : Below Z.heap.size Z (V.alloc (.cells #[.int .i64 0, .int .i64 0, .int .i64 0, .int .i64 0, .slice none 0 0, .int .i64 0, .int .i64 0, .int .i64 0] 69)) := HY.out.alloc HY.out.size _
   have HA := Lib.hid (And.intro hN hA)
   clear hN hA
   refine tail_mk HA.out.2 ?_
   refine plan_alt rfl ?_ plan_stop
   refine wp_makeV _ rfl _ _ rfl .i64 .i64 _ _ N rfl rfl rfl rfl (by omega) (by unfold maxLen; omega) ?_
   intro sa sc V1 hown hb1
   have hb2 : Below Z.heap.size Z V1 := HA.out.2.trans (hb1.mono HA.out.2.size)
   have hN1 : V1.heap[V.heap.size]? = some (.cells #[.int .i64 0, .int .i64 0, .int .i64 0, .int .i64 0, .slice none 0 0, .int .i64 0, .int .i64 0, .int .i64 0] 69) := by
    rw [hb1.block V.heap.size (by rw [World.size_alloc]; omega)]; exact HA.out.1
   obtain ⟨hcs, hfz, hst, hgr⟩ := stN_block hN1 [.int .i64 (fn : Int), .int .i64 0, .int .i64 m.n, .int .i64 ((y.os.n : Int) - 1), .slice sa N sc, .int .i64 0, .int .i64 0, .int .i64 0] rfl
   have z0 : V1.cell? ⟨V.heap.size, 0, none⟩ = some (.int .i64 0) := hcs 0 (by decide)
   have z1 : V1.cell? ⟨V.heap.size, 1, none⟩ = some (.int .i64 0) := hcs 1 (by decide)
   have z2 : V1.cell? ⟨V.heap.size, 2, none⟩ = some (.int .i64 0) := hcs 2 (by decide)
   have z3 : V1.cell? ⟨V.heap.size, 3, none⟩ = some (.int .i64 0) := hcs 3 (by decide)
   have z4 : V1.cell? ⟨V.heap.size, 4, none⟩ = some (.slice none 0 0) := hcs 4 (by decide)
   have z5 : V1.cell? ⟨V.heap.size, 5, none⟩ = some (.int .i64 0) := hcs 5 (by decide)
   have z6 : V1.cell? ⟨V.heap.size, 6, none⟩ = some (.int .i64 0) := hcs 6 (by decide)
   have z7 : V1.cell? ⟨V.heap.size, 7, none⟩ = some (.int .i64 0) := hcs 7 (by decide)
   have f0 := hfz 0
   have f1 := hfz 1
   have f2 := hfz 2
   have f3 := hfz 3
   have f4 := hfz 4
   have f5 := hfz 5
   have f6 := hfz 6
   have f7 := hfz 7
   have H1 := Lib.hid (And.intro (And.intro hown hb2) (And.intro hb1 (And.intro hst hgr)))
   clear hown hb1 hb2 hcs hfz hst hgr hN1
   refine tail_mk H1.out.1.2 ?_
   repeat (
    refine plan_take (v := ?_) rfl (Or.inl ⟨by rfl, ?_⟩) ?_
    rotate_left
    ·(intro W hW; have c1 := (HC.out.1.below hW).bx 1 _ rfl; have c6 := (HC.out.1.below hW).bx 6 _ rfl; have c8 : W.cell? ⟨b, 8, none⟩ = some (.slice y.os.a y.os.n y.os.c) := (HC.out.1.below hW).bx 8 _ rfl; have p4 := (HV.out W ((HC.out.1.below hW).bel)).1; (try go_simp); try with_reducible rfl)
    simp only [Act.put, List.setIfInBounds_toArray, List.getElem_toArray, List.getElem_cons_zero, List.getElem_cons_succ, List.set_cons_succ, List.set_cons_zero])
   refine plan_alt rfl ?_ plan_stop
   have hb3 : Below Z.heap.size Z (stN V.heap.size V1 0 [.int .i64 (fn : Int), .int .i64 0, .int .i64 m.n, .int .i64 ((y.os.n : Int) - 1), .slice sa N sc, .int .i64 0, .int .i64 0, .int .i64 0]) := H1.out.1.2.grown H1.out.2.2.2 H1.out.1.2.size (fun q e => by injection e with e; have := HY.out.size; omega)
   have HE := Lib.hid (show EnS (W0 := W0) (u := u) (v0 := v0) (v1 := .slice fa F fc) (b := b) y m Z fn V.heap.size ⟨sa, N, sc⟩ (List.replicate N default) (stN V.heap.size V1 0 [.int .i64 (fn : Int), .int .i64 0, .int .i64 m.n, .int .i64 ((y.os.n : Int) - 1), .slice sa N sc, .int .i64 0, .int .i64 0, .int .i64 0]) from
    ⟨HC.out.1.below hb3, hb3, ⟨HY.out.size, by have h1 := H1.out.2.2.2.size; have h2 := H1.out.2.1.size; rw [World.size_alloc] at h2; omega⟩, fun e => by have := (OwnE.lt H1.out.1.1 _ e).1; rw [World.size_alloc] at this; omega, by have h9 := H1.out.2.2.1; rw [HC.out.2.2.1] at h9 ⊢; exact h9, (H1.out.1.1.mono9 (by rw [World.size_alloc]; have := HY.out.size; omega)).grown H1.out.2.2.2 (.inr fun e => by have := (OwnE.lt H1.out.1.1 _ e).1; rw [World.size_alloc] at this; omega), fun q hq => HC.out.1.rlo q hq, HC.out.1.bel.size⟩)
   have HB3 := Lib.hid hb3
   clear hb3
   go_wp2_with fail
   refine tail_mk HB3.out ?_
   refine plan_done ?_
   clear z0 z1 z2 z3 z4 z5 z6 z7 f0 f1 f2 f3 f4 f5 f6 f7
   go_wp2_with fail
   go_meet
   case rel => exact ⟨_, _, rfl, HE.out⟩
 case rest =>
 obtain ⟨bf, s, rfl, hE⟩ := hcut
 have HE := Lib.hid hE
 have hsn : s.n = N := (shapeV hE.row).trans (by simp)
 have hav : av.n = a.length := shapeV HC.out.2.1
 have HS := Lib.hid (And.intro hsn hav)
 clear hE hsn hav w1
 go_wp2_with fail
 go_loopw [7] (fun x wr => ∃ k : Nat, k ≤ a.length ∧ x = .int .i64 (k : Int) ∧ Hid (EnS (W0 := W0) (u := u) (v0 := v0) (v1 := .slice fa F fc) (b := b) y m Z fn bf s (padK a N k) wr)) (fun x _ => a.length - (intOf x).toNat)
 case atStart => exact ⟨0, by omega, rfl, by rw [padK_zero]; exact HE.out⟩
 case round =>
  clear HE
  obtain ⟨k, hk, rfl, hh⟩ := hrel
  have e1 : (av.n : Int) = (a.length : Int) := by rw [HS.out.2]
  by_cases hlt : k < a.length
  ·have hki : (k : Int) < (a.length : Int) := by omega
   have hkN : k < N := by omega
   have hpl : (padK a N k).length = N := padK_len (by omega) (by omega)
   have hEd := hh.out.below ((Below.refl _ _).drew)
   have hargs : OwnE elV wr.drew B9 50 av.v a := HC.out.2.1.grown (grownBy_below hEd.bel) (by cases av.v.ownBlock <;> simp)
   obtain ⟨i1, r1⟩ := OwnE.reads hargs sVa
   obtain ⟨i2, -⟩ := OwnE.reads hEd.row sVa
   have j1r := i1 (k : Int) (by omega) (by omega)
   have j2r := i2 (k : Int) (by omega) (by rw [hpl]; omega)
   rw [Int.toNat_natCast] at j1r j2r
   have hsv : s.v = .slice s.a N s.c := by unfold Sl.v; rw [HS.out.1]
   rw [hsv] at j2r
   have j1 : ∀ W, (Instr.indexAt 51 (.slice av.a av.n av.c) (.int .i64 (k : Int))).run Tryz.prog W = .ok (.pointer (some ⟨blk av.a, ofs av.a + k * 3, none⟩)) W := j1r
   have j2 : ∀ W, (Instr.indexAt 51 (.slice s.a N s.c) (.int .i64 (k : Int))).run Tryz.prog W = .ok (.pointer (some ⟨blk s.a, ofs s.a + k * 3, none⟩)) W := j2r
   obtain ⟨x, hx⟩ : ∃ x, x = nth a k := ⟨_, rfl⟩
   have x0 : wr.drew.cell? ⟨blk av.a, ofs av.a + k * 3, none⟩ = some (.int .i64 x.k) := by rw [hx]; exact r1 k hlt 0 _ rfl
   have x1 : wr.drew.cell? ⟨blk av.a, ofs av.a + k * 3 + 1, none⟩ = some (.int .i64 x.n) := by rw [hx]; exact r1 k hlt 1 _ rfl
   have x2 : wr.drew.cell? ⟨blk av.a, ofs av.a + k * 3 + 2, none⟩ = some (.int .i64 x.s) := by rw [hx]; exact r1 k hlt 2 _ rfl
   have d4 : wr.drew.cell? ⟨bf, 4, none⟩ = some (.slice s.a N s.c) := by rw [← hsv]; exact hEd.bx 4 _ rfl
   obtain ⟨vs, hvs⟩ : ∃ vs, vs = padK a N k := ⟨_, rfl⟩
   rw [← hvs] at hEd hpl
   have hrow : OwnE elV wr.drew Z.heap.size 50 (.slice s.a vs.length s.c) vs := by rw [hpl, ← hsv]; exact hEd.row
   have hset : vs.set k x = padK a N (k + 1) := by rw [hvs, hx]; exact padK_set hlt hkN
   have hkv : k < vs.length := by rw [hpl]; exact hkN
   have HQ := Lib.hid (And.intro (And.intro hEd hrow) (And.intro (show wr.drew.cell? ⟨bf, 4, none⟩ = some (.slice s.a N s.c) ∧ wr.drew.cell? ⟨blk av.a, ofs av.a + k * 3, none⟩ = some (.int .i64 x.k) ∧ wr.drew.cell? ⟨blk av.a, ofs av.a + k * 3 + 1, none⟩ = some (.int .i64 x.n) ∧ wr.drew.cell? ⟨blk av.a, ofs av.a + k * 3 + 2, none⟩ = some (.int .i64 x.s) from ⟨d4, x0, x1, x2⟩) (And.intro hset (And.intro hpl hsv))))
   clear hEd hargs i1 r1 i2 j1r j2r hsv hx x0 x1 x2 d4 hvs hrow hset hpl
   go_upto_region 4 with fail
   clear e1
   refine wp_region_mix [0, 1, 2, 3, 4, 5, 6, 7] [8] (fun w' => w'.cell? ⟨bf, 4, none⟩ = some (.slice s.a N s.c) ∧ w'.cell? ⟨blk av.a, ofs av.a + k * 3, none⟩ = some (.int .i64 x.k) ∧ w'.cell? ⟨blk av.a, ofs av.a + k * 3 + 1, none⟩ = some (.int .i64 x.n) ∧ w'.cell? ⟨blk av.a, ofs av.a + k * 3 + 2, none⟩ = some (.int .i64 x.s)) (by kernel_rfl) (by kernel_rfl) (by kernel_rfl) HQ.out.2.1 ?_
   repeat (
    refine wpHeads_cons (v := ?_) rfl (Or.inl ⟨by rfl, ?_⟩) ?_
    rotate_left
    ·(intro W hW; obtain ⟨x1, x2, x3, x4⟩ := hW; (try go_simp); try with_reducible rfl)
    simp only [Act.put, List.setIfInBounds_toArray, List.getElem_toArray, List.getElem_cons_zero, List.getElem_cons_succ, List.set_cons_succ, List.set_cons_zero])
   refine wpHeads_nil ?_
   refine wpTails_one rfl ?_
   go_wp2_with (refine wpList_storeP (E := elV) rfl _ _ rfl [.int .i64 x.k, .int .i64 x.n, .int .i64 x.s] szV HQ.out.1.2 k 0 hkv (elV.one x) x (by show 0 + 3 ≤ 3; omega) (by rfl) (by rfl) (by rfl) ?_; intro w11 hown hgr; have H11 := Lib.hid (And.intro hown hgr); clear hown hgr)
   have HE2 := Lib.hid (show EnS (W0 := W0) (u := u) (v0 := v0) (v1 := .slice fa F fc) (b := b) y m Z fn bf s (padK a N (k + 1)) w11 by
    have h1 := H11.out.1
    have h2 := H11.out.2
    rw [HQ.out.2.2.1, HQ.out.2.2.2.1, ← HQ.out.2.2.2.2] at h1
    rw [HQ.out.2.2.2.1, ← HQ.out.2.2.2.2] at h2
    exact HQ.out.1.1.put h1 h2)
   refine thenQ_mk ?_
   go_wp2_with fail
   go_roundw
   case rel => exact ⟨k + 1, by omega, by go_num, HE2.out⟩
   case measure => simp [intOf]; omega
  ·obtain rfl : k = a.length := by omega
   have hE := hh.out
   rw [padK_all] at hE
   obtain ⟨M, hM⟩ : ∃ M, M = m.n + 1 := ⟨_, rfl⟩
   have c6 : wr.cell? ⟨b, 6, none⟩ = some (.int .i64 m.n) := hE.mm.bx 6 _ rfl
   have f6 := hE.mm.frz 6
   have hMM := hE.mm.setN (m.n + 1)
   have hbf : bf ≠ b := hE.mm.mno (hE.no bf hE.lt.1)
   have hbx : (fkC bf [.int .i64 (fn : Int), .int .i64 0, .int .i64 m.n, .int .i64 ((m.ob.length : Int) - 1), s.v, .int .i64 0, .int .i64 0, .int .i64 0]).p (wr.setCell ⟨b, 6, none⟩ (.int .i64 (m.n + 1))) := fkC_grown hE.bx (grownBy_setCell _ _ _) (fun e => hbf (Option.some.inj e))
   have hro : OwnE elV (wr.setCell ⟨b, 6, none⟩ (.int .i64 (m.n + 1))) Z.heap.size 50 s.v (pad a N) := hE.row.grown (grownBy_setCell _ _ _) (.inr fun e => hE.mm.mno (hE.no b (OwnE.lt hE.row _ e).1) rfl)
   have HP := Lib.hid (And.intro hMM (And.intro hbx (And.intro hro (And.intro (show ∀ q, Z.heap.size ≤ q → y.rl q = .no from hE.no) (show W0.heap.size ≤ Z.heap.size from hE.w0)))))
   have HBF := Lib.hid hE.lt.1
   have hmn : m.n + 1 ≤ 9223372036854775807 := by have := HC.out.2.2.2.2.2.2.1; omega
   have hmn0 := HC.out.2.2.2.2.2.1
   clear hE hMM hbf hbx hro hh hlt hk
   go_upto_region 6 with fail
   clear c6 f6
   obtain ⟨W5, hW5⟩ : ∃ W5, W5 = wr.setCell ⟨b, 6, none⟩ (.int .i64 (m.n + 1)) := ⟨_, rfl⟩
   rw [← hW5] at HP ⊢
   obtain ⟨m1, hm1⟩ : ∃ m1 : Mch, m1 = { m with n := m.n + 1 } := ⟨_, rfl⟩
   rw [← hm1] at HP
   have HM1 := Lib.hid hm1
   have c5 : W5.cell? ⟨b, 5, none⟩ = some (.slice y.fs.a y.fs.n y.fs.c) := HP.out.1.bx 5 _ rfl
   obtain ⟨co, hco⟩ : ∃ c : Int, c = (m.ob.length : Int) - 1 := ⟨_, rfl⟩
   rw [← hco] at HP
   have HCO := Lib.hid hco
   have q0 := HP.out.2.1 0 _ rfl
   have q1 := HP.out.2.1 1 _ rfl
   have q2 := HP.out.2.1 2 _ rfl
   have q3 := HP.out.2.1 3 _ rfl
   have q4 : W5.cell? ⟨bf, 4, none⟩ = some (.slice s.a s.n s.c) := HP.out.2.1 4 _ rfl
   have q5 := HP.out.2.1 5 _ rfl
   have q6 := HP.out.2.1 6 _ rfl
   have q7 := HP.out.2.1 7 _ rfl
   have HQ := Lib.hid (show W5.drew.cell? ⟨b, 5, none⟩ = some (.slice y.fs.a y.fs.n y.fs.c) ∧ W5.drew.cell? ⟨bf, 0, none⟩ = some (.int .i64 (fn : Int)) ∧ W5.drew.cell? ⟨bf, 1, none⟩ = some (.int .i64 0) ∧ W5.drew.cell? ⟨bf, 2, none⟩ = some (.int .i64 m.n) ∧ W5.drew.cell? ⟨bf, 3, none⟩ = some (.int .i64 co) ∧ W5.drew.cell? ⟨bf, 4, none⟩ = some (.slice s.a s.n s.c) ∧ W5.drew.cell? ⟨bf, 5, none⟩ = some (.int .i64 0) ∧ W5.drew.cell? ⟨bf, 6, none⟩ = some (.int .i64 0) ∧ W5.drew.cell? ⟨bf, 7, none⟩ = some (.int .i64 0) from ⟨c5, q0, q1, q2, q3, q4, q5, q6, q7⟩)
   clear hW5 hm1 c5 q0 q1 q2 q3 q4 q5 q6 q7 hco
   refine wp_region_mix [0, 1, 2, 3, 4, 5] [6, 7, 8, 9, 10] (fun w' => w'.cell? ⟨b, 5, none⟩ = some (.slice y.fs.a y.fs.n y.fs.c) ∧ w'.cell? ⟨bf, 0, none⟩ = some (.int .i64 (fn : Int)) ∧ w'.cell? ⟨bf, 1, none⟩ = some (.int .i64 0) ∧ w'.cell? ⟨bf, 2, none⟩ = some (.int .i64 m.n) ∧ w'.cell? ⟨bf, 3, none⟩ = some (.int .i64 co) ∧ w'.cell? ⟨bf, 4, none⟩ = some (.slice s.a s.n s.c) ∧ w'.cell? ⟨bf, 5, none⟩ = some (.int .i64 0) ∧ w'.cell? ⟨bf, 6, none⟩ = some (.int .i64 0) ∧ w'.cell? ⟨bf, 7, none⟩ = some (.int .i64 0)) (by kernel_rfl) (by kernel_rfl) (by kernel_rfl) HQ.out ?_
   repeat (
    refine wpHeads_cons (v := ?_) rfl (Or.inl ⟨by rfl, ?_⟩) ?_
    rotate_left
    ·(intro W hW; obtain ⟨x1, x2, x3, x4, x5, x6, x7, x8, x9⟩ := hW; (try go_simp); try with_reducible rfl)
    simp only [Act.put, List.setIfInBounds_toArray, List.getElem_toArray, List.getElem_cons_zero, List.getElem_cons_succ, List.set_cons_succ, List.set_cons_zero])
   refine wpHeads_nil ?_
   have hMD := HP.out.1.below ((Below.refl W5.heap.size W5).drew)
   have hRD : OwnE elV W5.drew Z.heap.size 50 s.v (pad a N) := HP.out.2.2.1.grown (grownBy_below ((Below.refl W5.heap.size W5).drew)) (by cases s.v.ownBlock <;> simp)
   generalize W5.drew = V at *
   have g6 := grownBy_alloc V (.cells #[.int .i64 (fn : Int), .int .i64 0, .int .i64 m.n, .int .i64 co, .slice s.a s.n s.c, .int .i64 0, .int .i64 0, .int .i64 0] 69)
   have hM6 := hMD.below ((Below.refl _ _).alloc (Nat.le_refl _) (.cells #[.int .i64 (fn : Int), .int .i64 0, .int .i64 m.n, .int .i64 co, .slice s.a s.n s.c, .int .i64 0, .int .i64 0, .int .i64 0] 69))
   have hR6 : OwnE elV (V.alloc (.cells #[.int .i64 (fn : Int), .int .i64 0, .int .i64 m.n, .int .i64 co, .slice s.a s.n s.c, .int .i64 0, .int .i64 0, .int .i64 0] 69)) Z.heap.size 50 s.v (pad a N) := hRD.grown g6 (by cases s.v.ownBlock <;> simp)
   have hS6 := And.intro (g6.cell HQ.out.1 (by simp)) (And.intro (g6.cell HQ.out.2.1 (by simp)) (And.intro (g6.cell HQ.out.2.2.1 (by simp)) (And.intro (g6.cell HQ.out.2.2.2.1 (by simp)) (And.intro (g6.cell HQ.out.2.2.2.2.1 (by simp)) (And.intro (g6.cell HQ.out.2.2.2.2.2.1 (by simp)) (And.intro (g6.cell HQ.out.2.2.2.2.2.2.1 (by simp)) (And.intro (g6.cell HQ.out.2.2.2.2.2.2.2.1 (by simp)) (g6.cell HQ.out.2.2.2.2.2.2.2.2 (by simp)))))))))
   have H6 := Lib.hid (And.intro hS6 (And.intro hM6 hR6))
   have hfl : (frs m1 y.fv).length ≤ 64 := by rw [frs_len, HM1.out]; exact HC.out.2.2.2.2.1
   have hl1 : ((frs m1 y.fv).length + 1) * 80 ≤ 140737488355328 := by omega
   have hl2 : (frs m1 y.fv).length + 1 ≤ 1000000000000 := by omega
   clear g6 hM6 hR6 hS6 hMD hRD hfl
   refine wpTails_cons rfl ?_
   go_wp2_with fail
   refine tail_mk H6.out.1 ?_
   refine wpTails_cons rfl ?_
   refine wp_appendE (E := elF) sFr rfl rfl _ _ rfl (v := .slice y.fs.a y.fs.n y.fs.c) (l := frs m1 y.fv) (base := W0.heap.size) rfl V.heap.size rfl H6.out.2.1.fr ⟨(fn : Int), 0, m.n, co, s, default⟩ (cells_new (W := V) (cs := [.int .i64 (fn : Int), .int .i64 0, .int .i64 m.n, .int .i64 co, .slice s.a s.n s.c, .int .i64 0, .int .i64 0, .int .i64 0]) (t := 69) rfl) hl1 hl2 H6.out.2.1.bel.size ?_
   intro v' w3 hown hgr hat
   obtain ⟨s9, c9, rfl⟩ := hown.shape (n := (frs m1 y.fv).length + 1) (by simp)
   obtain ⟨⟨z5, f5⟩, rl', hno', hMF⟩ := H6.out.2.1.pushF (g := ⟨fn, 0, m.n, co, pad a N, default⟩) (s := s) (v' := ⟨s9, (frs m1 y.fv).length + 1, c9⟩) (H6.out.2.2.mono9 HP.out.2.2.2.2) (fun q e => HP.out.2.2.2.1 q (OwnE.lt H6.out.2.2 q e).1) hown hgr hat
   have hrow : ∀ q, y.fs.v.ownBlock = some q → y.rl q = .fr := fun q e => (H6.out.2.1.own .fr).2 q e
   have hbr : y.rl bf = .no := HP.out.2.2.2.1 bf HBF.out
   have hnb : some b ≠ y.fs.v.ownBlock := fun e => by have h1 := hrow b e.symm; rw [H6.out.2.1.rb] at h1; cases h1
   have hnf : some bf ≠ y.fs.v.ownBlock := fun e => by have h1 := hrow bf e.symm; rw [hbr] at h1; cases h1
   have hS7 := And.intro (hgr.cell H6.out.1.1 hnb) (And.intro (hgr.cell H6.out.1.2.1 hnf) (And.intro (hgr.cell H6.out.1.2.2.1 hnf) (And.intro (hgr.cell H6.out.1.2.2.2.1 hnf) (And.intro (hgr.cell H6.out.1.2.2.2.2.1 hnf) (And.intro (hgr.cell H6.out.1.2.2.2.2.2.1 hnf) (And.intro (hgr.cell H6.out.1.2.2.2.2.2.2.1 hnf) (And.intro (hgr.cell H6.out.1.2.2.2.2.2.2.2.1 hnf) (hgr.cell H6.out.1.2.2.2.2.2.2.2.2 hnf))))))))
   have z5 : w3.cell? ⟨b, 5, none⟩ = some (.slice y.fs.a y.fs.n y.fs.c) := z5
   have H7 := Lib.hid (And.intro hS7 hMF)
   clear hown hgr hat hno' hMF hrow hbr hnb hnf hS7 hl1 hl2
   refine tail_mk H7.out.1 ?_
   refine wpTails_cons rfl ?_
   go_wp2_with fail
   refine tail_mk H7.out.1 ?_
   refine wpTails_cons rfl ?_
   go_wp2_with fail
   refine tail_mk H7.out.1 ?_
   refine wpTails_one rfl ?_
   go_wp2_with fail
   refine thenQ_mk ?_
   go_wp2_with fail
   refine bodyPost_end (v := .tuple #[]) (results_none rfl _ _ _) rfl ?_
   refine ⟨rfl, { y with rl := rl', fs := ⟨s9, (frs m1 y.fv).length + 1, c9⟩, fv := y.fv ++ [s] }, ?_, rfl⟩
   have h1 := H7.out.2
   have e : ({ m1 with fr := m1.fr ++ [⟨fn, 0, m.n, co, pad a N, default⟩] } : Mch) = entP u m fn a := by
    rw [HM1.out, HCO.out, HC.out.2.2.2.1]; rfl
   rw [e] at h1
   exact h1
end Go.Proofs.YtnklnklkblgnfaaGreatDoor
end
section
namespace Go.Hir
open Go.Dfl (nth take_snoc)
open Go.Obs
theorem take_set {l : List Frm} {k : Nat} (h : k < l.length) (g : Frm) : (l.take (k + 1)).set k g = l.take k ++ [g] := by
 rw [take_snoc _ _ h, List.set_append]
 have h1 : (l.take k).length = k := by rw [List.length_take]; omega
 rw [if_neg (by rw [h1]; omega), h1, Nat.sub_self]; rfl
def FrV (u : Un) (fr : List Frm) : Prop := ∀ j, j < fr.length → (nth fr j).f < u.fs.length ∧ (nth fr j).i < (fnOf u (nth fr j)).cd.length
def CtV (u : Un) : Prop := ∀ f ∈ u.fs, ∀ x ∈ f.cd, x.ct = -1 ∨ (0 ≤ x.ct ∧ x.ct ≤ 1048576)
end Go.Hir
namespace Go.Proofs.YtnklnklkblgnfaaGreatDoor
open Go.RowKit Go.Dfl Go.Obs Go.Hir
open Go.Gra (gen_code gen_calls)
section
variable {W0 : World} {u : Un} {v0 v1 : Value} {b : Nat} {y : Ly} {m : Mch} {Z : World}
theorem MM.cutR (h : MM W0.heap.size W0 u v0 v1 b y m Z) {k : Nat} (hk : m.fr.length = k + 1) :
  (∀ W, (Instr.slice 62 (.slice y.fs.a y.fs.n y.fs.c) none (some (.int .i64 (k : Int))) none).run Tryz.prog W = .ok (.slice y.fs.a k y.fs.c) W) ∧
  MM W0.heap.size W0 u v0 v1 b { y with fs := ⟨y.fs.a, k, y.fs.c⟩, fv := y.fv.take k } { m with fr := m.fr.take k } (Z.setCell ⟨b, 5, none⟩ (.slice y.fs.a k y.fs.c)) := by
 have ho := h.fr
 have hn : y.fs.v = .slice y.fs.a (frs m y.fv).length y.fs.c := by unfold Sl.v; rw [h.nF, frs_len]
 rw [hn] at ho
 obtain ⟨h1, h2⟩ := OwnE.front sFr ho k (by rw [frs_len]; omega)
 refine ⟨?_, h.cutF (by omega) h2⟩
 intro W
 have := h1 W
 rw [frs_len, ← h.nF] at this; exact this
theorem code_at {f i : Nat} (hu : InS vFu W0 v1 u.fs) (hf : f < u.fs.length) (hi : i < (nth u.fs f).cd.length) :
  ∃ (fa : Option Addr) (fc : Nat) (xa : Option Addr) (xc : Nat) (v7 : Value), v1 = .slice fa u.fs.length fc ∧ (∀ W, (Instr.indexAt 25 (.slice fa u.fs.length fc) (.int .i64 (f : Int))).run Tryz.prog W = .ok (.pointer (some ⟨blk fa, ofs fa + f * 7, none⟩)) W) ∧ (∀ W, (Instr.indexAt 93 (.slice xa (nth u.fs f).cd.length xc) (.int .i64 (i : Int))).run Tryz.prog W = .ok (.pointer (some ⟨blk xa, ofs xa + i * 10, none⟩)) W) ∧ InS vI W0 v7 (nth (nth u.fs f).cd i).ar ∧
   ∀ Z, Below W0.heap.size W0 Z → Z.cell? ⟨blk fa, ofs fa + f * 7 + 6, none⟩ = some (.slice xa (nth u.fs f).cd.length xc) ∧ ∀ j x, (isC' (nth (nth u.fs f).cd i) v7)[j]? = some x → Z.cell? ⟨blk xa, ofs xa + i * 10 + j, none⟩ = some x := by
 obtain ⟨fa, fc, wa, wc, xa, xc, hv1, hFl, jf, ⟨-, hx⟩, hz⟩ := fu_at hu hf
 obtain ⟨_, _, he, -, xi, xcell⟩ := InS.is hx
 injection he with e1 e2 e3
 subst e1 e3
 obtain ⟨-, v7, hb, hc⟩ := xcell i hi
 refine ⟨fa, fc, xa, xc, v7, hv1, jf, fun W => ?_, hb.2.2.2.2.2.2.2.2.2, fun Z hZ => ⟨(hz Z hZ).2, fun j x hj => ?_⟩⟩
 ·have := xi (i : Int) (by omega) (by omega) W
  rw [Int.toNat_natCast] at this; exact this
 ·obtain ⟨h0, h1, h2, h3, h4, h5, h6, h7, h8, h9⟩ := hc Z hZ
  match j, hj with
  | 0, hj => simp at hj; rw [← hj]; exact h0
  | 1, hj => simp at hj; rw [← hj]; exact h1
  | 2, hj => simp at hj; rw [← hj]; exact h2
  | 3, hj => simp at hj; rw [← hj]; exact h3
  | 4, hj => simp at hj; rw [← hj]; exact h4
  | 5, hj => simp at hj; rw [← hj]; exact h5
  | 6, hj => simp at hj; rw [← hj]; exact h6
  | 7, hj => simp at hj; rw [← hj]; exact h7
  | 8, hj => simp at hj; rw [← hj]; exact h8
  | 9, hj => simp at hj; rw [← hj]; exact h9
  | j + 10, hj => simp at hj
end
end Go.Proofs.YtnklnklkblgnfaaGreatDoor
end
section
namespace Go.Proofs.YtnklnklkblgnfaaGreatDoor
open Go.RowKit Go.Dfl Go.Obs Go.Hir
open Go.Gra (gen_code gen_calls)
def cutM (m : Mch) (k : Nat) : Mch := { m with fr := m.fr.take k }
theorem cutM_len {m : Mch} {k : Nat} (h : k ≤ m.fr.length) : (cutM m k).fr.length = k := by show (m.fr.take k).length = k; rw [List.length_take, Nat.min_eq_left h]
theorem cutM_all (m : Mch) : cutM m m.fr.length = m := by unfold cutM; rw [List.take_length]
theorem cutM_tpN {m : Mch} {k : Nat} (h : k + 1 ≤ m.fr.length) : tpN (cutM m (k + 1)) = k := by unfold tpN; rw [cutM_len h]; rfl
theorem cutM_tp {m : Mch} {k : Nat} (h : k + 1 ≤ m.fr.length) : tp (cutM m (k + 1)) = nth m.fr k := by
 unfold tp; rw [cutM_tpN h]
 exact nth_take _ _ _ (by omega)
theorem cutM_cut {m : Mch} {k j : Nat} (h : j ≤ k) : ({ cutM m k with fr := (cutM m k).fr.take j } : Mch) = cutM m j := by
 show ({ m with fr := (m.fr.take k).take j } : Mch) = { m with fr := m.fr.take j }
 rw [List.take_take, Nat.min_eq_left h]
theorem rsP_of {u : Un} {m : Mch} {e : Vl} {l : List Frm} (h : rsK u e m.fr m.fr.length = l) : rsP u m e = ({ m with fr := l }, if l = [] then 2 else 0) := by unfold rsP; rw [h]
theorem OwnE.cap {α : Type} {E : El α} {w : World} {B : Nat} {e : TypeId} {s : Sl} {l : List α} (h : OwnE E w B e s.v l) : l.length ≤ s.c := by
 obtain ⟨-, ⟨h1, h2⟩ | ⟨g, cap, cur, hv, -, -, hc, -⟩⟩ := h
 ·omega
 ·unfold Sl.v at hv
  injection hv with e1 e2 e3
  omega
def RaS (W0 : World) (u : Un) (v0 v1 : Value) (b be : Nat) (y : Ly) (m : Mch) (e : Vl) (k : Nat) (Z : World) : Prop :=
 ∃ y' : Ly, MM W0.heap.size W0 u v0 v1 b y' (cutM m k) Z ∧ y'.en = y.en ∧ y'.rl = y.rl ∧ (fkC be [.int .i64 e.k, .int .i64 e.n, .int .i64 e.s]).p Z ∧ rsK u e m.fr m.fr.length = rsK u e m.fr k
set_option maxHeartbeats 6400000 in
set_option maxRecDepth 8000 in
theorem rRaise_any {W0 : World} {u : Un} {v0 v1 : Value} {b : Nat} {y : Ly} {m : Mch} {Z : World} (h : MM W0.heap.size W0 u v0 v1 b y m Z) (hd : m.fr.length ≤ 64) (hu : InS vFu W0 v1 u.fs) (hV : FrV u m.fr) (hct : CtV u) (e : Vl) :
  Calls Tryz.prog 32 #[.pointer (some ⟨b, 0, none⟩), vlV e] Z fun E Z' => E = .returned (.int .i64 (rsP u m e).2) ∧ ∃ y', MM W0.heap.size W0 u v0 v1 b y' (rsP u m e).1 Z' ∧ y'.en = y.en := by
 have hA := h.below ((Below.refl _ _).alloc (Nat.le_refl _) (.cells #[.int .i64 e.k, .int .i64 e.n, .int .i64 e.s] 50))
 have HS0 := Lib.hid (show RaS W0 u v0 v1 b Z.heap.size y m e m.fr.length (Z.alloc (.cells #[.int .i64 e.k, .int .i64 e.n, .int .i64 e.s] 50)) from ⟨y, by rw [cutM_all]; exact hA, rfl, rfl, cells_new rfl, rfl⟩)
 have HC := Lib.hid (And.intro hd (And.intro hu (And.intro hV (And.intro hct (show y.rl Z.heap.size = .no from h.rlo _ (Nat.le_refl _))))))
 clear h hd hu hV hct hA
 go_enter Tryz.func32, Tryz.ntmps32
 go_wp2_with fail
 refine gen_code (fun Z' => RaS W0 u v0 v1 b Z.heap.size y m e m.fr.length Z') HS0.out ?_
 intro Z1 hZ1
 obtain ⟨be, hbe⟩ : ∃ be, be = Z.heap.size := ⟨_, rfl⟩
 rw [← hbe] at hZ1 HC ⊢
 have HZ1 := Lib.hid hZ1
 clear hZ1 HS0 hbe
 go_loopg [] m.fr.length (fun k wr => k ≤ m.fr.length ∧ Hid (RaS W0 u v0 v1 b be y m e k wr))
 case atStart => exact ⟨Nat.le_refl _, HZ1.out⟩
 case round =>
  clear HZ1
  obtain ⟨hk, hh⟩ := hrel
  obtain ⟨y', hM, hen, hrl, hbe, hrs⟩ := hh.out
  have HM := Lib.hid hM
  have HR := Lib.hid (And.intro hen (And.intro hrl (And.intro hbe hrs)))
  have c5 : wr.cell? ⟨b, 5, none⟩ = some (.slice y'.fs.a y'.fs.n y'.fs.c) := hM.bx 5 _ rfl
  have hfn : y'.fs.n = gk := hM.nF.trans (cutM_len hk)
  rw [hfn] at c5
  clear hM hen hrl hbe hrs hh hfn
  by_cases hg : gk = 0
  ·subst hg
   have HP := Lib.hid (rsP_of (HR.out.2.2.2))
   go_wp2_with fail
   go_ret
   refine ⟨by rw [HP.out]; rfl, y', ?_, HR.out.1⟩
   rw [HP.out]
   have h1 := HM.out
   unfold cutM at h1
   rw [List.take_zero] at h1
   exact h1
  ·obtain ⟨k, hk1⟩ : ∃ k, gk = k + 1 := ⟨gk - 1, by omega⟩
   have hpos : 0 < gk := by omega
   have hposi : (0 : Int) < (gk : Int) := by omega
   have hkl : k < m.fr.length := by omega
   obtain ⟨g, hgd⟩ : ∃ g, g = nth m.fr k := ⟨_, rfl⟩
   have htn : tpN (cutM m gk) = k := by rw [hk1]; exact cutM_tpN (by omega)
   have htp : tp (cutM m gk) = g := by rw [hk1, hgd]; exact cutM_tp (by omega)
   have hln : (cutM m gk).fr.length = k + 1 := by rw [cutM_len hk, hk1]
   have HK := Lib.hid (And.intro hk1 (And.intro hgd (And.intro htn (And.intro htp hln))))
   have hgk64 : gk ≤ 64 := by have := HC.out.1; omega
   clear hg hk1 hgd htn htp hln
   go_wp2_with fail
   refine (rTop_any HM.out (by rw [HK.out.2.2.2.2]; omega) (by rw [HK.out.2.2.2.2]; have := HC.out.1; omega)).mono ?_
   rintro E W1 ⟨rfl, b1⟩
   have HM1 := Lib.hid (HM.out.below b1)
   have HB1 := Lib.hid ((fkC be _).k HR.out.2.2.1 b1)
   rw [HK.out.2.2.1]
   clear b1 c5 hpos hposi
   have hgV : g.f < u.fs.length ∧ g.i < (nth u.fs g.f).cd.length := by rw [HK.out.2.1]; exact HC.out.2.2.1 k hkl
   obtain ⟨fa, fc, xa, xc, v7, hv1, jf, ji, -, hz⟩ := code_at HC.out.2.1 hgV.1 hgV.2
   have c1 := HM1.out.bx 1 _ rfl
   rw [hv1] at c1
   obtain ⟨p6, px⟩ := hz W1 HM1.out.bel
   have x9 := px 9 _ rfl
   obtain ⟨q0, q1, -⟩ := HM1.out.rdT (by rw [HK.out.2.2.2.2]; omega)
   rw [HK.out.2.2.1, HK.out.2.2.2.1] at q0 q1
   obtain ⟨c, hc⟩ : ∃ c, c = (nth (nth u.fs g.f).cd g.i).ct := ⟨_, rfl⟩
   rw [← hc] at x9
   have HCT := Lib.hid (And.intro hc (show c = -1 ∨ (0 ≤ c ∧ c ≤ 1048576) by rw [hc]; exact HC.out.2.2.2.1 _ (nth_mem _ _ hgV.1) _ (nth_mem _ _ hgV.2)))
   clear hv1 hz px hc hgV
   go_upto_region 3 with fail
   go_cut [6] (fun q wx => q = .int .i64 c ∧ Below W1.heap.size W1 wx)
   case first =>
    go_quiet (fail)
    go_wp2_with fail
    go_meet
    case rel => exact ⟨rfl, qt_below (Qt.drewN _ _)⟩
   case rest =>
   obtain ⟨rfl, hb2⟩ := hcut
   have HM2 := Lib.hid (HM1.out.below hb2)
   have HB2 := Lib.hid ((fkC be _).k HB1.out hb2)
   clear hb2 c1 p6 x9 q0 q1 jf ji HM HM1 HB1
   by_cases hcm : c = -1
   ·have t1 : (c == -1) = true := by simp [hcm]
    have t2 : (c != -1) = false := by simp [hcm]
    have HR2 := Lib.hid (show rsK u e m.fr m.fr.length = rsK u e m.fr k by
     rw [HR.out.2.2.2, HK.out.1]
     show (if (isOf u (nth m.fr k)).ct ≠ -1 then _ else _) = _
     rw [if_neg]
     rw [← HK.out.2.1]
     intro h1
     exact h1 (by show (nth (nth u.fs g.f).cd g.i).ct = -1; rw [← HCT.out.1]; exact hcm))
    clear hcm
    have hMd := HM2.out.below ((Below.refl _ _).drew)
    obtain ⟨-, hcut⟩ := hMd.cutR HK.out.2.2.2.2
    have hfn : y'.fs.n = gk := hMd.nF.trans (by rw [HK.out.2.2.2.2, HK.out.1])
    have c5 : wc.drew.cell? ⟨b, 5, none⟩ = some (.slice y'.fs.a gk y'.fs.c) := by rw [← hfn]; exact hMd.bx 5 _ rfl
    have f5 : wc.drew.frozen? ⟨b, 5, none⟩ = false := hMd.frz 5
    have hne : be ≠ b := hMd.mno (by rw [HR.out.2.1]; exact HC.out.2.2.2.2)
    have hrs : RaS W0 u v0 v1 b be y m e k (wc.drew.setCell ⟨b, 5, none⟩ (.slice y'.fs.a k y'.fs.c)) :=
     ⟨{ y' with fs := ⟨y'.fs.a, k, y'.fs.c⟩, fv := y'.fv.take k }, by rw [cutM_cut (by have := HK.out.1; omega)] at hcut; exact hcut, HR.out.1, HR.out.2.1, fkC_grown ((fkC be _).k HB2.out ((Below.refl _ _).drew)) (grownBy_setCell _ _ _) (fun e => hne (Option.some.inj e)), HR2.out⟩
    have HRS := Lib.hid hrs
    have HS := Lib.hid c5
    have w1 : IntKind.i64.wrap ((gk : Int) - 1) = (k : Int) := by have h1 := HK.out.1; rw [IntWalk.i64_in _ (by omega)]; omega
    have w2 : (gk : Int) - 1 = (k : Int) := by have h1 := HK.out.1; omega
    have w3 : IntKind.i64.wrap (k : Int) = (k : Int) := IntWalk.i64_in _ (by omega)
    have hkc : k ≤ y'.fs.c := by have h1 := OwnE.cap hMd.fr; rw [frs_len, HK.out.2.2.2.2] at h1; omega
    clear hMd hcut hfn hne hrs
    go_upto_region 8 with fail
    clear t1 t2 c5 f5
    have f5 : wc.drew.frozen? ⟨b, 5, none⟩ = false := (HM2.out.below ((Below.refl _ _).drew)).frz 5
    refine wp_region_mix [0, 1, 2, 3, 4, 5, 6, 7, 8, 9, 10, 11] [12, 13, 14] (fun w' => w'.cell? ⟨b, 5, none⟩ = some (.slice y'.fs.a gk y'.fs.c)) (by kernel_rfl) (by kernel_rfl) (by kernel_rfl) HS.out ?_
    repeat (
     refine wpHeads_cons (v := ?_) rfl (Or.inl ⟨by rfl, ?_⟩) ?_
     rotate_left
     ·(intro W hW; have x1 := hW; (try go_simp); try with_reducible rfl)
     simp only [Act.put, List.setIfInBounds_toArray, List.getElem_toArray, List.getElem_cons_zero, List.getElem_cons_succ, List.set_cons_succ, List.set_cons_zero])
    refine wpHeads_nil ?_
    generalize wc.drew = V at *
    refine wpTails_cons rfl ?_
    go_wp2_with fail
    refine tail_mk HS.out ?_
    refine wpTails_cons rfl ?_
    go_wp2_with fail
    refine tail_mk HS.out ?_
    refine wpTails_one rfl ?_
    have z5 := HS.out
    go_wp2_with fail
    refine thenQ_mk ?_
    go_wp2_with fail
    go_roundg k
    case rel => exact ⟨by omega, HRS.out⟩
    case measure => exact (by have := HK.out.1; omega)
   ·have t1 : (c == -1) = false := by simpa using hcm
    have t2 : (c != -1) = true := by simpa using hcm
    obtain ⟨i, rfl⟩ : ∃ i : Nat, c = (i : Int) := by
     rcases HCT.out.2 with h1 | h1
     ·exact absurd h1 hcm
     ·exact ⟨c.toNat, by omega⟩
    have hp2 : 0 < (cutM m gk).fr.length := by rw [HK.out.2.2.2.2]; omega
    obtain ⟨f1, hM3, hK3⟩ := HM2.out.setAt hp2 i
    obtain ⟨-, q1, -⟩ := HM2.out.rdT hp2
    rw [HK.out.2.2.1] at f1 hM3 hK3 q1
    have hbo : y'.rl be = .no := by rw [HR.out.2.1]; exact HC.out.2.2.2.2
    have hB3 := Kp.fk hK3 hbo HB2.out
    have HRK := Lib.hid (show rsK u e m.fr m.fr.length = m.fr.take k ++ [{ g with i := i, ex := e }] by
     rw [HR.out.2.2.2, HK.out.1]
     show (if (isOf u (nth m.fr k)).ct ≠ -1 then _ else _) = _
     have hct2 : (isOf u (nth m.fr k)).ct = (i : Int) := by rw [← HK.out.2.1]; exact HCT.out.1.symm
     rw [hct2, if_pos hcm, ← HK.out.2.1, Int.toNat_natCast])
    have H3 := Lib.hid (And.intro hM3 hB3)
    have htp3 : tp (goN (cutM m gk) i) = { g with i := i } := by
     unfold goN
     rw [tp_up hp2, HK.out.2.2.2.1]
    have hln3 : (goN (cutM m gk) i).fr.length = k + 1 := by unfold goN; rw [up_ln]; exact HK.out.2.2.2.2
    have htn3 : tpN (goN (cutM m gk) i) = k := by unfold tpN; rw [hln3]; rfl
    have HT3 := Lib.hid (And.intro htp3 (And.intro hln3 htn3))
    clear hM3 hK3 hB3 hcm hbo htp3 hln3 htn3
    go_upto_region 6 with fail
    clear f1 q1 t1 t2
    obtain ⟨W3, hW3⟩ : ∃ W3, W3 = wc.setCell ⟨blk y'.fs.a, ofs y'.fs.a + k * 8 + 1, none⟩ (.int .i64 (i : Int)) := ⟨_, rfl⟩
    rw [← hW3] at H3 ⊢
    have e0 := H3.out.2 0 _ rfl
    have e1 := H3.out.2 1 _ rfl
    have e2 := H3.out.2 2 _ rfl
    obtain ⟨l, hl⟩ : ∃ l, l = frs (goN (cutM m gk) i) y'.fv := ⟨_, rfl⟩
    have hll : l.length = k + 1 := by rw [hl, frs_len, HT3.out.2.1]
    have hnk : nth l k = ⟨(g.f : Int), (i : Int), g.no, g.cl, nth y'.fv k, g.ex⟩ := by
     rw [hl, nth_frs (by rw [HT3.out.2.1]; omega)]
     have h1 : nth (goN (cutM m gk) i).fr k = { g with i := i } := by
      have h2 := HT3.out.1
      unfold tp at h2
      rw [HT3.out.2.2] at h2; exact h2
     rw [h1]
    have hrow : OwnE elF W3 W0.heap.size 69 (.slice y'.fs.a l.length y'.fs.c) l := by
     have h1 := H3.out.1.fr
     have h2 : y'.fs.v = .slice y'.fs.a l.length y'.fs.c := by unfold Sl.v; rw [hll, H3.out.1.nF, HT3.out.2.1]
     rw [← hl, h2] at h1; exact h1
    have hkl2 : k < l.length := by omega
    have hcc : elF.c ⟨(g.f : Int), (i : Int), g.no, g.cl, nth y'.fv k, e⟩ = (elF.c (nth l k)).take 5 ++ [.int .i64 e.k, .int .i64 e.n, .int .i64 e.s] ++ (elF.c (nth l k)).drop (5 + 3) := by rw [hnk]; rfl
    have HL := Lib.hid (And.intro hl (And.intro hll (And.intro hrow hcc)))
    clear hW3 hl hll hnk hrow hcc hp2
    go_wp2_with (refine wpList_storeP (E := elF) rfl _ _ rfl [.int .i64 e.k, .int .i64 e.n, .int .i64 e.s] szV HL.out.2.2.1 k 5 hkl2 (elV.one e) ⟨(g.f : Int), (i : Int), g.no, g.cl, nth y'.fv k, e⟩ (by show 5 + 3 ≤ 8; omega) HL.out.2.2.2 (by rw [← Nat.add_assoc]; rfl) (by rfl) ?_; intro w11 hown hgr; have H11 := Lib.hid (And.intro hown hgr); clear hown hgr)
    have hfin : MM W0.heap.size W0 u v0 v1 b y' (rsP u m e).1 w11 := by
     have h2 : y'.fs.v = .slice y'.fs.a l.length y'.fs.c := by unfold Sl.v; rw [HL.out.2.1, H3.out.1.nF, HT3.out.2.1]
     have h3 := H11.out.1
     have h4 := H11.out.2
     rw [← h2] at h3 h4
     rw [HL.out.1] at h3
     have h5 := H3.out.1.frw (Z' := w11) (g := { g with i := i, ex := e }) (by rw [HT3.out.2.1]; omega) (by rw [HT3.out.1]) h4 (by rw [HT3.out.2.2]; exact h3)
     have h6 : up (goN (cutM m gk) i) { g with i := i, ex := e } = (rsP u m e).1 := by
      rw [rsP_of HRK.out]
      unfold goN
      rw [up_up]
      show ({ cutM m gk with fr := (m.fr.take gk).set (tpN (cutM m gk)) { g with i := i, ex := e } } : Mch) = { m with fr := m.fr.take k ++ [{ g with i := i, ex := e }] }
      rw [HK.out.2.2.1, HK.out.1, take_set hkl]; rfl
     rw [← h6]; exact h5
    have hz : (rsP u m e).2 = 0 := by rw [rsP_of HRK.out]; show (if _ then _ else _) = _; rw [if_neg (by simp)]
    have HFI := Lib.hid (And.intro hz hfin)
    clear hz hfin
    go_ret
    exact ⟨by rw [HFI.out.1]; rfl, y', HFI.out.2, HR.out.1⟩
end Go.Proofs.YtnklnklkblgnfaaGreatDoor
end
