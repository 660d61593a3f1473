/- The claim. -/
import Derived.Deep.Cut
import Derived.ProofKit
import Derived.OpenShut
import Derived.ShutString
import Derived.ChangeOld
import Derived.Deep.SlicePairs
import Derived.Deep.Slices
import Derived.Test.YtgblfjccccdidaaGreatVbd
section
namespace Go.Proofs.YtgblfjccccdidaaGreat
open Go.RowKit Go.Dfl Go.Gra Go.Tj
structure RowsC (L : CL) (rw : Nat → List Nat) : Prop where
 eq : ∀ v, v < L.n → nth L.ll v = castL (rw v)
 lt : ∀ v w, w ∈ rw v → v < L.n ∧ w < L.n
 sz : ∀ v, (rw v).length ≤ 1000000
abbrev eC (rw : Nat → List Nat) (a b : Nat) : Prop := b ∈ rw a
def eachV (L : CL) : Value := .func (.func 35) #[] #[.pointer (some ⟨L.bs, 0, none⟩), .pointer (some ⟨L.bm, 0, none⟩)]
def RunR (L : CL) (rw : Nat → List Nat) (s0 : Ts) (root : Nat) (e : Ending) (W' : World) : Prop :=
 e = .returned (.tuple #[]) ∧ ∃ s nx op mg, RI (eC rw) L.n L.vars.toNat rw s0 root [] s nx op mg ∧ ClW L nx s.num s.low op s.stk s.cnt mg (.slice none 0 0) [] W'
theorem ClW.dropPt {L : CL} {nx ix lw : List Nat} {op : List Bool} {sk : List Nat} {cnt mg : Nat} {pv : Value} {pt : List Nat} {W : World} (h : ClW L nx ix lw op sk cnt mg pv pt W) : ClW L nx ix lw op sk cnt mg (.slice none 0 0) [] W := by
 obtain ⟨sv, s1, s2, -⟩ := h.sv
 exact ⟨h.t, ⟨sv, s1, s2, fun k hk => by simp [Value.ownBlock] at hk⟩, h.hN, h.hI, h.hL, h.hO, h.m, h.mf, Go.Dfl.Own.nil _ _ _ _, h.imm, h.bel, h.top, h.ln, h.li, h.le, h.lo⟩
theorem own_lit1 {W : World} {B : Nat} (x : Int) (hB : B ≤ W.heap.size) : OwnI (W.alloc (.cells #[.int .i64 x] 3)) B 3 (.slice (some ⟨W.heap.size, 0, none⟩) 1 1) [x] :=
 ⟨by simp, .inr ⟨W.heap.size, 1, #[.int .i64 x], rfl, hB, heap_alloc_new _ _, by simp, by unfold maxLen; omega, rfl, rfl⟩⟩
theorem ClW.row {L : CL} (hS : ClS L) {rw : Nat → List Nat} (hR : RowsC L rw) {v : Nat} (hv : v < L.n) : ∃ ra rc, nth L.us v = .slice ra (rw v).length rc := by
 have h := hS.gr.inn v (by rw [hS.gl]; exact hv)
 rw [hR.eq v hv] at h
 exact h.shape (by rw [castL_len])
theorem ClW.rdS {L : CL} {nx ix lw : List Nat} {op : List Bool} {sk : List Nat} {cnt mg : Nat} {pv : Value} {pt : List Nat} {W : World} (h : ClW L nx ix lw op sk cnt mg pv pt W) (hS : ClS L) {rw : Nat → List Nat} (hR : RowsC L rw) {v : Nat} (hv : v < L.n) {ra : Option Addr} {rc : Nat} (he : nth L.us v = .slice ra (rw v).length rc) :
  W.cell? ⟨blk L.su, ofs L.su + v, none⟩ = some (.slice ra (rw v).length rc) ∧ (∀ Y, (Instr.indexAt 27 (.slice L.su L.n L.cu) (.int .i64 (v : Int))).run Tryz.prog Y = .ok (.pointer (some ⟨blk L.su, ofs L.su + v, none⟩)) Y) ∧
   ∀ j, j < (rw v).length → W.cell? ⟨blk ra, ofs ra + j, none⟩ = some (.int .i64 ((nth (rw v) j : Nat) : Int)) ∧ ∀ Y, (Instr.indexAt 32 (.slice ra (rw v).length rc) (.int .i64 (j : Int))).run Tryz.prog Y = .ok (.pointer (some ⟨blk ra, ofs ra + j, none⟩)) Y := by
 have hsu := h.succ hS
 obtain ⟨a4, c4, he4, hm4, hidx4, hcell4, -⟩ := hsu.out.lst.out1 sRowsG
 have hvl : L.us.length = L.n := by rw [hsu.len]; exact hS.gl
 rw [hvl] at he4 hm4 hidx4 hcell4
 simp only [Value.slice.injEq] at he4
 obtain ⟨e1, -, e2⟩ := he4
 have ccl := hcell4 v hv
 rw [← e1, he] at ccl
 have hrow := hsu.inn v (by rw [hS.gl]; exact hv)
 rw [hR.eq v hv, he] at hrow
 refine ⟨ccl, fun Y => ?_, fun j hj => ?_⟩
 ·have i4 := hidx4 .i64 (v : Int) (by omega) (by omega) Y
  rw [Int.toNat_natCast, ← e1, ← e2] at i4
  exact i4
 ·obtain ⟨r1, i1, -⟩ := own_int hrow (castL_len _) hj
  rw [castL_nth hj] at r1
  exact ⟨r1, i1⟩
theorem own_cutC {α : Type} {f : α → Value} {P : Program} {t e : TypeId} {z : Value} {by8 : Nat} {w : World} {base : Nat} {v : Value} {l : List α} (ht : SliceOf P t e z 1 by8) (h : Go.Dfl.Own f w base e v l) {k : Nat} (hk : k ≤ l.length) :
  ∃ a c, (∀ (ik : IntKind) (W : World), (Instr.slice t v none (some (.int ik (k : Int))) none).run P W = .ok (.slice a k c) W) ∧ (Value.slice a k c).ownBlock = v.ownBlock ∧ ∀ Z, Go.Dfl.Own f Z base e v l → Go.Dfl.Own f Z base e (.slice a k c) (l.take k) := by
 obtain ⟨i, hi, _, hs, _⟩ := ht.info
 have hlt : (l.take k).length = k := by simp; omega
 obtain ⟨h1, ⟨rfl, h2⟩ | ⟨g, cap, cur, rfl, hg, hh, hc, hm, hsz, htk⟩⟩ := h
 ·obtain rfl : k = 0 := by omega
  refine ⟨none, 0, fun ik W => ?_, rfl, fun Z _ => by simpa using Go.Dfl.Own.nil f Z base e⟩
  simp [Instr.slice, run_underlying ht.und, Instr.sliceBounds, Instr.sliceBound, asIntOf, run_sizeOf _ hi]
 ·refine ⟨some ⟨g, 0, none⟩, cap, fun ik W => ?_, rfl, fun Z hZ => ?_⟩
  ·have h1' : k ≤ cap := by omega
   simp [Instr.slice, run_underlying ht.und, Instr.sliceBounds, Instr.sliceBound, asIntOf, h1', run_sizeOf _ hi, Addr.add]
  ·obtain ⟨h1, ⟨h2, h3⟩ | ⟨g', cap', cur', hv, hg', hh', hc', hm', hsz', htk'⟩⟩ := hZ
   ·simp at h2
   ·simp only [Value.slice.injEq, Option.some.injEq, Addr.mk.injEq] at hv
    obtain ⟨⟨rfl, -⟩, -, rfl⟩ := hv
    refine ⟨by simp, .inr ⟨g, cap, cur', by rw [hlt], hg', hh', by omega, hm', hsz', ?_⟩⟩
    rw [hlt, List.map_take, ← htk', List.take_take]
    congr 1
    omega
def Both (L : CL) (rw : Nat → List Nat) (s0 : Ts) (root : Nat) (F : List Tf) (s : Ts) (nx : List Nat) (op : List Bool) (mg : Nat) (pv : Value) (W : World) : Prop :=
 RI (eC rw) L.n L.vars.toNat rw s0 root F s nx op mg ∧ ClW L nx s.num s.low op s.stk s.cnt mg pv (grayF F) W
set_option maxHeartbeats 12800000 in
set_option maxRecDepth 100000 in
theorem run_any (L : CL) (hS : ClS L) (hvars : 0 ≤ L.vars) (hN : L.vars.toNat ≤ L.n) (rw : Nat → List Nat) (hR : RowsC L rw) (s0 : Ts) (nx : List Nat) (op : List Bool) (mg root : Nat) (W : World)
  (ok : FsOk (eC rw) L.n rw [] s0) (hnx : ∀ x, x < L.n → nth s0.num x = 0 → nth nx x = 0) (hop : ∀ x, x < L.n → nth op x = decide (nth s0.num x ≠ 0 ∧ nth s0.hd x < 0)) (hmg : mg = offH L.vars.toNat s0.hd)
  (h : ClW L nx s0.num s0.low op s0.stk s0.cnt mg (.slice none 0 0) [] W) (hr : root < L.n) (h0 : nth s0.num root = 0) :
  Calls Tryz.prog 55 #[.pointer (some ⟨L.bt, 0, none⟩), .int .i64 (root : Int), eachV L] W (RunR L rw s0 root) := by
 have hn8 := hS.n8
 have hrow : ∀ v w, eC rw v w ↔ w ∈ rw v := fun v w => Iff.rfl
 have hRI := RI.enter (N := L.vars.toNat) ok hnx hop h.lo hmg hr h0
 have hcle := ok.1.cle
 have hsl := ok.1.slen
 have HC := Lib.hid (And.intro hS (And.intro hvars (And.intro hN (And.intro hR (And.intro hrow (And.intro hRI h))))))
 have HE := Lib.hid (enter_any L hS nx s0.num s0.low op s0.stk s0.cnt mg (.slice none 0 0) [] root W h hr (by omega) (by omega))
 clear hS hvars hN hR hrow ok hnx hop hmg h h0 hRI hcle hsl
 unfold eachV
 go_enter Tryz.func55, Tryz.ntmps55
 go_wp2_with fail
 go_step3
 go_wp2_with fail
 refine HE.out.mono ?_
 rintro e W1 ⟨rfl, h1⟩
 have hT := h1.top
 have h2 := h1.rowPt HC.out.1 (W' := W1.alloc (.cells #[.int .i64 (root : Int)] 3)) (grownBy_alloc W1 _) (pt' := [root]) (own_lit1 (root : Int) hT) (.inr ⟨W1.heap.size, rfl, Nat.le_refl _⟩)
 have H2 := Lib.hid (show Both L rw s0 root [⟨root, 0, s0⟩] ⟨s0.cnt + 1, s0.num.set root (s0.cnt + 1), s0.low.set root (s0.cnt + 1), s0.hd, s0.stk ++ [root]⟩ nx (op.set root true) mg (.slice (some ⟨W1.heap.size, 0, none⟩) 1 1) _ from ⟨HC.out.2.2.2.2.2.1, h2⟩)
 clear h1 h2 hT HE
 go_wp2_with fail
 go_step3
 go_wp2_with fail
 go_loopg [6] (2 * (L.n - (s0.cnt + 1)) + 1) (fun g x wr => ∃ (F : List Tf) (s : Ts) (nx1 : List Nat) (op1 : List Bool) (mg1 : Nat) (pa : Option Addr) (pc : Nat), 2 * (L.n - s.cnt) + F.length ≤ g ∧ x = .slice pa F.length pc ∧ Hid (Both L rw s0 root F s nx1 op1 mg1 (.slice pa F.length pc) wr ∧ ∀ f r, F = f :: r → f.k ≤ (rw f.v).length))
 case atStart => exact ⟨[⟨root, 0, s0⟩], _, nx, _, mg, _, _, Nat.le_refl _, rfl, H2.out, fun f r e => by cases e; exact Nat.zero_le _⟩
 case round =>
  obtain ⟨F, s, nx1, op1, mg1, pa, pc, hg, rfl, hh⟩ := hrel
  have HH := Lib.hid hh.out
  clear hh
  cases F with
  | nil =>
    go_wp2_with fail
    refine bodyPost_ret (v := .tuple #[]) (results_none rfl _ _ _) rfl ?_
    exact ⟨rfl, s, nx1, op1, mg1, HH.out.1.1, HH.out.1.2.dropPt⟩
  | cons f r =>
    obtain ⟨hfn, -, -, -⟩ := HH.out.1.1.ok.lt
    have hcle := HH.out.1.1.ok.inv.1.cle
    have hflen := HH.out.1.1.ok.flen
    rw [List.length_cons] at hflen hg
    obtain ⟨P, hP⟩ : ∃ P, P = (f :: r).length := ⟨_, rfl⟩
    have hPr : P = r.length + 1 := hP
    have hpt := HH.out.1.2.pt
    rw [← hP] at hpt ⊢
    have hgl : (castL (grayF (f :: r))).length = P := by rw [castL_len, gray_len, hP]
    obtain ⟨p1, p2, -⟩ := own_int hpt hgl (x := r.length) (by omega)
    rw [castL_nth (by rw [gray_len]; simp), gray_last] at p1
    have hw : IntKind.i64.wrap ((P : Int) - 1) = (r.length : Int) := by rw [IntWalk.i64_in _ (by omega)]; omega
    have w0 : decide ((0 : Int) < (P : Int)) = true := decide_eq_true (by omega)
    have w0' : decide (0 < P) = true := decide_eq_true (by omega)
    have HP := Lib.hid (And.intro hP (And.intro hPr hgl))
    obtain ⟨m, hm⟩ : ∃ m, m = r.length := ⟨_, rfl⟩
    have HM := Lib.hid hm
    have HG := Lib.hid (And.intro hg (And.intro hflen (And.intro hcle hfn)))
    obtain ⟨v, hv⟩ : ∃ v, v = f.v := ⟨_, rfl⟩
    have HVV := Lib.hid hv
    rw [← hm] at p1 p2 hw
    rw [← hv] at p1 hfn
    clear hP hPr hgl hm hg hflen hcle hpt hv
    go_wp2_with fail
    clear p1 p2 hw w0 w0'
    have hst : Both L rw s0 root (⟨v, f.k, f.s0⟩ :: r) s nx1 op1 mg1 (.slice pa P pc) wr ∧ s.cnt = s.cnt := by
     have := HH.out.1
     rw [← HP.out.1] at this
     rw [HVV.out]
     exact ⟨this, rfl⟩
    have HST := Lib.hid hst
    have hfk := HH.out.2 f r rfl
    rw [← HVV.out] at hfk
    obtain ⟨ra, rc, hrv⟩ := ClW.row HC.out.1 HC.out.2.2.2.1 hfn
    have hrs := HC.out.2.2.2.1.sz v
    obtain ⟨rl, hrl⟩ : ∃ rl, rl = (rw v).length := ⟨_, rfl⟩
    rw [← hrl] at hfk hrs
    have HRV := Lib.hid (And.intro hrv hrl)
    clear hst hrv hrl
    go_loopg [6, 8] (rl - f.k) (fun g2 y _ wr => ∃ (k : Nat) (s1 : Ts) (nx2 : List Nat), k ≤ rl ∧ rl - k ≤ g2 ∧ y = .slice pa P pc ∧ Hid (Both L rw s0 root (⟨v, k, f.s0⟩ :: r) s1 nx2 op1 mg1 (.slice pa P pc) wr ∧ s1.cnt = s.cnt))
    case atStart => exact ⟨f.k, s, nx1, hfk, Nat.le_refl _, rfl, HST.out⟩
    case round =>
     obtain ⟨k, s1, nx2, hk, hg2, rfl, hh⟩ := hrel
     have HI := Lib.hid hh.out
     clear hh
     have hRI := HI.out.1.1
     have hnxk : nth nx2 v = k := hRI.nxt.1
     obtain ⟨n1, n2, n3⟩ := HI.out.1.2.rdN hfn
     rw [hnxk] at n1
     obtain ⟨u1, u2, u3⟩ := HI.out.1.2.rdS HC.out.1 HC.out.2.2.2.1 hfn HRV.out.1
     have t0 := HI.out.1.2.t.t0
     have t1 := HI.out.1.2.t.t1
     have t2 := HI.out.1.2.t.t2
     rw [← HRV.out.2] at u1 u3
     have HU := Lib.hid (And.intro u3 (And.intro hnxk hRI))
     clear u3 hnxk hRI
     by_cases hlt : k < rl
     ·
      have w1 : decide ((k : Int) < (rl : Int)) = true := decide_eq_true (by omega)
      have w1' : decide (k < rl) = true := decide_eq_true hlt
      go_upto_region 4 with fail
      go_quiet (fail)
      refine K_gen (fun Y => Both L rw s0 root (⟨v, k, f.s0⟩ :: r) s1 nx2 op1 mg1 (.slice pa P pc) Y) ⟨HI.out.1.1, HI.out.1.2.grow HC.out.1 (grownBy_drewN (grownBy_refl _ _) _)⟩ ?_
      intro Y hY
      have HY := Lib.hid hY
      clear hY n1 n2 n3 u1 u2 t0 t1 t2 w1 w1'
      obtain ⟨n1, n2, n3⟩ := HY.out.2.rdN hfn
      rw [HU.out.2.1] at n1
      obtain ⟨u1, u2, u3⟩ := HY.out.2.rdS HC.out.1 HC.out.2.2.2.1 hfn HRV.out.1
      rw [← HRV.out.2] at u1 u3
      obtain ⟨j1, j2⟩ := u3 k hlt
      have t0 := HY.out.2.t.t0
      have t1 := HY.out.2.t.t1
      have t2 := HY.out.2.t.t2
      clear u3
      have HJ := Lib.hid j1
      clear n3
      go_upto_region 5 with fail
      go_quiet (fail)
      refine K_gen (fun Y => Both L rw s0 root (⟨v, k, f.s0⟩ :: r) s1 nx2 op1 mg1 (.slice pa P pc) Y) ⟨HY.out.1, HY.out.2.grow HC.out.1 (grownBy_drewN (grownBy_refl _ _) _)⟩ ?_
      intro Y2 hY2
      have HY2 := Lib.hid hY2
      clear hY2 n1 n2 u1 u2 t0 t1 t2 j1 j2 HY HJ
      obtain ⟨w, hw⟩ : ∃ w, w = nth (rw v) k := ⟨_, rfl⟩
      rw [← hw]
      obtain ⟨n1, n2, n3⟩ := HY2.out.2.rdN hfn
      rw [HU.out.2.1] at n1
      have t1 := HY2.out.2.t.t1
      have hwk : IntKind.i64.wrap ((k : Int) + 1) = (k : Int) + 1 := IntWalk.i64_in _ (by omega)
      have hq := HY2.out.2.setNx HC.out.1 hfn (k + 1)
      rw [show ((k + 1 : Nat) : Int) = (k : Int) + 1 by omega] at hq
      have hwE : eC rw v w := by rw [hw]; exact nth_mem _ _ (by rw [← HRV.out.2]; exact hlt)
      have hwn := (HC.out.2.2.2.1.lt v w hwE).2
      have HQ := Lib.hid (And.intro hq (And.intro hw hwE))
      clear hq hw hwE
      go_upto_region 7 with fail
      refine gen_code (fun Z => ClW L (nx2.set v (k + 1)) s1.num s1.low op1 s1.stk s1.cnt mg1 (.slice pa P pc) (grayF (⟨v, k, f.s0⟩ :: r)) Z) HQ.out.1 ?_
      intro Z hZ
      have HZ := Lib.hid hZ
      clear hZ n1 n2 n3 t1 hwk
      obtain ⟨i1, i2, -⟩ := HZ.out.rdI hwn
      have t2 := HZ.out.t.t2
      have hRI := HY2.out.1
      have hkr : (⟨v, k, f.s0⟩ : Tf).k < (rw (⟨v, k, f.s0⟩ : Tf).v).length := by show k < (rw v).length; rw [← HRV.out.2]; exact hlt
      have HRI := Lib.hid (And.intro hRI (And.intro hkr HQ.out.2.1))
      clear hRI hkr
      by_cases h0 : nth s1.num w = 0
      ·rw [h0] at i1
       have hclt := HRI.out.1.ok.inv.1.clt hwn h0
       have hsl := HRI.out.1.ok.inv.1.slen
       have hpush := HRI.out.1.push (fun _ _ => Iff.rfl) HY2.out.2.ln HY2.out.2.lo HRI.out.2.1 HRI.out.2.2.symm hwn h0
       have HPU := Lib.hid (And.intro hpush (And.intro hclt HI.out.2))
       have HCALL := Lib.hid (enter_any L HC.out.1 (nx2.set v (k + 1)) s1.num s1.low op1 s1.stk s1.cnt mg1 (.slice pa P pc) (grayF (⟨v, k, f.s0⟩ :: r)) w Z HZ.out hwn (by omega) (by omega))
       clear hpush hclt hsl h0
       go_wp2_with fail
       refine HCALL.out.mono ?_
       rintro e Z5 ⟨rfl, h5⟩
       have H5 := Lib.hid h5
       have hB5 := h5.top
       have hgl5 : (castL (grayF (⟨v, k, f.s0⟩ :: r))).length = P := by rw [castL_len, gray_len, List.length_cons]; exact HP.out.2.1.symm
       have hll : (castL (grayF (⟨v, k, f.s0⟩ :: r))).length < 17592186044416 := by rw [hgl5]; have := HG.out.2.1; have := HG.out.2.2.1; have := HP.out.2.1; omega
       have hss : castL (grayF (⟨v, k, f.s0⟩ :: r)) ++ [(w : Int)] = castL (grayF (⟨w, 0, s1⟩ :: ⟨v, k, f.s0⟩ :: r)) := by
        show _ = castL (grayF (⟨v, k, f.s0⟩ :: r) ++ [w])
        unfold castL; rw [List.map_append]; rfl
       have HSS := Lib.hid (And.intro hss hgl5)
       clear h5 HCALL i1 i2 t2 hgl5 hss
       go_wp2_with (at_builtin; refine wp_append1at (f := Value.int .i64) sIntG rfl _ rfl _ _ rfl L.B (.slice pa P pc) (castL (grayF (⟨v, k, f.s0⟩ :: r))) rfl (H5.out.pt.alloc _) (w : Int) ⟨Z5.heap.size, 0, none⟩ rfl (cell_alloc1 _ _ _) rfl hll (by omega) (le_alloc _ hB5) ?_; intro v' w3 hown hgr hat; obtain ⟨s9, c9, rfl⟩ := hown.shape (n := P + 1) (by rw [List.length_append, HSS.out.2]; rfl); rw [HSS.out.1] at hown; have HO := Lib.hid (H5.out.rowPt HC.out.1 (grownBy_trans (grownBy_widen (grownBy_alloc Z5 (.cells #[.int .i64 (w : Int)] 3))) hgr) hown (hat.imp id fun e => ⟨_, e, by simp⟩)); clear hown hgr hat)
       go_roundg (2 * (L.n - (s1.cnt + 1)) + (P + 1))
       case measure => have h1 := HPU.out.2.1; have h2 := HPU.out.2.2; have h3 := HG.out.1; have h4 := HP.out.2.1; omega
       case rel =>
        have hlen : (⟨w, 0, s1⟩ :: ⟨v, k, f.s0⟩ :: r : List Tf).length = P + 1 := by simp only [List.length_cons]; have h4 := HP.out.2.1; omega
        refine ⟨⟨w, 0, s1⟩ :: ⟨v, k, f.s0⟩ :: r, ⟨s1.cnt + 1, s1.num.set w (s1.cnt + 1), s1.low.set w (s1.cnt + 1), s1.hd, s1.stk ++ [w]⟩, nx2.set v (k + 1), op1.set w true, mg1, s9, c9, by rw [hlen]; exact Nat.le_refl _, by rw [hlen], ?_, fun f2 r2 e => by cases e; exact Nat.zero_le _⟩
        rw [hlen]
        exact ⟨HPU.out.1, HO.out⟩
      ·have w2 : (((nth s1.num w : Nat) : Int) == 0) = false := by simpa using h0
       have hopw := HRI.out.1.op w hwn
       obtain ⟨o1, o2, -⟩ := HZ.out.rdO hwn
       have t4 := HZ.out.t.t4
       by_cases h1 : nth s1.hd w < 0
       ·rw [hopw, show decide (nth s1.num w ≠ 0 ∧ nth s1.hd w < 0) = true from decide_eq_true ⟨h0, h1⟩] at o1
        have hback := HRI.out.1.back (fun _ _ => Iff.rfl) HY2.out.2.ln HRI.out.2.1 HRI.out.2.2.symm hwn h0 h1
        have HBK := Lib.hid hback
        clear hback hopw h0 h1
        go_upto_region 11 with fail
        have hd := HZ.out.grow HC.out.1 (grownBy_drew0 Z)
        clear i1 i2 t2 o1 o2 t4
        have v2 := hd.t.t2
        have v3 := hd.t.t3
        obtain ⟨a1, a2, a3⟩ := hd.rdL hfn
        obtain ⟨b1, b2, -⟩ := hd.rdI hwn
        have hst := hd.setLw HC.out.1 hfn (min (nth s1.low v) (nth s1.num w))
        obtain ⟨la, hla⟩ : ∃ la, la = nth s1.low v := ⟨_, rfl⟩
        obtain ⟨lb, hlb⟩ : ∃ lb, lb = nth s1.num w := ⟨_, rfl⟩
        rw [← hla] at a1
        rw [← hlb] at b1
        rw [← hla, ← hlb, show ((min la lb : Nat) : Int) = min (la : Int) (lb : Int) by omega] at hst
        have HST2 := Lib.hid (And.intro hst (And.intro hla hlb))
        clear hd hst hla hlb
        refine wp_region_mix [0, 1, 2, 3, 4, 5, 6, 7, 8, 9, 10, 11, 12, 13, 14, 15, 16, 17, 18, 19] [20, 21] (fun w' => w'.cell? ⟨L.bt, 2, none⟩ = some (.slice L.si L.n L.ci) ∧ w'.cell? ⟨L.bt, 3, none⟩ = some (.slice L.sl L.n L.cl) ∧ w'.cell? ⟨blk L.sl, ofs L.sl + v, none⟩ = some (.int .i64 (la : Int)) ∧ w'.cell? ⟨blk L.si, ofs L.si + w, none⟩ = some (.int .i64 (lb : Int))) (by kernel_rfl) (by kernel_rfl) (by kernel_rfl) ⟨v2, v3, a1, b1⟩ ?_
        repeat (
         refine wpHeads_cons (v := ?_) rfl (Or.inl ⟨by rfl, ?_⟩) ?_
         rotate_left
         ·(intro W hW; obtain ⟨q1, q2, q3, q4⟩ := hW; go_simp; try with_reducible rfl)
         simp only [Act.put, List.setIfInBounds_toArray, List.getElem_toArray, List.getElem_cons_zero, List.getElem_cons_succ, List.set_cons_succ, List.set_cons_zero])
        refine wpHeads_nil ?_
        generalize Z.drew = Z1 at *
        refine wpTails_cons rfl ?_
        go_wp2_with fail
        refine tail_mk ⟨v2, v3, a1, b1⟩ ?_
        refine wpTails_one rfl ?_
        go_wp2_with fail
        refine thenQ_mk ?_
        clear v2 v3 a1 a2 a3 b1 b2
        go_wp2_with fail
        go_roundg (rl - (k + 1))
        case measure => omega
        case rel =>
         have hM := HST2.out.1
         have e9 : s1.low.set v (min la lb) = s1.low.set v (min (nth s1.low v) (nth s1.num w)) := by rw [HST2.out.2.1, HST2.out.2.2]
         rw [e9] at hM
         exact ⟨k + 1, _, nx2.set v (k + 1), by omega, Nat.le_refl _, rfl, ⟨HBK.out, hM⟩, HI.out.2⟩
       ·rw [hopw, show decide (nth s1.num w ≠ 0 ∧ nth s1.hd w < 0) = false from decide_eq_false fun h => h1 h.2] at o1
        have hdone := HRI.out.1.done HY2.out.2.ln HRI.out.2.2.symm h0 (by omega)
        have HDN := Lib.hid hdone
        clear hdone hopw h0 h1
        go_wp2_with fail
        go_roundg (rl - (k + 1))
        case measure => omega
        case rel => exact ⟨k + 1, _, nx2.set v (k + 1), by omega, Nat.le_refl _, rfl, ⟨HDN.out, HZ.out⟩, HI.out.2⟩
     ·obtain rfl : k = rl := by omega
      have w1 : decide ((k : Int) < (k : Int)) = false := decide_eq_false (by omega)
      have w1' : decide (k < k) = false := decide_eq_false (Nat.lt_irrefl k)
      go_upto_region 4 with fail
      go_quiet (fail)
      refine K_gen (fun Y => Both L rw s0 root (⟨v, k, f.s0⟩ :: r) s1 nx2 op1 mg1 (.slice pa P pc) Y) ⟨HI.out.1.1, HI.out.1.2.grow HC.out.1 (grownBy_drewN (grownBy_refl _ _) _)⟩ ?_
      intro Y hY
      have HY := Lib.hid hY
      clear hY n1 n2 n3 u1 u2 t0 t1 t2 w1 w1'
      have hmr := HM.out
      have hgl : (castL (grayF (⟨v, k, f.s0⟩ :: r))).length = m + 1 := by rw [castL_len, gray_len, List.length_cons, hmr]
      obtain ⟨qa, qc, hcut, hqb, hqo⟩ := own_cutC sIntG HY.out.2.pt (k := m) (by rw [hgl]; omega)
      have hqt : (castL (grayF (⟨v, k, f.s0⟩ :: r))).take m = castL (grayF r) := by
       unfold castL
       rw [← List.map_take, hmr, gray_take]
      rw [hqt] at hqo
      have hP1 := HY.out.2.rowPt HC.out.1 (grownBy_refl _ _) (hqo Y HY.out.2.pt) (.inl hqb)
      have hPm : P = m + 1 := by rw [hmr]; exact HP.out.2.1
      have hPle : P ≤ 8192 := by have h1 := HG.out.2.1; have h2 := HG.out.2.2.1; omega
      have hw : IntKind.i64.wrap ((P : Int) - 1) = (m : Int) := by rw [IntWalk.i64_in _ (by omega)]; omega
      have hcut1 := hcut .i64
      have HP1 := Lib.hid (And.intro hP1 (And.intro hPm hmr))
      have hfin := HY.out.1.ok.1.low1
      have HLOW := Lib.hid hfin
      have HCN := Lib.hid HI.out.2
      have hpk : ∀ f2 r2, popF r = f2 :: r2 → f2.k ≤ (rw f2.v).length := by
       have hl := HY.out.1.ok.2.1
       cases r with
       | nil => intro f2 r2 e; cases e
       | cons g q => intro f2 r2 e; cases e; exact hl.1
      have HPK := Lib.hid hpk
      clear hcut hqb hqo hqt hP1 hPm hmr hgl hfin hpk HI HU
      cases r with
      | nil =>
        have hm0 : m = 0 := HP1.out.2.2
        have w3 : decide ((0 : Int) < (m : Int)) = false := decide_eq_false (by omega)
        have w3' : decide (0 < m) = false := decide_eq_false (by omega)
        clear hm0
        go_upto_region 16 with fail
        obtain ⟨lw', hlw'⟩ : ∃ lw', lw' = popL s1.low v [] := ⟨_, rfl⟩
        have HLW := Lib.hid (show lw' = popL s1.low v [] ∧ nth lw' v = nth s1.low v from ⟨hlw', by rw [hlw']; rfl⟩)
        have HW := Lib.hid (show ClW L nx2 s1.num lw' op1 s1.stk s1.cnt mg1 (.slice qa m qc) (grayF []) Y by rw [hlw']; exact HP1.out.1)
        clear hlw' hw hcut1 w3 w3'
        obtain ⟨l1, l2, -⟩ := HW.out.rdL hfn
        rw [HLW.out.2] at l1
        obtain ⟨i1, i2, -⟩ := HW.out.rdI hfn
        have t2 := HW.out.t.t2
        have t3 := HW.out.t.t3
        by_cases hlt2 : nth s1.low v < nth s1.num v
        ·have w4 : (((nth s1.low v : Nat) : Int) == ((nth s1.num v : Nat) : Int)) = false := by simp; omega
         have HRI := Lib.hid (HY.out.1.leave1 (fun _ _ => Iff.rfl) HRV.out.2 hlt2)
         clear hlt2
         go_quiet (fail)
         refine K_gen (fun Z => ClW L nx2 s1.num lw' op1 s1.stk s1.cnt mg1 (.slice qa m qc) (grayF []) Z) (HW.out.grow HC.out.1 (grownBy_drewN (grownBy_refl _ _) _)) ?_
         intro Z hZ
         have HZ := Lib.hid hZ
         clear hZ l1 l2 i1 i2 t2 t3 w4
         go_wp2_with fail
         go_roundg (2 * (L.n - s1.cnt) + m)
         case measure => have h1 := HCN.out; have h2 := HG.out.1; have h3 := HP1.out.2.2; omega
         case rel =>
          have hlen : (popF []).length = m := by rw [popF_len]; exact HP1.out.2.2.symm
          refine ⟨popF [], ⟨s1.cnt, s1.num, popL s1.low v [], s1.hd, s1.stk⟩, nx2, op1, mg1, qa, qc, by rw [hlen]; exact Nat.le_refl _, by rw [hlen], ?_, HPK.out⟩
          rw [hlen]
          refine ⟨HRI.out, ?_⟩
          rw [popF_gray, ← HLW.out.1]
          exact HZ.out
        ·have heq : nth s1.low v = nth s1.num v := by have := HLOW.out; (try dsimp only at this); omega
         have w4 : (((nth s1.low v : Nat) : Int) == ((nth s1.num v : Nat) : Int)) = true := by simp [heq]
         obtain ⟨c, st, hst, hcl⟩ := HY.out.1.leave2 (fun _ _ => Iff.rfl) (fun a b hab => (HC.out.2.2.2.1.lt a b hab).2) HC.out.2.2.1 HRV.out.2 hlt2
         dsimp only at hst hcl
         have hI := HY.out.1.ok.inv.1
         have hnd := hI.nd
         have hsl := hI.slen
         have hltn : ∀ x ∈ s1.stk, x < L.n := fun x hx => hI.lt hx
         have hopn : ∀ x ∈ s1.stk, nth op1 x = true := fun x hx => by
          rw [HY.out.1.op x (hI.lt hx)]
          have := (hI.stkm x).1 hx
          exact decide_eq_true ⟨this.2.1, this.2.2⟩
         have hmgle : mg1 ≤ 8192 := by
          rw [HY.out.1.mg]
          unfold offH
          refine Nat.le_trans (List.length_filter_le _ _) ?_
          rw [List.length_range]
          exact Nat.le_trans HC.out.2.2.1 hn8
         have HCL := Lib.hid (And.intro hst (And.intro hcl (And.intro hnd (And.intro hltn (And.intro hopn (And.intro hsl hmgle))))))
         clear hlt2 heq hst hcl hI hnd hsl hltn hopn hmgle
         go_quiet (fail)
         refine K_gen (fun Z => ClW L nx2 s1.num lw' op1 s1.stk s1.cnt mg1 (.slice qa m qc) (grayF []) Z) (HW.out.grow HC.out.1 (grownBy_drewN (grownBy_refl _ _) _)) ?_
         intro Z hZ
         have HZ := Lib.hid hZ
         clear hZ l1 l2 i1 i2 t2 t3 w4
         go_wp2_with fail
         refine (close_any L HC.out.1 nx2 s1.num lw' op1 s1.stk st c s1.cnt mg1 (.slice qa m qc) (grayF []) v Z HZ.out HCL.out.1 HCL.out.2.2.1 HCL.out.2.2.2.1 HCL.out.2.2.2.2.1 (by have := HCL.out.2.2.2.2.2.1; omega)).mono ?_
         rintro e Z2 ⟨rfl, op', hop', h2⟩
         obtain ⟨SN, hSN⟩ : ∃ SN, SN = s1.stk.length := ⟨_, rfl⟩
         obtain ⟨sn0, hsn0⟩ : ∃ sn0, sn0 = st.length := ⟨_, rfl⟩
         obtain ⟨el, hel⟩ : ∃ el, el = (v :: c).length := ⟨_, rfl⟩
         have hlen3 : SN = sn0 + el := by rw [hSN, hsn0, hel, HCL.out.1, List.length_append]
         have hel0 : 0 < el := by rw [hel]; simp
         have hSN8 : SN ≤ 8192 := by rw [hSN]; exact Nat.le_trans HCL.out.2.2.2.2.2.1 hn8
         obtain ⟨sv, t5, t6, -⟩ := h2.sv
         obtain ⟨sa, sc, rfl⟩ := t6.shape (n := SN) (by rw [castL_len, hSN])
         have hdrop : (castL s1.stk).drop sn0 = castL (v :: c) := by
          rw [HCL.out.1, hsn0]; unfold castL; rw [List.map_append, List.drop_append_of_le_length (by rw [List.length_map]; exact Nat.le_refl _), List.drop_eq_nil_of_le (by rw [List.length_map]; exact Nat.le_refl _)]; rfl
         obtain ⟨ca, cc, hcut2, -, hci⟩ := t6.cutRest sIntG (k := sn0) (by rw [castL_len, ← hSN]; omega)
         rw [castL_len, ← hSN, show SN - sn0 = el by omega] at hcut2 hci
         rw [hdrop] at hci
         have hcut3 := hcut2 .i64
         have HCC := Lib.hid (And.intro (hci Z2 t6) (And.intro hop' (And.intro h2 (And.intro hSN (And.intro hsn0 (And.intro hel hlen3))))))
         rw [← hsn0]
         clear hcut2 hci hop' h2 hSN hsn0 hel hlen3 hdrop t6
         go_wp2_with fail
         refine (each_any L HC.out.1 HC.out.2.1 nx2 s1.num lw' op' s1.stk s1.cnt mg1 (.slice qa m qc) (grayF []) Z2 HCC.out.2.2.1 (.slice ca el cc) (v :: c) HCC.out.1 (by have h1 := HCC.out.2.2.2.2.2.1; have h2 := HCC.out.2.2.2.2.2.2; omega) (by have := HCL.out.2.2.2.2.2.2; omega)).mono ?_
         rintro e Z3 ⟨rfl, h3⟩
         obtain ⟨sv, t5', t6, s3⟩ := h3.sv
         have f5 := h3.t.tf 5
         obtain ⟨sa3, sc3, rfl⟩ := t6.shape (n := SN) (by rw [castL_len, HCC.out.2.2.2.1])
         obtain ⟨ta, tc, hcut4, htb, hto⟩ := own_cutC sIntG t6 (k := sn0) (by rw [castL_len, ← HCC.out.2.2.2.1]; have := HCC.out.2.2.2.2.2.2; omega)
         have htake : (castL s1.stk).take sn0 = castL st := by
          rw [HCL.out.1, HCC.out.2.2.2.2.1]; unfold castL; rw [List.map_append, List.take_append_of_le_length (by rw [List.length_map]; exact Nat.le_refl _), List.take_of_length_le (by rw [List.length_map]; exact Nat.le_refl _)]
         rw [htake] at hto
         have hcut5 := hcut4 .i64
         have h4 := h3.setSk HC.out.1 (hto Z3 t6) (fun q hq e => s3 q hq (by rw [← htb]; exact e))
         have H4 := Lib.hid h4
         clear hcut4 htb hto htake h4 h3 t6 s3 t5 hcut3
         go_wp2_with fail
         go_roundg (2 * (L.n - s1.cnt) + m)
         case measure => have h1 := HCN.out; have h2 := HG.out.1; have h3 := HP1.out.2.2; omega
         case rel =>
          have hlen : (popF []).length = m := by rw [popF_len]; exact HP1.out.2.2.symm
          obtain ⟨hd', hRI⟩ := HCL.out.2.1 op' HCC.out.2.1
          refine ⟨popF [], ⟨s1.cnt, s1.num, popL s1.low v [], hd', st⟩, nx2, op', mg1 + (below L.vars.toNat (v :: c) - 1), qa, qc, by rw [hlen]; exact Nat.le_refl _, by rw [hlen], ?_, HPK.out⟩
          rw [hlen]
          refine ⟨hRI, ?_⟩
          rw [popF_gray, ← HLW.out.1]
          exact H4.out
      | cons g q =>
        have hm1 : m = q.length + 1 := HP1.out.2.2
        have w3 : decide ((0 : Int) < (m : Int)) = true := decide_eq_true (by omega)
        have w3' : decide (0 < m) = true := decide_eq_true (by omega)
        obtain ⟨ql, hql⟩ : ∃ ql, ql = q.length := ⟨_, rfl⟩
        have hgl : (castL (grayF (g :: q))).length = m := by rw [castL_len, gray_len, hm1]; rfl
        obtain ⟨p1, p2, -⟩ := own_int HP1.out.1.pt hgl (x := ql) (by omega)
        rw [castL_nth (by rw [gray_len, hql]; simp), hql, gray_last, ← hql] at p1
        have hmle : m ≤ 8192 := by have := HP1.out.2.1; omega
        have hw2 : IntKind.i64.wrap ((m : Int) - 1) = (ql : Int) := by rw [IntWalk.i64_in _ (by omega)]; omega
        have hgn := HY.out.1.ok.tail_lt
        have hgv : g.v ≠ v := HY.out.1.ok.apart g (by simp)
        obtain ⟨u, hu⟩ : ∃ u, u = g.v := ⟨_, rfl⟩
        have HUG := Lib.hid hu
        rw [← hu] at p1 hgn hgv
        clear hm1 hql hgl hu hPle
        go_upto_region 15 with fail
        clear hw hw2 hcut1 w3 w3' p1 p2
        have hd := HP1.out.1.grow HC.out.1 (grownBy_drew0 Y)
        have v3 := hd.t.t3
        obtain ⟨a1, a2, a3⟩ := hd.rdL hgn
        obtain ⟨b1, b2, -⟩ := hd.rdL hfn
        have hst := hd.setLw HC.out.1 hgn (min (nth s1.low u) (nth s1.low v))
        obtain ⟨la, hla⟩ : ∃ la, la = nth s1.low u := ⟨_, rfl⟩
        obtain ⟨lb, hlb⟩ : ∃ lb, lb = nth s1.low v := ⟨_, rfl⟩
        rw [← hla] at a1
        rw [← hlb] at b1
        rw [← hla, ← hlb, show ((min la lb : Nat) : Int) = min (la : Int) (lb : Int) by omega] at hst
        have HST2 := Lib.hid (And.intro hst (And.intro hla (And.intro hlb hd.le)))
        clear hd hst hla hlb
        refine wp_region_mix [0, 1, 2, 3, 4, 5, 6, 7, 8, 9, 10, 11, 12, 13, 14, 15, 16, 17, 18, 19] [20, 21] (fun w' => w'.cell? ⟨L.bt, 3, none⟩ = some (.slice L.sl L.n L.cl) ∧ w'.cell? ⟨blk L.sl, ofs L.sl + u, none⟩ = some (.int .i64 (la : Int)) ∧ w'.cell? ⟨blk L.sl, ofs L.sl + v, none⟩ = some (.int .i64 (lb : Int))) (by kernel_rfl) (by kernel_rfl) (by kernel_rfl) ⟨v3, a1, b1⟩ ?_
        repeat (
         refine wpHeads_cons (v := ?_) rfl (Or.inl ⟨by rfl, ?_⟩) ?_
         rotate_left
         ·(intro W hW; obtain ⟨q1, q2, q3⟩ := hW; go_simp; try with_reducible rfl)
         simp only [Act.put, List.setIfInBounds_toArray, List.getElem_toArray, List.getElem_cons_zero, List.getElem_cons_succ, List.set_cons_succ, List.set_cons_zero])
        refine wpHeads_nil ?_
        generalize Y.drew = Y1 at *
        refine wpTails_cons rfl ?_
        go_wp2_with fail
        refine tail_mk ⟨v3, a1, b1⟩ ?_
        refine wpTails_one rfl ?_
        go_wp2_with fail
        refine thenQ_mk ?_
        clear v3 a1 a2 a3 b1 b2
        go_upto_region 16 with fail
        obtain ⟨lw', hlw'⟩ : ∃ lw', lw' = popL s1.low v (g :: q) := ⟨_, rfl⟩
        have hlv : nth lw' v = nth s1.low v := by
         rw [hlw']
         show nth (s1.low.set g.v _) v = _
         rw [nth_set, if_neg fun e => hgv (by rw [HUG.out]; exact e.1)]
        have HLW := Lib.hid (show lw' = popL s1.low v (g :: q) ∧ nth lw' v = nth s1.low v from ⟨hlw', hlv⟩)
        have e9 : s1.low.set u (min la lb) = lw' := by rw [hlw', HST2.out.2.1, HST2.out.2.2.1, HUG.out]; rfl
        have hWW := HST2.out.1
        rw [e9] at hWW
        refine gen_code (fun Z => ClW L nx2 s1.num lw' op1 s1.stk s1.cnt mg1 (.slice qa m qc) (grayF (g :: q)) Z) hWW ?_
        intro Y9 hY9
        have HW := Lib.hid hY9
        clear hlw' hlv e9 hWW hY9
        obtain ⟨l1, l2, -⟩ := HW.out.rdL hfn
        rw [HLW.out.2] at l1
        obtain ⟨i1, i2, -⟩ := HW.out.rdI hfn
        have t2 := HW.out.t.t2
        have t3 := HW.out.t.t3
        by_cases hlt2 : nth s1.low v < nth s1.num v
        ·have w4 : (((nth s1.low v : Nat) : Int) == ((nth s1.num v : Nat) : Int)) = false := by simp; omega
         have HRI := Lib.hid (HY.out.1.leave1 (fun _ _ => Iff.rfl) HRV.out.2 hlt2)
         clear hlt2
         go_quiet (fail)
         refine K_gen (fun Z => ClW L nx2 s1.num lw' op1 s1.stk s1.cnt mg1 (.slice qa m qc) (grayF (g :: q)) Z) (HW.out.grow HC.out.1 (grownBy_drewN (grownBy_refl _ _) _)) ?_
         intro Z hZ
         have HZ := Lib.hid hZ
         clear hZ l1 l2 i1 i2 t2 t3 w4
         go_wp2_with fail
         go_roundg (2 * (L.n - s1.cnt) + m)
         case measure => have h1 := HCN.out; have h2 := HG.out.1; have h3 := HP1.out.2.2; omega
         case rel =>
          have hlen : (popF (g :: q)).length = m := by rw [popF_len]; exact HP1.out.2.2.symm
          refine ⟨popF (g :: q), ⟨s1.cnt, s1.num, popL s1.low v (g :: q), s1.hd, s1.stk⟩, nx2, op1, mg1, qa, qc, by rw [hlen]; exact Nat.le_refl _, by rw [hlen], ?_, HPK.out⟩
          rw [hlen]
          refine ⟨HRI.out, ?_⟩
          rw [popF_gray, ← HLW.out.1]
          exact HZ.out
        ·have heq : nth s1.low v = nth s1.num v := by have := HLOW.out; (try dsimp only at this); omega
         have w4 : (((nth s1.low v : Nat) : Int) == ((nth s1.num v : Nat) : Int)) = true := by simp [heq]
         obtain ⟨c, st, hst, hcl⟩ := HY.out.1.leave2 (fun _ _ => Iff.rfl) (fun a b hab => (HC.out.2.2.2.1.lt a b hab).2) HC.out.2.2.1 HRV.out.2 hlt2
         dsimp only at hst hcl
         have hI := HY.out.1.ok.inv.1
         have hnd := hI.nd
         have hsl := hI.slen
         have hltn : ∀ x ∈ s1.stk, x < L.n := fun x hx => hI.lt hx
         have hopn : ∀ x ∈ s1.stk, nth op1 x = true := fun x hx => by
          rw [HY.out.1.op x (hI.lt hx)]
          have := (hI.stkm x).1 hx
          exact decide_eq_true ⟨this.2.1, this.2.2⟩
         have hmgle : mg1 ≤ 8192 := by
          rw [HY.out.1.mg]
          unfold offH
          refine Nat.le_trans (List.length_filter_le _ _) ?_
          rw [List.length_range]
          exact Nat.le_trans HC.out.2.2.1 hn8
         have HCL := Lib.hid (And.intro hst (And.intro hcl (And.intro hnd (And.intro hltn (And.intro hopn (And.intro hsl hmgle))))))
         clear hlt2 heq hst hcl hI hnd hsl hltn hopn hmgle
         go_quiet (fail)
         refine K_gen (fun Z => ClW L nx2 s1.num lw' op1 s1.stk s1.cnt mg1 (.slice qa m qc) (grayF (g :: q)) Z) (HW.out.grow HC.out.1 (grownBy_drewN (grownBy_refl _ _) _)) ?_
         intro Z hZ
         have HZ := Lib.hid hZ
         clear hZ l1 l2 i1 i2 t2 t3 w4
         go_wp2_with fail
         refine (close_any L HC.out.1 nx2 s1.num lw' op1 s1.stk st c s1.cnt mg1 (.slice qa m qc) (grayF (g :: q)) v Z HZ.out HCL.out.1 HCL.out.2.2.1 HCL.out.2.2.2.1 HCL.out.2.2.2.2.1 (by have := HCL.out.2.2.2.2.2.1; omega)).mono ?_
         rintro e Z2 ⟨rfl, op', hop', h2⟩
         obtain ⟨SN, hSN⟩ : ∃ SN, SN = s1.stk.length := ⟨_, rfl⟩
         obtain ⟨sn0, hsn0⟩ : ∃ sn0, sn0 = st.length := ⟨_, rfl⟩
         obtain ⟨el, hel⟩ : ∃ el, el = (v :: c).length := ⟨_, rfl⟩
         have hlen3 : SN = sn0 + el := by rw [hSN, hsn0, hel, HCL.out.1, List.length_append]
         have hel0 : 0 < el := by rw [hel]; simp
         have hSN8 : SN ≤ 8192 := by rw [hSN]; exact Nat.le_trans HCL.out.2.2.2.2.2.1 hn8
         obtain ⟨sv, t5, t6, -⟩ := h2.sv
         obtain ⟨sa, sc, rfl⟩ := t6.shape (n := SN) (by rw [castL_len, hSN])
         have hdrop : (castL s1.stk).drop sn0 = castL (v :: c) := by
          rw [HCL.out.1, hsn0]; unfold castL; rw [List.map_append, List.drop_append_of_le_length (by rw [List.length_map]; exact Nat.le_refl _), List.drop_eq_nil_of_le (by rw [List.length_map]; exact Nat.le_refl _)]; rfl
         obtain ⟨ca, cc, hcut2, -, hci⟩ := t6.cutRest sIntG (k := sn0) (by rw [castL_len, ← hSN]; omega)
         rw [castL_len, ← hSN, show SN - sn0 = el by omega] at hcut2 hci
         rw [hdrop] at hci
         have hcut3 := hcut2 .i64
         have HCC := Lib.hid (And.intro (hci Z2 t6) (And.intro hop' (And.intro h2 (And.intro hSN (And.intro hsn0 (And.intro hel hlen3))))))
         rw [← hsn0]
         clear hcut2 hci hop' h2 hSN hsn0 hel hlen3 hdrop t6
         go_wp2_with fail
         refine (each_any L HC.out.1 HC.out.2.1 nx2 s1.num lw' op' s1.stk s1.cnt mg1 (.slice qa m qc) (grayF (g :: q)) Z2 HCC.out.2.2.1 (.slice ca el cc) (v :: c) HCC.out.1 (by have h1 := HCC.out.2.2.2.2.2.1; have h2 := HCC.out.2.2.2.2.2.2; omega) (by have := HCL.out.2.2.2.2.2.2; omega)).mono ?_
         rintro e Z3 ⟨rfl, h3⟩
         obtain ⟨sv, t5', t6, s3⟩ := h3.sv
         have f5 := h3.t.tf 5
         obtain ⟨sa3, sc3, rfl⟩ := t6.shape (n := SN) (by rw [castL_len, HCC.out.2.2.2.1])
         obtain ⟨ta, tc, hcut4, htb, hto⟩ := own_cutC sIntG t6 (k := sn0) (by rw [castL_len, ← HCC.out.2.2.2.1]; have := HCC.out.2.2.2.2.2.2; omega)
         have htake : (castL s1.stk).take sn0 = castL st := by
          rw [HCL.out.1, HCC.out.2.2.2.2.1]; unfold castL; rw [List.map_append, List.take_append_of_le_length (by rw [List.length_map]; exact Nat.le_refl _), List.take_of_length_le (by rw [List.length_map]; exact Nat.le_refl _)]
         rw [htake] at hto
         have hcut5 := hcut4 .i64
         have h4 := h3.setSk HC.out.1 (hto Z3 t6) (fun q hq e => s3 q hq (by rw [← htb]; exact e))
         have H4 := Lib.hid h4
         clear hcut4 htb hto htake h4 h3 t6 s3 t5 hcut3
         go_wp2_with fail
         go_roundg (2 * (L.n - s1.cnt) + m)
         case measure => have h1 := HCN.out; have h2 := HG.out.1; have h3 := HP1.out.2.2; omega
         case rel =>
          have hlen : (popF (g :: q)).length = m := by rw [popF_len]; exact HP1.out.2.2.symm
          obtain ⟨hd', hRI⟩ := HCL.out.2.1 op' HCC.out.2.1
          refine ⟨popF (g :: q), ⟨s1.cnt, s1.num, popL s1.low v (g :: q), hd', st⟩, nx2, op', mg1 + (below L.vars.toNat (v :: c) - 1), qa, qc, by rw [hlen]; exact Nat.le_refl _, by rw [hlen], ?_, HPK.out⟩
          rw [hlen]
          refine ⟨hRI, ?_⟩
          rw [popF_gray, ← HLW.out.1]
          exact H4.out
end Go.Proofs.YtgblfjccccdidaaGreat
end
section
namespace Go.Proofs.YtgblfjccccdidaaGreat
open Go.RowKit Go.Dfl Go.Gra Go.Tj
theorem raw_ownC {α : Type} {f : α → Value} {w : World} {base : Nat} {e : TypeId} {b n : Nat} (x0 : α) (h : w.ownsRow base e 1 (.slice (some ⟨b, 0, none⟩) n n) n (madeCells (f x0).cells (n * 1)).toList) (hz : (f x0).cells = #[f x0]) : Go.Dfl.Own f w base e (.slice (some ⟨b, 0, none⟩) n n) (List.replicate n x0) := by
 rw [made_cells (f x0) n hz] at h
 unfold Go.Dfl.Own
 simpa using h
def mksC (n : Nat) : List Go.Dfl.N.Mk := [Go.Dfl.N.mkS 2 11 10 3 n (.int .i64 0) 1, Go.Dfl.N.mkS 4 13 12 3 n (.int .i64 0) 1, Go.Dfl.N.mkS 6 15 14 3 n (.int .i64 0) 1, Go.Dfl.N.mkS 8 17 16 4 n (.bool false) 1]
def CompC (N n bm : Nat) (rw : Nat → List Nat) (W : World) (e : Ending) (W' : World) : Prop :=
 e = .returned (.tuple #[]) ∧ ∃ hd : List Int, hd.length = n ∧ (∀ v, v < n → ∃ m : Nat, nth hd v = (m : Int) ∧ IsHd (eC rw) v m) ∧ W'.cell? ⟨bm, 0, none⟩ = some (.int .i64 ((offH N hd : Nat) : Int)) ∧ W'.frozen? ⟨bm, 0, none⟩ = false ∧ W.grownBy W' (some bm)
def cLay (n bs bm b0 qn qi ql qo bt : Nat) (vars : Int) (su : Option Addr) (cu : Nat) (us : List Value) (ll : List (List Int)) (W0 : World) : CL :=
 { bt := bt, bm := bm, bs := bs, sn := some ⟨qn, 0, none⟩, si := some ⟨qi, 0, none⟩, sl := some ⟨ql, 0, none⟩, so := some ⟨qo, 0, none⟩, cn := n, ci := n, cl := n, co := n, su := su, cu := cu, us := us, B0 := b0, B := bt + 1,
   rl := fun q => if q = bt then 1 else if q = qn then 2 else if q = qi then 3 else if q = ql then 4 else if q = qo then 5 else if q = bm then 6 else 0, W0 := W0, n := n, vars := vars, ll := ll }
theorem castL_zero (n : Nat) : castL (List.replicate n 0) = List.replicate n (0 : Int) := by unfold castL; rw [List.map_replicate]; rfl
structure CpR (L : CL) (rw : Nat → List Nat) (k : Nat) (s : Ts) (nx : List Nat) (op : List Bool) (mg : Nat) (W : World) : Prop where
 ok : FsOk (eC rw) L.n rw [] s
 nx0 : ∀ x, x < L.n → nth s.num x = 0 → nth nx x = 0
 hop : ∀ x, x < L.n → nth op x = decide (nth s.num x ≠ 0 ∧ nth s.hd x < 0)
 hmg : mg = offH L.vars.toNat s.hd
 met : ∀ x, x < k → nth s.num x ≠ 0
 hm : ClW L nx s.num s.low op s.stk s.cnt mg (.slice none 0 0) [] W
set_option maxHeartbeats 6400000 in
set_option maxRecDepth 100000 in
theorem components_any (n bs bm b0 : Nat) (vars : Int) (su : Option Addr) (cu : Nat) (us : List Value) (ll : List (List Int)) (rw : Nat → List Nat) (W : World)
  (hn8 : n ≤ 8192) (hvars : 0 ≤ vars) (hN : vars.toNat ≤ n) (hs : W.cell? ⟨bs, 0, none⟩ = some (.int .i64 vars)) (hm : W.cell? ⟨bm, 0, none⟩ = some (.int .i64 0)) (hmf : W.frozen? ⟨bm, 0, none⟩ = false) (hbm : b0 ≤ bm) (hne : bs ≠ bm)
  (hsu : OwnN IIg W b0 32 (.slice su n cu) us ll) (hll : ll.length = n) (hfoot : ∀ q, Foot (.slice su n cu) us q → q ≠ bm)
  (hrw : ∀ v, v < n → nth ll v = castL (rw v)) (hlt : ∀ v w, w ∈ rw v → v < n ∧ w < n) (hsz : ∀ v, (rw v).length ≤ 1000000) :
  Calls Tryz.prog 33 #[.slice su n cu, .func (.func 35) #[] #[.pointer (some ⟨bs, 0, none⟩), .pointer (some ⟨bm, 0, none⟩)]] W (CompC vars.toNat n bm rw W) := by
 have hbmW : bm < W.heap.size := World.block_lt_of_cell? W _ hm
 have hbsW : bs < W.heap.size := World.block_lt_of_cell? W _ hs
 have HA := Lib.hid (And.intro hs (And.intro hm (And.intro hmf (And.intro hsu (And.intro hfoot (And.intro hrw (And.intro hlt hsz)))))))
 have HB := Lib.hid (And.intro hvars (And.intro hN (And.intro hbm (And.intro hne (And.intro hll (And.intro hbmW hbsW))))))
 clear hs hm hmf hsu hfoot hrw hlt hsz hvars hN hbm hne hll hbmW hbsW
 go_enter Tryz.func33, Tryz.ntmps33
 go_wp2_with fail
 refine Go.Dfl.N.wp_region_makes [0, 1, 3, 5, 7] (mksC n) [9, 10, 11] (fun _ => True) W.heap.size (Nat.le_refl _) (by kernel_rfl) (by simp [mksC, Go.Dfl.N.mkS]) (by simp [mksC, Go.Dfl.N.mkS]) (by kernel_rfl) (by kernel_rfl) (fun _ _ _ h => h) trivial ?_
 repeat (
  refine wpHeads_cons (v := ?_) rfl (Or.inl ⟨by rfl, ?_⟩) ?_
  rotate_left
  ·(intro W hW; go_simp; try with_reducible rfl)
  simp only [Act.put, List.setIfInBounds_toArray])
 refine wpHeads_nil ?_
 simp only [List.getElem_toArray, List.getElem_cons_zero, List.getElem_cons_succ, List.setIfInBounds_toArray, List.set_cons_zero, List.set_cons_succ]
 refine ⟨?_, ?_⟩
 ·intro m hm
  simp only [mksC, List.mem_cons, List.not_mem_nil, or_false] at hm
  rcases hm with rfl | rfl | rfl | rfl
  ·exact Go.Dfl.N.mkS_at sIntG ⟨_, rfl, rfl, rfl, rfl⟩ (by omega) (by unfold maxLen; omega) rfl
  ·exact Go.Dfl.N.mkS_at sIntG ⟨_, rfl, rfl, rfl, rfl⟩ (by omega) (by unfold maxLen; omega) rfl
  ·exact Go.Dfl.N.mkS_at sIntG ⟨_, rfl, rfl, rfl, rfl⟩ (by omega) (by unfold maxLen; omega) rfl
  ·exact Go.Dfl.N.mkS_at sBoolC ⟨_, rfl, rfl, rfl, rfl⟩ (by omega) (by unfold maxLen; omega) rfl
 intro bq W2 hE hS2
 simp only [mksC, List.foldl_cons, List.foldl_nil, Go.Dfl.N.mkS, List.setIfInBounds_toArray, List.set_cons_zero, List.set_cons_succ]
 obtain ⟨a1, a2, a3⟩ := hE.is (Go.Dfl.N.mkS 2 11 10 3 n (.int .i64 0) 1) (by simp [mksC])
 obtain ⟨b1, b2, b3⟩ := hE.is (Go.Dfl.N.mkS 4 13 12 3 n (.int .i64 0) 1) (by simp [mksC])
 obtain ⟨c1, c2, c3⟩ := hE.is (Go.Dfl.N.mkS 6 15 14 3 n (.int .i64 0) 1) (by simp [mksC])
 obtain ⟨d1, d2, d3⟩ := hE.is (Go.Dfl.N.mkS 8 17 16 4 n (.bool false) 1) (by simp [mksC])
 have x1 := hE.apart (Go.Dfl.N.mkS 2 11 10 3 n (.int .i64 0) 1) (by simp [mksC]) (Go.Dfl.N.mkS 4 13 12 3 n (.int .i64 0) 1) (by simp [mksC]) (by simp [Go.Dfl.N.mkS])
 have x2 := hE.apart (Go.Dfl.N.mkS 2 11 10 3 n (.int .i64 0) 1) (by simp [mksC]) (Go.Dfl.N.mkS 6 15 14 3 n (.int .i64 0) 1) (by simp [mksC]) (by simp [Go.Dfl.N.mkS])
 have x3 := hE.apart (Go.Dfl.N.mkS 2 11 10 3 n (.int .i64 0) 1) (by simp [mksC]) (Go.Dfl.N.mkS 8 17 16 4 n (.bool false) 1) (by simp [mksC]) (by simp [Go.Dfl.N.mkS])
 have x4 := hE.apart (Go.Dfl.N.mkS 4 13 12 3 n (.int .i64 0) 1) (by simp [mksC]) (Go.Dfl.N.mkS 6 15 14 3 n (.int .i64 0) 1) (by simp [mksC]) (by simp [Go.Dfl.N.mkS])
 have x5 := hE.apart (Go.Dfl.N.mkS 4 13 12 3 n (.int .i64 0) 1) (by simp [mksC]) (Go.Dfl.N.mkS 8 17 16 4 n (.bool false) 1) (by simp [mksC]) (by simp [Go.Dfl.N.mkS])
 have x6 := hE.apart (Go.Dfl.N.mkS 6 15 14 3 n (.int .i64 0) 1) (by simp [mksC]) (Go.Dfl.N.mkS 8 17 16 4 n (.bool false) 1) (by simp [mksC]) (by simp [Go.Dfl.N.mkS])
 have hg := hE.grown
 clear hE
 simp only [Go.Dfl.N.mkS] at a1 a2 a3 b1 b2 b3 c1 c2 c3 d1 d2 d3 x1 x2 x3 x4 x5 x6
 generalize bq 2 = qn at *
 generalize bq 4 = qi at *
 generalize bq 6 = ql at *
 generalize bq 8 = qo at *
 have oN := raw_ownC (f := Value.int .i64) 0 a1 rfl
 have oI := raw_ownC (f := Value.int .i64) 0 b1 rfl
 have oL := raw_ownC (f := Value.int .i64) 0 c1 rfl
 have oO := raw_ownC (f := Value.bool) false d1 rfl
 have hg0 : W.grownBy W2 none := grownBy_trans (grownBy_drew0 W) hg
 have HM := Lib.hid (And.intro oN (And.intro oI (And.intro oL (And.intro oO (And.intro hg0 (And.intro (And.intro a2 a3) (And.intro (And.intro b2 b3) (And.intro (And.intro c2 c3) (And.intro (And.intro d2 d3) (And.intro x1 (And.intro x2 (And.intro x3 (And.intro x4 (And.intro x5 x6))))))))))))))
 clear a1 a2 a3 b1 b2 b3 c1 c2 c3 d1 d2 d3 x1 x2 x3 x4 x5 x6 oN oI oL oO hg hg0 hS2
 refine wpTailsH_cons rfl ?_
 go_wp2_with fail
 refine tail_mk trivial ?_
 refine wpTailsH_cons rfl ?_
 go_wp2_with fail
 refine tail_mk trivial ?_
 refine wpTailsH_cons rfl ?_
 go_wp2_with fail
 refine tail_mk trivial ?_
 refine wpTailsH_nil ?_
 obtain ⟨cs, hcs⟩ : ∃ cs : List Value, cs = [.slice su n cu, .slice (some ⟨qn, 0, none⟩) n n, .slice (some ⟨qi, 0, none⟩) n n, .slice (some ⟨ql, 0, none⟩) n n, .slice (some ⟨qo, 0, none⟩) n n, .slice none 0 0, .int .i64 0] := ⟨_, rfl⟩
 obtain ⟨W3, hW3⟩ : ∃ W3, W3 = W2.alloc (.cells #[.slice su n cu, .slice (some ⟨qn, 0, none⟩) n n, .slice (some ⟨qi, 0, none⟩) n n, .slice (some ⟨ql, 0, none⟩) n n, .slice (some ⟨qo, 0, none⟩) n n, .slice none 0 0, .int .i64 0] 85) := ⟨_, rfl⟩
 rw [← hW3]
 have gA : W2.grownBy W3 none := by rw [hW3]; exact grownBy_alloc _ _
 have g03 := grownBy_trans HM.out.2.2.2.2.1 gA
 have hsz : W3.heap.size = W2.heap.size + 1 := by rw [hW3]; simp
 have hcell : ∀ j y, cs[j]? = some y → W3.cell? ⟨W2.heap.size, j, none⟩ = some y := by rw [hW3, hcs]; exact cells_new rfl
 have hfz : ∀ j, W3.frozen? ⟨W2.heap.size, j, none⟩ = false := fun j => by
  have hb := heap_alloc_new W2 (.cells #[.slice su n cu, .slice (some ⟨qn, 0, none⟩) n n, .slice (some ⟨qi, 0, none⟩) n n, .slice (some ⟨ql, 0, none⟩) n n, .slice (some ⟨qo, 0, none⟩) n n, .slice none 0 0, .int .i64 0] 85)
  rw [← hW3] at hb
  simp only [World.frozen?, hb]
  first | rfl | simp
 obtain ⟨bt, hbt⟩ : ∃ bt, bt = W2.heap.size := ⟨_, rfl⟩
 rw [← hbt] at hcell hfz hsz ⊢
 have h02 := HM.out.2.2.2.2.1.size
 obtain ⟨oN, oI, oL, oO, -, ⟨a2, a3⟩, ⟨b2, b3⟩, ⟨c2, c3⟩, ⟨d2, d3⟩, x1, x2, x3, x4, x5, x6⟩ := HM.out
 have a2 : W.heap.size ≤ qn := a2
 have b2 : W.heap.size ≤ qi := b2
 have c2 : W.heap.size ≤ ql := c2
 have d2 : W.heap.size ≤ qo := d2
 obtain ⟨hs, hm, hmf, hsu, hfoot, hrw, hlt, hszr⟩ := HA.out
 obtain ⟨hvars, hN, hbm, hne, hll, hbmW, hbsW⟩ := HB.out
 obtain ⟨L, hL⟩ : ∃ L, L = cLay n bs bm b0 qn qi ql qo bt vars su cu us ll W3 := ⟨_, rfl⟩
 have hfw : ∀ q, Foot (.slice su n cu) us q → q < W.heap.size := fun q hq => (hsu.foot kIIg q hq).2
 have r1 : L.rl bt = 1 := by rw [hL]; simp [cLay]
 have r2 : L.rl qn = 2 := by rw [hL]; simp [cLay]; omega
 have r3 : L.rl qi = 3 := by rw [hL]; simp only [cLay]; rw [if_neg (by omega), if_neg (by omega), if_pos trivial]
 have r4 : L.rl ql = 4 := by rw [hL]; simp only [cLay]; rw [if_neg (by omega), if_neg (by omega), if_neg (by omega), if_pos trivial]
 have r5 : L.rl qo = 5 := by rw [hL]; simp only [cLay]; rw [if_neg (by omega), if_neg (by omega), if_neg (by omega), if_neg (by omega), if_pos trivial]
 have r6 : L.rl bm = 6 := by rw [hL]; simp only [cLay]; rw [if_neg (by omega), if_neg (by omega), if_neg (by omega), if_neg (by omega), if_neg (by omega), if_pos trivial]
 have r0 : ∀ q, q < W.heap.size → q ≠ bm → L.rl q = 0 := fun q hq hqb => by rw [hL]; simp only [cLay]; rw [if_neg (by omega), if_neg (by omega), if_neg (by omega), if_neg (by omega), if_neg (by omega), if_neg hqb]
 have hLB : L.B = bt + 1 := by rw [hL]; rfl
 have hLn : L.n = n := by rw [hL]; rfl
 have hob : ∀ (b m q : Nat), (Value.slice (some ⟨b, 0, none⟩) m m).ownBlock = some q → q = b := fun b m q e => (Option.some.inj e).symm
 have hb03 : Below b0 W W3 := ⟨g03.os, g03.tape, g03.output, g03.size, fun k hk => g03.block k (by omega) (by simp)⟩
 have hS : ClS L := by
  rw [hL] at r1 r2 r3 r4 r5 r6 r0
  rw [hL]
  refine ⟨⟨r1, by show bt < bt + 1; omega, by show b0 ≤ bt; omega⟩, fun q hq => ?_, fun q hq => ?_, fun q hq => ?_, fun q hq => ?_, ⟨r6, by show bm < bt + 1; omega, hbm⟩, ⟨g03.cell hs (by simp), r0 bs hbsW hne, by show bs < bt + 1; omega⟩, hsu.grown kIIg g03 (by simp), hll, fun q hq => ⟨r0 q (hfw q hq) (hfoot q hq), by have := hfw q hq; show q < bt + 1; omega⟩, hn8, by show b0 ≤ bt + 1; omega⟩
  ·obtain rfl := hob _ _ _ hq; exact ⟨r2, by show q < bt + 1; omega⟩
  ·obtain rfl := hob _ _ _ hq; exact ⟨r3, by show q < bt + 1; omega⟩
  ·obtain rfl := hob _ _ _ hq; exact ⟨r4, by show q < bt + 1; omega⟩
  ·obtain rfl := hob _ _ _ hq; exact ⟨r5, by show q < bt + 1; omega⟩
 have hno : ∀ v : Value, v.ownBlock = none ∨ v.ownBlock ≠ none := fun v => by cases v.ownBlock <;> simp
 have hCW : ClW L (List.replicate n 0) (List.replicate n 0) (List.replicate n 0) (List.replicate n false) [] 0 0 (.slice none 0 0) [] W3 := by
  have k0 := hcell 0 _ (by rw [hcs]; rfl)
  have k1 := hcell 1 _ (by rw [hcs]; rfl)
  have k2 := hcell 2 _ (by rw [hcs]; rfl)
  have k3 := hcell 3 _ (by rw [hcs]; rfl)
  have k4 := hcell 4 _ (by rw [hcs]; rfl)
  have k5 := hcell 5 _ (by rw [hcs]; rfl)
  have k6 := hcell 6 _ (by rw [hcs]; rfl)
  have hle0 : b0 ≤ W.drew.heap.size := by show b0 ≤ W.heap.size; omega
  rw [hL]
  refine ⟨⟨k0, k1, k2, k3, k4, k6, hfz⟩, ⟨_, k5, Go.Dfl.Own.nil _ _ _ _, fun k hk => by simp [Value.ownBlock] at hk⟩, ?_, ?_, ?_, (oO.grown gA (hno _)).mono hle0, g03.cell hm (by simp), ?_, Go.Dfl.Own.nil _ _ _ _, fun q _ _ => rfl, Below.refl _ _, by show bt + 1 ≤ _; omega, by simp [cLay], by simp [cLay], by simp [cLay], by simp [cLay]⟩
  ·rw [castL_zero]; exact (oN.grown gA (hno _)).mono hle0
  ·rw [castL_zero]; exact (oI.grown gA (hno _)).mono hle0
  ·rw [castL_zero]; exact (oL.grown gA (hno _)).mono hle0
  ·show W3.frozen? ⟨bm, 0, none⟩ = false
   rw [World.frozen?_of_block (a := ⟨bm, 0, none⟩) (g03.block bm hbmW (by simp))]; exact hmf
 have hnth : ∀ x, nth (List.replicate n (0 : Nat)) x = 0 := fun x => by
  by_cases h : x < n
  ·simp [nth, h]
  ·rw [nth_out _ _ (by simp; omega)]; rfl
 have hnh : ∀ x, x < n → nth (List.replicate n (-1 : Int)) x = -1 := fun x h => by simp [nth, h]
 have hTI : FsOk (eC rw) L.n rw [] ⟨0, List.replicate n 0, List.replicate n 0, List.replicate n (-1), []⟩ := by
  rw [hLn]
  exact ⟨TI.start (by simp) (by simp) (fun v _ => hnth v) (fun v hv => by dsimp only; rw [hnh v hv]; omega), by simp⟩
 have hvarsL : L.vars = vars := by rw [hL]; rfl
 have hCp : CpR L rw 0 ⟨0, List.replicate n 0, List.replicate n 0, List.replicate n (-1), []⟩ (List.replicate n 0) (List.replicate n false) 0 W3 := by
  refine ⟨hTI, fun x _ _ => hnth x, fun x hx => ?_, ?_, fun x hx => by omega, hCW⟩
  ·rw [hLn] at hx
   dsimp only
   rw [hnth x, show nth (List.replicate n false) x = false by simp [nth, hx]]; simp
  ·dsimp only
   unfold offH
   rw [List.filter_eq_nil_iff.2 fun v hv => ?_]; rfl
   rw [hvarsL] at hv
   have := List.mem_range.1 hv
   rw [hnh v (by omega)]; simp
 have hR : RowsC L rw := ⟨fun v hv => by rw [hL]; rw [hLn] at hv; exact hrw v hv, fun v w h => by rw [hLn]; exact hlt v w h, hszr⟩
 have hbsL : L.bs = bs := by rw [hL]; rfl
 have hbmL : L.bm = bm := by rw [hL]; rfl
 have hbtL : L.bt = bt := by rw [hL]; rfl
 have hW0L : L.W0 = W3 := by rw [hL]; rfl
 have HL := Lib.hid (And.intro hS (And.intro hCp (And.intro hR (And.intro hLn (And.intro hvarsL (And.intro r0 (And.intro hLB (And.intro hW0L g03))))))))
 have HL2 := Lib.hid (And.intro hvars (And.intro hN (And.intro hbmW (show W.heap.size ≤ bt by omega))))
 clear hS hCp hR hLn hvarsL r0 hLB hW0L g03 hvars hN hbmW hbsW hs hm hmf hsu hfoot hrw hlt hszr hbm hne hll hL hfw r1 r2 r3 r4 r5 r6 hob hb03 hno hCW hnth hnh hTI hcell hfz hcs hW3 hsz hbt gA h02 oN oI oL oO a2 a3 b2 b3 c2 c3 d2 d3 x1 x2 x3 x4 x5 x6 HA HB HM
 rw [← hbsL, ← hbmL, ← hbtL]
 have HBM := Lib.hid hbmL
 clear hbsL hbmL hbtL
 go_wp2_with fail
 go_loopw [6, 21] (fun _ x wr => ∃ (k : Nat) (s : Ts) (nx : List Nat) (op : List Bool) (mg : Nat), k ≤ n ∧ x = .int .i64 (k : Int) ∧ Hid (CpR L rw k s nx op mg wr)) (fun _ x _ => n - (intOf x).toNat)
 case atStart => exact ⟨0, _, _, _, _, by omega, rfl, HL.out.2.1⟩
 case round =>
  obtain ⟨k, s, nx, op, mg, hk, rfl, hh⟩ := hrel
  have HH := Lib.hid hh.out
  clear hh
  by_cases hlt : k < n
  ·have hkn : k < L.n := by rw [HL.out.2.2.2.1]; exact hlt
   obtain ⟨i1, i2, -⟩ := HH.out.hm.rdI hkn
   have t2 := HH.out.hm.t.t2
   by_cases h0 : nth s.num k = 0
   ·rw [h0] at i1
    have hrun := run_any L HL.out.1 (by rw [HL.out.2.2.2.2.1]; exact HL2.out.1) (by rw [HL.out.2.2.2.2.1, HL.out.2.2.2.1]; exact HL2.out.2.1) rw HL.out.2.2.1 s nx op mg k wr HH.out.ok HH.out.nx0 HH.out.hop HH.out.hmg HH.out.hm hkn h0
    have HR := Lib.hid hrun
    clear hrun h0
    go_wp2_with fail
    refine HR.out.mono ?_
    rintro e W9 ⟨rfl, s', nx', op', mg', hRI, hm'⟩
    have hcp : CpR L rw (k + 1) s' nx' op' mg' W9 := ⟨hRI.ok, hRI.nx0, hRI.op, hRI.mg, fun x hx => by
     by_cases e : x = k
     ·subst e; exact hRI.rt
     ·exact hRI.keep x (by omega) (HH.out.met x (by omega)), hm'⟩
    have HC9 := Lib.hid hcp
    clear hRI hm' hcp i1 i2 t2 HR
    go_wp2_with fail
    go_roundw
    case rel => exact ⟨k + 1, s', nx', op', mg', by omega, by go_num, HC9.out⟩
    case measure => simp [intOf]; omega
   ·have w1 : (((nth s.num k : Nat) : Int) == 0) = false := by simpa using h0
    have HC9 := Lib.hid (show CpR L rw (k + 1) s nx op mg wr from ⟨HH.out.ok, HH.out.nx0, HH.out.hop, HH.out.hmg, fun x hx => by
     by_cases e : x = k
     ·subst e; exact h0
     ·exact HH.out.met x (by omega), HH.out.hm⟩)
    clear h0
    go_wp2_with fail
    go_roundw
    case rel => exact ⟨k + 1, s, nx, op, mg, by omega, by go_num, HC9.out⟩
    case measure => simp [intOf]; omega
  ·obtain rfl : k = n := by omega
   go_wp2_with fail
   refine bodyPost_ret (v := .tuple #[]) (results_none rfl _ _ _) rfl ?_
   have hTI := HH.out.ok.1
   have hmet : ∀ v, v < L.n → nth s.num v ≠ 0 := fun v hv => HH.out.met v (by rw [HL.out.2.2.2.1] at hv; exact hv)
   refine ⟨rfl, s.hd, by rw [hTI.lenH, HL.out.2.2.2.1], fun v hv => hTI.fin hmet (by rw [HL.out.2.2.2.1]; exact hv), ?_, by rw [← HBM.out]; exact HH.out.hm.mf, ?_⟩
   ·have := HH.out.hm.m
    rw [HH.out.hmg, HL.out.2.2.2.2.1, HBM.out] at this
    exact this
   ·have hb := HH.out.hm.bel
    rw [HL.out.2.2.2.2.2.2.2.1] at hb
    have him := HH.out.hm.imm
    have g03 := HL.out.2.2.2.2.2.2.2.2
    refine ⟨hb.os.trans g03.os, hb.tape.trans g03.tape, hb.output.trans g03.output, Nat.le_trans g03.size hb.size, fun q hq hne => ?_⟩
    have hqb : q ≠ bm := fun e => hne (by rw [e])
    rw [him q (by rw [HL.out.2.2.2.2.2.2.1]; have := HL2.out.2.2.2; omega) (HL.out.2.2.2.2.2.1 q hq hqb), HL.out.2.2.2.2.2.2.2.1]
    exact g03.block q hq (by simp)
end Go.Proofs.YtgblfjccccdidaaGreat
end
section
namespace Go.Clp
open Go.Dfl (nth nth_set nth_mem mem_nth nth_eq nth_ext nth_append nth_out take_snoc)
open Go.And (R Sy)
def cellI (s : Sy) (x f : Int) : Nat := s.vars.toNat + x.toNat * s.fields.toNat + f.toNat
def edR (s : Sy) (lu : List (List Int)) (c : R) : List (Nat × Nat) :=
 if c.k = 2 then [(c.a.toNat, c.b.toNat)]
 else if c.k = 3 then (nth lu c.a.toNat).map fun x => (cellI s x c.f, c.b.toNat)
 else if c.k = 4 then (nth lu c.b.toNat).map fun x => (c.a.toNat, cellI s x c.f)
 else []
theorem edR_key {s : Sy} {lu : List (List Int)} {c d : R} (h : c.k = d.k ∧ c.a = d.a ∧ c.b = d.b ∧ c.f = d.f) : edR s lu c = edR s lu d := by
 unfold edR; rw [h.1, h.2.1, h.2.2.1, h.2.2.2]
def edT (s : Sy) (lu : List (List Int)) (k : Nat) (e : Nat × Nat) : Prop := ∃ i, i < k ∧ e ∈ edR s lu (nth s.cons i)
def sameK (c d : R) : Prop := c.k = d.k ∧ c.a = d.a ∧ c.b = d.b ∧ c.f = d.f
theorem edT_seen {s : Sy} {lu : List (List Int)} {k : Nat} (h : ∃ i, i < k ∧ sameK (nth s.cons i) (nth s.cons k)) (e : Nat × Nat) : edT s lu (k + 1) e ↔ edT s lu k e := by
 constructor
 ·rintro ⟨i, hi, h2⟩
  by_cases e2 : i = k
  ·subst e2
   obtain ⟨j, hj, h3⟩ := h
   exact ⟨j, hj, by rw [edR_key h3]; exact h2⟩
  ·exact ⟨i, by omega, h2⟩
 ·rintro ⟨i, hi, h2⟩; exact ⟨i, by omega, h2⟩
theorem edT_new {s : Sy} {lu : List (List Int)} {k : Nat} (e : Nat × Nat) : edT s lu (k + 1) e ↔ edT s lu k e ∨ e ∈ edR s lu (nth s.cons k) := by
 constructor
 ·rintro ⟨i, hi, h2⟩
  by_cases e2 : i = k
  ·subst e2; exact .inr h2
  ·exact .inl ⟨i, by omega, h2⟩
 ·rintro (⟨i, hi, h2⟩ | h2)
  ·exact ⟨i, by omega, h2⟩
  ·exact ⟨k, by omega, h2⟩
end Go.Clp
namespace Go.Dfl
theorem grownBy_far {w w' w2 : World} {row : Option Nat} {q : Nat} (h : w.grownBy w' row) (g : w'.grownBy w2 (some q)) (hq : w.heap.size ≤ q) : w.grownBy w2 row :=
 ⟨g.os.trans h.os, g.tape.trans h.tape, g.output.trans h.output, Nat.le_trans h.size g.size, fun i hi hr => (g.block i (Nat.lt_of_lt_of_le hi h.size) (fun e => by have := Option.some.inj e; omega)).trans (h.block i hi hr)⟩
end Go.Dfl
namespace Go.Proofs.YtgblfjccccdidaaGreat
open Go.RowKit Go.Dfl Go.Gra Go.Clp Go.And Go.Spl Go.Maps
theorem laidOutC : laidOutB Tryz.prog = true := by kernel_rfl
theorem keyLawC : Keyed Tryz.prog 89 := Keyed.of_law (deep_law_laid laidOutC (m := 2) (by omega) (of_decide_eq_true (by kernel_rfl)) (by kernel_rfl) (by rw [Tryz.underlying89]))
theorem zeroBoolC (w : World) : (zeroValue 4).run Tryz.prog w = .ok (.bool false) w := by kernel_rfl
theorem ktypeC : Tryz.prog.keyType 89 = true := by kernel_rfl
theorem cellsKC : Tryz.prog.cellsOf 89 = 4 := by kernel_rfl
theorem cellsIC : Tryz.prog.cellsOf 3 = 1 := by kernel_rfl
theorem keyWfC (k a b f : Int) (h1 : 0 ≤ k ∧ k ≤ 1000000) (h2 : 0 ≤ a ∧ a ≤ 1000000) (h3 : 0 ≤ b ∧ b ≤ 1000000) (h4 : 0 ≤ f ∧ f ≤ 1000000) : ∃ kl, keyOf Tryz.prog 89 (.agg #[.int .i64 k, .int .i64 a, .int .i64 b, .int .i64 f]) = some kl := by
 have w : ∀ x : Int, 0 ≤ x ∧ x ≤ 1000000 → (Lit.int .i64 x).wf = true := fun x hx => WalkArith.wf_i64 (by omega)
 have wi : ∀ (d : Nat) (x : Int), 0 ≤ x ∧ x ≤ 1000000 → Tryz.prog.keyLits (d + 1) 3 [.int .i64 x] = some [.int .i64 x] := fun d x hx => by
  simp [Program.keyLits, Tryz.underlying3, w x hx]
 have hsz : ∃ d, Tryz.prog.types.size + 1 = d + 2 := ⟨Tryz.prog.types.size - 1, by have : 0 < Tryz.prog.types.size := of_decide_eq_true (by kernel_rfl); omega⟩
 obtain ⟨d, hd⟩ := hsz
 unfold keyOf
 rw [Tryz.underlying89, hd]
 simp only [ktypeC, Bool.true_and]
 have hf : (Value.agg #[.int .i64 k, .int .i64 a, .int .i64 b, .int .i64 f]).formed Tryz.prog 89 = true := by simp [Value.formed, Tryz.underlying89, cellsKC]
 rw [if_pos hf]
 unfold Program.keyLits
 simp only [Tryz.underlying89]
 simp [cellsKC, cellsIC, wi, h1, h2, h3, h4, Value.cells]
def keyR (c : R) : Value := .agg #[.int .i64 c.k, .int .i64 c.a, .int .i64 c.b, .int .i64 c.f]
theorem keyR_inj {c d : R} : keyR c = keyR d ↔ sameK c d := by
 unfold keyR sameK
 simp
structure FiS (W0 : World) (n mb : Nat) (ra : Option Addr) (rc : Nat) (k : Nat) (us : List Value) (D : List (Nat × Nat)) (l : List Value) (W : World) : Prop where
 rows : OwnN IIg W W0.heap.size 32 (.slice ra n rc) us (nextL D n)
 set : SetM Tryz.prog 89 4 W mb k l
 kp : W0.grownBy W (some mb)
 mlt : mb < W0.heap.size
structure FiP (s : Sy) (lu : List (List Int)) (k : Nat) (D : List (Nat × Nat)) (l : List Value) : Prop where
 keys : ∀ c, keyR c ∈ l ↔ ∃ i, i < k ∧ sameK (nth s.cons i) c
 mem : ∀ e, e ∈ D ↔ edT s lu k e
 len : D.length ≤ 12 * k
section
variable {W0 W W' w3 : World} {n mb k : Nat} {ra : Option Addr} {rc : Nat} {us : List Value} {D : List (Nat × Nat)} {l : List Value}
theorem FiS.grow (h : FiS W0 n mb ra rc k us D l W) (hg : W.grownBy W' none) : FiS W0 n mb ra rc k us D l W' :=
 ⟨h.rows.grown kIIg hg (by simp), h.set.kept hg (by simp), grownBy_trans h.kp (grownBy_widen hg), h.mlt⟩
theorem FiS.old (h : FiS W0 n mb ra rc k us D l W) {q : Nat} (hq : q < W0.heap.size) : ¬ Foot (.slice ra n rc) us q := fun hf => by
 have := (h.rows.foot kIIg q hf).1; omega
theorem FiS.put (h : FiS W0 n mb ra rc k us D l W) {l' : List Value} (hg : W.grownBy W' (some mb)) (hs : SetM Tryz.prog 89 4 W' mb (k + 1) l') : FiS W0 n mb ra rc (k + 1) us D l' W' :=
 ⟨h.rows.grown kIIg hg (fun q e hf => by obtain rfl := Option.some.inj e; exact h.old h.mlt hf), hs, grownBy_trans h.kp hg, h.mlt⟩
theorem FiS.rd (h : FiS W0 n mb ra rc k us D l W) {a : Nat} (ha : a < n) : ∃ xa xc, nth us a = .slice xa (Go.Kah.row D a).length xc ∧ W.cell? ⟨blk ra, ofs ra + a, none⟩ = some (.slice xa (Go.Kah.row D a).length xc) ∧ OwnI W W0.heap.size 3 (.slice xa (Go.Kah.row D a).length xc) (castL (Go.Kah.row D a)) ∧
  (∀ Y, (Instr.indexAt 27 (.slice ra n rc) (.int .i64 (a : Int))).run Tryz.prog Y = .ok (.pointer (some ⟨blk ra, ofs ra + a, none⟩)) Y) := by
 have hl : a < (nextL D n).length := by rw [nextL_len]; exact ha
 have hi := h.rows.inn a hl
 rw [nextL_nth ha] at hi
 obtain ⟨xa, xc, he⟩ := hi.shape (n := (Go.Kah.row D a).length) (by simp)
 obtain ⟨a4, c4, he4, hm4, hidx4, hcell4, -⟩ := h.rows.out.lst.out1 sRowsG
 have hvl : us.length = n := by rw [h.rows.len]; exact nextL_len _ _
 rw [hvl] at he4 hm4 hidx4 hcell4
 simp only [Value.slice.injEq] at he4
 obtain ⟨rfl, -, rfl⟩ := he4
 have hcl := hcell4 a ha
 rw [he] at hcl hi
 refine ⟨xa, xc, he, hcl, hi, fun Y => ?_⟩
 have := hidx4 .i64 (a : Int) (by omega) (by omega) Y
 rw [Int.toNat_natCast] at this
 exact this
theorem FiS.app (h : FiS W0 n mb ra rc k us D l W) {a b : Nat} (ha : a < n) {o : Obj} {v' : Value} (hown : OwnI w3 W0.heap.size 3 v' (castL (Go.Kah.row D a) ++ [(b : Int)])) (hgr : (W.alloc o).grownBy w3 (nth us a).ownBlock) (hat : v'.ownBlock = (nth us a).ownBlock ∨ v'.ownBlock = some (W.alloc o).heap.size) :
  w3.cell? ⟨blk ra, ofs ra + a, none⟩ = some (nth us a) ∧ w3.frozen? ⟨blk ra, ofs ra + a, none⟩ = false ∧ (∀ q, q < W.heap.size → ¬ Foot (.slice ra n rc) us q → w3.heap[q]? = W.heap[q]?) ∧ FiS W0 n mb ra rc k (us.set a v') (D ++ [(a, b)]) l (w3.setCell ⟨blk ra, ofs ra + a, none⟩ v') ∧
   (∀ q, q < W.heap.size → ¬ Foot (.slice ra n rc) us q → (w3.setCell ⟨blk ra, ofs ra + a, none⟩ v').heap[q]? = W.heap[q]? ∧ ¬ Foot (.slice ra n rc) (us.set a v') q) := by
 have hl : a < (nextL D n).length := by rw [nextL_len]; exact ha
 obtain ⟨xa, xc, he, hcl, -, -⟩ := h.rd ha
 rw [← he] at hcl
 have hr : nth (nextL D n) a = castL (Go.Kah.row D a) := nextL_nth ha
 obtain ⟨a1, a2, a3, -⟩ := h.rows.app hl hown hgr hat hcl
 obtain ⟨b1, b2, -⟩ := h.rows.at' hl
 have hq0 : ∀ q, (nth us a).ownBlock = some q → W0.heap.size ≤ q := fun q e => (h.rows.foot kIIg q (.inr ⟨a, by rw [h.rows.len]; exact hl, e⟩)).1
 have gA := grownBy_alloc W o
 have gS := grownBy_setCell w3 ⟨blk ra, ofs ra + a, none⟩ v'
 have kp3 : W0.grownBy w3 (some mb) := by
  have k1 := grownBy_trans h.kp (grownBy_widen gA)
  cases e : (nth us a).ownBlock with
  | none => rw [e] at hgr; exact grownBy_trans k1 (grownBy_widen hgr)
  | some q => rw [e] at hgr; exact grownBy_far k1 hgr (hq0 q e)
 have hk3 : ∀ q, q < W.heap.size → ¬ Foot (.slice ra n rc) us q → w3.heap[q]? = W.heap[q]? := fun q hq hf => by
  rw [hgr.block q (by simp; omega) (fun e => hf (.inr ⟨a, by rw [h.rows.len]; exact hl, e.symm⟩)), gA.block q hq (by simp)]
 refine ⟨a1, a2, hk3, ⟨?_, ?_, grownBy_far kp3 gS b2, h.mlt⟩, fun q hq hf => ⟨?_, ?_⟩⟩
 ·rw [nextL_add ha, hr]; exact a3
 ·refine ((h.set.kept gA (by simp)).kept hgr (fun e => ?_)).kept gS (fun e => ?_)
  ·have := hq0 mb e.symm; have := h.mlt; omega
  ·have := Option.some.inj e; have := h.mlt; dsimp only at *; omega
 ·rw [gS.block q (Nat.lt_of_lt_of_le hq (Nat.le_trans gA.size hgr.size)) (fun e => hf (.inl (by rw [b1, e]))), hk3 q hq hf]
 ·intro hf2
  rcases hf2 with hf2 | ⟨i, hi, hf2⟩
  ·exact hf (.inl hf2)
  ·rw [List.length_set] at hi
   rw [nth_set] at hf2
   split at hf2
   ·rcases hat with e | e
    ·exact hf (.inr ⟨a, by rw [h.rows.len]; exact hl, by rw [← e]; exact hf2⟩)
    ·rw [e] at hf2; have := Option.some.inj hf2; simp at this; omega
   ·exact hf (.inr ⟨i, hi, hf2⟩)
end
def FinalR (s : Sy) (lu : List (List Int)) (n : Nat) (W : World) (e : Ending) (W' : World) : Prop :=
 ∃ ra rc us D, e = .returned (.slice ra n rc) ∧ OwnN IIg W' W.heap.size 32 (.slice ra n rc) us (nextL D n) ∧ (∀ e, e ∈ D ↔ edT s lu s.cons.length e) ∧ D.length ≤ 2000 ∧ Below W.heap.size W W'
set_option maxHeartbeats 6400000 in
set_option maxRecDepth 100000 in
theorem final_any (s : Sy) (cv u v : Value) (us0 vs0 : List Value) (lu lv : List (List Int)) (W : World) (hc : ConsIn W cv s.cons) (hs : Sm s) (hv : Vld s) (hu : Grid (Value.int .i64) W u us0 lu) (hvv : Grid (Value.int .i64) W v vs0 lv)
  (hul : lu.length = s.vars.toNat) (hvl : lv.length = s.sites.toNat * s.fields.toNat) (hui : ∀ i, i < lu.length → ∀ x ∈ nth lu i, 0 ≤ x ∧ x < s.sites) (hus : ∀ i, i < lu.length → (nth lu i).length ≤ 12) :
  Calls Tryz.prog 34 #[SysV s cv, .agg #[u, v]] W (FinalR s lu (s.vars.toNat + s.sites.toNat * s.fields.toNat) W) := by
 obtain ⟨ca, cc, rfl, hlen, hci, hcc⟩ := hc.out
 obtain ⟨ua, uc, rfl, um, ui, ucell⟩ := grid_rdC hu
 obtain ⟨va, vc, rfl, vm, vi, vcell⟩ := grid_rdC hvv
 have e0 := hs.vars
 have e1 := hs.sites
 have e2 := hs.fields
 have e3 := hs.cons
 have v0 := hv.vars
 have v1 := hv.sites
 have v2 := hv.fields
 have hmul : s.sites.toNat * s.fields.toNat ≤ 60 := by
  have : s.sites.toNat * s.fields.toNat ≤ 12 * 5 := Nat.mul_le_mul (by omega) (by omega)
  omega
 obtain ⟨M, hM⟩ : ∃ M, M = s.sites.toNat * s.fields.toNat := ⟨_, rfl⟩
 obtain ⟨n, hn⟩ : ∃ n, n = s.vars.toNat + M := ⟨_, rfl⟩
 rw [← hM] at hvl hmul ⊢
 rw [← hn]
 have hwn : IntKind.i64.wrap (s.vars + (lv.length : Int)) = (n : Int) := by rw [IntWalk.i64_in _ (by omega)]; omega
 have hn100 : n ≤ 100 := by omega
 have HA := Lib.hid (And.intro hcc (And.intro hv (And.intro hu (And.intro ucell (And.intro hul (And.intro hui (And.intro hus (And.intro hM (And.intro hn hc)))))))))
 clear hc hcc hs hv hu hvv ucell vcell hul hvl hui hus hM hn vi vm
 unfold SysV
 have hmm := @run_makeMap Tryz.prog
 go_enter Tryz.func34, Tryz.ntmps34
 go_wp2_with (at_make; refine wp_make (f := fun x : Value => x) (.slice none 0 0) sInt2 rfl _ rfl _ _ rfl .i64 .i64 _ _ n rfl rfl rfl rfl (by omega) (by unfold maxLen; omega) ?_)
 intro la lc W4 o4 q4
 obtain ⟨WM, hWM⟩ : ∃ WM, WM = ((W.alloc (.cells #[.int .i64 s.vars, .int .i64 s.sites, .int .i64 s.fields, .slice ca s.cons.length cc] 24)).alloc (.cells #[.slice ua lu.length uc, .slice va lv.length vc] 34)).alloc (.map #[] 0) := ⟨_, rfl⟩
 have hbx : BoxS WM W.heap.size s (.slice ca s.cons.length cc) := by
  rw [hWM]
  exact ((BoxS.new W s (.slice ca s.cons.length cc) 24).grown (grownBy_alloc _ _) (by simp)).grown (grownBy_alloc _ _) (by simp)
 have hpx : WM.cell? ⟨W.heap.size + 1, 0, none⟩ = some (.slice ua lu.length uc) := by
  rw [hWM]
  have := (cells_new (W := W.alloc (.cells #[.int .i64 s.vars, .int .i64 s.sites, .int .i64 s.fields, .slice ca s.cons.length cc] 24)) (cs := [.slice ua lu.length uc, .slice va lv.length vc]) (t := 34) (B := W.heap.size + 1) (by simp)) 0 _ rfl
  exact (grownBy_alloc _ _).cell this (by simp)
 have hset : SetM Tryz.prog 89 4 WM (W.heap.size + 2) 0 [] := by
  rw [hWM]; exact SetM.made _ _ _ _ (by simp)
 have hbW : Below W.heap.size W WM := by
  rw [hWM]; exact (((Below.refl _ _).alloc (Nat.le_refl _) _).alloc (by simp) _).alloc (by simp; omega) _
 have hsz : WM.heap.size = W.heap.size + 3 := by rw [hWM]; simp
 rw [← hWM] at q4
 have o4 : Go.Dfl.Own (fun x : Value => x) W4 WM.heap.size 32 (.slice la n lc) (List.replicate n (.slice none 0 0)) := by rw [hsz]; exact o4
 have q4 : Below WM.heap.size WM W4 := by rw [hsz]; exact q4
 clear hWM
 obtain ⟨bs, hbs⟩ : ∃ bs, bs = W.heap.size := ⟨_, rfl⟩
 obtain ⟨bp, hbp⟩ : ∃ bp, bp = W.heap.size + 1 := ⟨_, rfl⟩
 obtain ⟨mb, hmb⟩ : ∃ mb, mb = W.heap.size + 2 := ⟨_, rfl⟩
 have ht1 : W.heap.size + 1 + 1 = W.heap.size + 2 := by omega
 try simp only [World.size_alloc]
 rw [← hbs] at hbx
 rw [← hbp] at hpx
 rw [← hmb] at hset
 try rw [ht1]
 rw [← hmb, ← hbp, ← hbs]
 have hfi : FiS WM n mb la lc 0 (List.replicate n (.slice none 0 0)) [] [] W4 ∧ FiP s lu 0 [] [] :=
  ⟨⟨by rw [nextL_nil]; exact OwnN.made o4 (Go.Dfl.Own.nil _ _ _ _), hset.kept (grownBy_below q4) (by simp), grownBy_widen (grownBy_below q4), by omega⟩, ⟨fun c => by simp, fun e => by simp [edT], by simp⟩⟩
 have HF := Lib.hid (And.intro hfi (And.intro hbx (And.intro hpx (And.intro hbW (And.intro hsz (And.intro hbs (And.intro hbp hmb)))))))
 obtain ⟨d0, d1, d2, d3⟩ := (hbx.grown (grownBy_below q4) (by simp))
 have hme : mb < WM.heap.size ∧ bs < mb ∧ bp < mb ∧ bs < bp := by omega
 have HME := Lib.hid hme
 clear hbx hpx hset hbW hsz hbs hbp hmb ht1 hfi o4 q4 hme
 go_wp2_with fail
 clear d0 d1 d2 d3
 go_loopw [26] (fun x wr => ∃ (k : Nat) (us : List Value) (D : List (Nat × Nat)) (l : List Value), k ≤ s.cons.length ∧ x = .int .i64 (k : Int) ∧ Hid (FiS WM n mb la lc k us D l wr ∧ FiP s lu k D l)) (fun x _ => s.cons.length - (intOf x).toNat)
 case atStart => exact ⟨0, _, _, _, by omega, rfl, HF.out.1⟩
 case round =>
  obtain ⟨k, us, D, l, hk, rfl, hh⟩ := hrel
  have HH := Lib.hid hh.out
  clear hh
  have kpo : ∀ {b j : Nat} {y : Value}, b ≠ mb → WM.cell? ⟨b, j, none⟩ = some y → wr.cell? ⟨b, j, none⟩ = some y := fun {b j y} hbm hy => HH.out.1.kp.cell hy (fun e => hbm (Option.some.inj e))
  by_cases hlt : k < s.cons.length
  ·obtain ⟨sa, sn, sc, c0, c1, c2, c3, c4, -, hbl⟩ := HA.out.1 k hlt
   have hbW := HF.out.2.2.2.1
   have hcm : blk ca ≠ mb := by have := HF.out.2.2.2.2.2.2.2; omega
   have g0 : ∀ {j : Nat} {y : Value}, W.cell? ⟨blk ca, j, none⟩ = some y → wr.cell? ⟨blk ca, j, none⟩ = some y := fun {j y} hy => kpo hcm (by rw [hbW.cell (p := ⟨blk ca, j, none⟩) hbl]; exact hy)
   have c0 := g0 c0
   have c1 := g0 c1
   have c2 := g0 c2
   have c3 := g0 c3
   have c4 := g0 c4
   obtain ⟨c, hcd⟩ : ∃ c, c = nth s.cons k := ⟨_, rfl⟩
   have hvc := HA.out.2.1.cons _ (nth_mem _ _ hlt)
   rw [← hcd] at c0 c1 c2 c3 hvc
   have hnew := BoxR.new wr c.k c.a c.b c.f (.slice sa sn sc) 48
   have hB : WM.heap.size ≤ wr.heap.size := HH.out.1.kp.size
   have hci0 := hci (k : Int) (by omega) (by omega)
   rw [Int.toNat_natCast] at hci0
   have HCC := Lib.hid (And.intro hcd (And.intro hvc hB))
   clear hbW hcm g0 hbl hcd hvc
   go_upto_region 6 with fail
   have gA := grownBy_alloc wr (.cells #[.int .i64 c.k, .int .i64 c.a, .int .i64 c.b, .int .i64 c.f, .slice sa sn sc] 48)
   refine wp_gen (fun Z => BoxR Z wr.heap.size c.k c.a c.b c.f (.slice sa sn sc) ∧ wr.grownBy Z none) ⟨hnew, gA⟩ ?_
   intro Z1 hZ1
   obtain ⟨bc, hbc⟩ : ∃ bc, bc = wr.heap.size := ⟨_, rfl⟩
   rw [← hbc] at hZ1 ⊢
   have HZ1 := Lib.hid (And.intro hZ1 hbc)
   clear hnew gA hbc c0 c1 c2 c3 c4 hci0
   obtain ⟨z0, z1, z2, z3, z4, -⟩ := hZ1.1
   clear hZ1
   go_upto_region 7 with fail
   have hkn := cells_new (W := Z1) (cs := [.int .i64 c.k, .int .i64 c.a, .int .i64 c.b, .int .i64 c.f]) (t := 89) rfl
   have gK := grownBy_alloc Z1 (.cells #[.int .i64 c.k, .int .i64 c.a, .int .i64 c.b, .int .i64 c.f] 89)
   refine wp_gen (fun Z => BoxR Z bc c.k c.a c.b c.f (.slice sa sn sc) ∧ wr.grownBy Z none ∧ Z.cell? ⟨Z1.heap.size, 0, none⟩ = some (.int .i64 c.k) ∧ Z.cell? ⟨Z1.heap.size, 1, none⟩ = some (.int .i64 c.a) ∧ Z.cell? ⟨Z1.heap.size, 2, none⟩ = some (.int .i64 c.b) ∧ Z.cell? ⟨Z1.heap.size, 3, none⟩ = some (.int .i64 c.f)) ⟨HZ1.out.1.1.grown gK (by simp), grownBy_trans HZ1.out.1.2 gK, hkn 0 _ rfl, hkn 1 _ rfl, hkn 2 _ rfl, hkn 3 _ rfl⟩ ?_
   intro Z hZ
   obtain ⟨bk, hbk⟩ : ∃ bk, bk = Z1.heap.size := ⟨_, rfl⟩
   rw [← hbk] at hZ ⊢
   obtain ⟨hZb, hZg, k0, k1, k2, k3⟩ := hZ
   have HZ := Lib.hid (And.intro hZb hZg)
   clear hkn gK hbk z0 z1 z2 z3 z4
   have hkd := HCC.out.2.1.kind
   have ha9 := HCC.out.2.1.a
   have hb9 := HCC.out.2.1.b
   have hf9 := HCC.out.2.1.f'
   have hf8 : c.f ≤ 5 := by
    by_cases h3 : c.k = 3 ∨ c.k = 4
    ·have := HCC.out.2.1.f h3; omega
    ·rw [HCC.out.2.1.f0 (by omega) (by omega)]; omega
   have ha8 : c.a ≤ 40 := by have := ha9.2; split at this <;> omega
   obtain ⟨kl, hkl⟩ := keyWfC c.k c.a c.b c.f (by omega) (by omega) (by omega) (by omega)
   have hset := HH.out.1.set.kept hZg (by simp)
   obtain ⟨x, hlook, hx⟩ := hset.look keyLawC Tryz.underlying87 Tryz.underlying4 (zeroBoolC _) hkl
   have HX := Lib.hid (And.intro hset (And.intro (show x = true ↔ keyR c ∈ l from hx) hkl))
   have HBD := Lib.hid (And.intro hkd (And.intro ha9 (And.intro hb9 (And.intro hf9 (And.intro hf8 ha8)))))
   clear hset hx hkl hZb hZg hkd ha9 hb9 hf9 hf8 ha8
   cases x
   ·have hkeys : ∀ d, keyR d ∈ keyR c :: l ↔ ∃ i, i < k + 1 ∧ sameK (nth s.cons i) d := fun d => by
     rw [List.mem_cons, HH.out.2.keys d]
     constructor
     ·rintro (h | ⟨i, hi, h2⟩)
      ·have := keyR_inj.1 h
       exact ⟨k, by omega, by rw [← HCC.out.1]; exact ⟨this.1.symm, this.2.1.symm, this.2.2.1.symm, this.2.2.2.symm⟩⟩
      ·exact ⟨i, by omega, h2⟩
     ·rintro ⟨i, hi, h2⟩
      by_cases e : i = k
      ·subst e
       rw [← HCC.out.1] at h2
       exact .inl (keyR_inj.2 ⟨h2.1.symm, h2.2.1.symm, h2.2.2.1.symm, h2.2.2.2.symm⟩)
      ·exact .inr ⟨i, by omega, h2⟩
    have HKY := Lib.hid hkeys
    clear hkeys
    go_upto_region 9 with (at_mapUpdate; refine wp_mapPut (t := 87) HX.out.1 rfl _ _ _ rfl keyLawC Tryz.underlying87 Tryz.underlying4 rfl rfl (by unfold maxLen; omega) _ kl rfl HX.out.2.2 ?_; intro W7 set7 g7)
    have hY0 : BoxR W7 bc c.k c.a c.b c.f (.slice sa sn sc) ∧ FiS WM n mb la lc (k + 1) us D (keyR c :: l) W7 ∧ ¬ Foot (.slice la n lc) us bc := by
     have hbm : some bc ≠ some mb := fun e => by have := Option.some.inj e; have := HZ1.out.2; have := HCC.out.2.2; have := HME.out.1; omega
     refine ⟨HZ.out.1.grown g7 hbm, (HH.out.1.grow HZ.out.2).put g7 set7, fun hf => ?_⟩
     have := (HH.out.1.rows.foot kIIg bc hf).2
     have := HZ1.out.2
     omega
    refine wp_gen (fun Y => BoxR Y bc c.k c.a c.b c.f (.slice sa sn sc) ∧ FiS WM n mb la lc (k + 1) us D (keyR c :: l) Y ∧ ¬ Foot (.slice la n lc) us bc) hY0 ?_
    intro Y hY
    have HY := Lib.hid hY
    clear hY0 set7 g7 hlook k0 k1 k2 k3
    obtain ⟨y0, y1, y2, y3, y4, -⟩ := hY.1
    clear hY
    have hbx := HF.out.2.1
    have hpx := HF.out.2.2.1
    have hcse : (c.k = 1 ∨ c.k = 5) ∨ c.k = 2 ∨ c.k = 3 ∨ c.k = 4 := by have := HBD.out.1; omega
    have e0s : Y.cell? ⟨bs, 0, none⟩ = some (.int .i64 s.vars) := HY.out.2.1.kp.cell hbx.1 (fun e => by have := Option.some.inj e; dsimp only at this; have := HME.out; omega)
    have e2s : Y.cell? ⟨bs, 2, none⟩ = some (.int .i64 s.fields) := HY.out.2.1.kp.cell hbx.2.2.1 (fun e => by have := Option.some.inj e; dsimp only at this; have := HME.out; omega)
    have p0s : Y.cell? ⟨bp, 0, none⟩ = some (.slice ua lu.length uc) := HY.out.2.1.kp.cell hpx (fun e => by have := Option.some.inj e; dsimp only at this; have := HME.out; omega)
    have HBC := Lib.hid (show bc < Y.drew.heap.size ∧ bs < Y.drew.heap.size from ⟨HY.out.1.lt, World.block_lt_of_cell? Y _ e0s⟩)
    have HNF := Lib.hid (show ¬ Foot (.slice la n lc) us bc ∧ ¬ Foot (.slice la n lc) us bs from ⟨HY.out.2.2, HY.out.2.1.old (by have := HME.out; omega)⟩)
    clear hbx hpx
    rcases hcse with h15 | h2 | h3 | h4
    ·have hq2 : (c.k == 2) = false := by simp; omega
     have hq3 : (c.k == 3) = false := by simp; omega
     have hq4 : (c.k == 4) = false := by simp; omega
     have hpl : FiP s lu (k + 1) D (keyR c :: l) := ⟨HKY.out, fun e => by
      rw [edT_new, ← HCC.out.1, HH.out.2.mem e]
      have : edR s lu c = [] := by unfold edR; rw [if_neg (by omega), if_neg (by omega), if_neg (by omega)]
      rw [this]; simp, by have := HH.out.2.len; omega⟩
     have HPL := Lib.hid hpl
     clear h15 hpl e0s e2s p0s
     go_wp2_with fail
     go_roundw
     case rel => exact ⟨k + 1, us, D, keyR c :: l, by omega, by go_num, HY.out.2.1, HPL.out⟩
     case measure => simp [intOf]; omega
    ·obtain ⟨an, han⟩ : ∃ an : Nat, c.a = (an : Int) := ⟨c.a.toNat, by have := HBD.out.2.1.1; omega⟩
     obtain ⟨bn, hbn⟩ : ∃ bn : Nat, c.b = (bn : Int) := ⟨c.b.toNat, by have := HBD.out.2.2.1.1; omega⟩
     have hanl : an < n := by have h1 := HBD.out.2.1.2; rw [if_neg (by omega)] at h1; have := HA.out.2.2.2.2.2.2.2.2.1; omega
     have hpl : FiP s lu (k + 1) (D ++ [(an, bn)]) (keyR c :: l) := ⟨HKY.out, fun e => by
      rw [edT_new, ← HCC.out.1, List.mem_append, HH.out.2.mem e]
      have : edR s lu c = [(an, bn)] := by unfold edR; rw [if_pos h2, han, hbn]; rfl
      rw [this], by have := HH.out.2.len; simp; omega⟩
     have HPL := Lib.hid hpl
     have hq2 : (c.k == 2) = true := by simpa using h2
     rw [han] at y1
     rw [hbn] at y2
     clear hpl p0s h2
     go_upto_region 11 with fail
     have hd := HY.out.2.1.grow (grownBy_drew0 Y)
     obtain ⟨xa, xc, hxe, hxc, hxo, hxi⟩ := hd.rd hanl
     have hrl : (Go.Kah.row D an).length ≤ 2000 := by
      have h1 : (Go.Kah.row D an).length ≤ (D).length := by unfold Go.Kah.row; rw [List.length_map]; exact List.length_filter_le _ _
      have h2 := HH.out.2.len
      omega
     have hBY : WM.heap.size ≤ (Y).drew.heap.size := hd.kp.size
     have HDD := Lib.hid (And.intro hd (And.intro hxe (And.intro hxo hBY)))
     have hS0 : (Y).drew.heap[bc]? = (Y).heap[bc]? ∧ (Y).drew.heap[bs]? = (Y).heap[bs]? ∧ (Y).drew.cell? ⟨blk la, ofs la + an, none⟩ = some (.slice xa (Go.Kah.row D an).length xc) := ⟨rfl, rfl, hxc⟩
     clear hd hxe hxo hBY
     generalize hrn : (Go.Kah.row D an).length = rn at *
     refine wp_region_mix [0, 1, 2, 3, 4, 5, 6, 7, 8, 9] [10, 11, 12, 13] (fun w' => w'.heap[bc]? = (Y).heap[bc]? ∧ w'.heap[bs]? = (Y).heap[bs]? ∧ w'.cell? ⟨blk la, ofs la + an, none⟩ = some (.slice xa rn xc)) (by kernel_rfl) (by kernel_rfl) (by kernel_rfl) hS0 ?_
     repeat (
      refine wpHeads_cons (v := ?_) rfl (Or.inl ⟨by rfl, ?_⟩) ?_
      rotate_left
      ·(intro W hW
        have x0 := (World.cell?_of_block (a := ⟨bc, 0, none⟩) hW.1).trans y0
        have x1 := (World.cell?_of_block (a := ⟨bc, 1, none⟩) hW.1).trans y1
        have x2 := (World.cell?_of_block (a := ⟨bc, 2, none⟩) hW.1).trans y2
        have x3 := (World.cell?_of_block (a := ⟨bc, 3, none⟩) hW.1).trans y3
        have u0 := (World.cell?_of_block (a := ⟨bs, 0, none⟩) hW.2.1).trans e0s
        have u2 := (World.cell?_of_block (a := ⟨bs, 2, none⟩) hW.2.1).trans e2s
        obtain ⟨-, -, q3⟩ := hW
        go_simp; try with_reducible rfl)
      simp only [Act.put, List.setIfInBounds_toArray, List.getElem_toArray, List.getElem_cons_zero, List.getElem_cons_succ, List.set_cons_succ, List.set_cons_zero])
     refine wpHeads_nil ?_
     refine wpTails_cons rfl ?_
     go_wp2_with fail
     have gB := grownBy_alloc (Y).drew (.cells #[.int .i64 (bn : Int)] 3)
     have hSA : ((Y).drew.alloc (.cells #[.int .i64 (bn : Int)] 3)).heap[bc]? = (Y).heap[bc]? ∧ ((Y).drew.alloc (.cells #[.int .i64 (bn : Int)] 3)).heap[bs]? = (Y).heap[bs]? ∧ ((Y).drew.alloc (.cells #[.int .i64 (bn : Int)] 3)).cell? ⟨blk la, ofs la + an, none⟩ = some (.slice xa rn xc) :=
      ⟨gB.block bc HBC.out.1 (by simp), gB.block bs HBC.out.2 (by simp), gB.cell hxc (by simp)⟩
     refine tail_mk hSA ?_
     refine wpTails_cons rfl ?_
     refine wp_append1at (f := Value.int .i64) sIntG rfl _ rfl _ _ rfl WM.heap.size (.slice xa rn xc) (castL (Go.Kah.row D an)) rfl (by have := HDD.out.2.2.1; exact this.alloc _) (bn : Int) ⟨(Y).drew.heap.size, 0, none⟩ rfl (cell_alloc1 _ _ _) rfl (by rw [castL_len]; omega) (by omega) (le_alloc _ HDD.out.2.2.2) ?_
     intro v' w3 hown hgr hat
     obtain ⟨s9, c9, rfl⟩ := hown.shape (n := rn + 1) (by rw [List.length_append, castL_len, hrn]; rfl)
     rw [← HDD.out.2.1] at hgr hat
     obtain ⟨t1, t2, tk, hP, hk9⟩ := HDD.out.1.app (b := bn) hanl hown hgr hat
     rw [HDD.out.2.1] at t1
     have hS3 : w3.heap[bc]? = (Y).heap[bc]? ∧ w3.heap[bs]? = (Y).heap[bs]? ∧ w3.cell? ⟨blk la, ofs la + an, none⟩ = some (.slice xa rn xc) := ⟨tk bc HBC.out.1 HNF.out.1, tk bs HBC.out.2 HNF.out.2, t1⟩
     have HPP := Lib.hid (And.intro hP (And.intro hk9 hS3))
     clear hP hk9 hS3 tk hown hgr hat gB hSA
     refine tail_mk HPP.out.2.2 ?_
     refine wpTails_cons rfl ?_
     go_wp2_with fail
     refine tail_mk HPP.out.2.2 ?_
     refine wpTails_one rfl ?_
     go_wp2_with fail
     refine thenQ_mk ?_
     go_wp2_with fail
     go_roundw
     case rel => exact ⟨k + 1, _, _, keyR c :: l, by omega, by go_num, HPP.out.1, HPL.out⟩
     case measure => simp [intOf]; omega
    ·
     obtain ⟨an, han⟩ : ∃ an : Nat, c.a = (an : Int) := ⟨c.a.toNat, by have := HBD.out.2.1.1; omega⟩
     obtain ⟨bn, hbn⟩ : ∃ bn : Nat, c.b = (bn : Int) := ⟨c.b.toNat, by have := HBD.out.2.2.1.1; omega⟩
     have hanl : an < lu.length := by have h1 := HBD.out.2.1.2; rw [if_neg (by omega)] at h1; have h2 := HA.out.2.2.2.2.1; omega
     have hff := (HCC.out.2.1.f (.inl h3)).2
     obtain ⟨E, hE⟩ : ∃ E : List (Nat × Nat), E = (nth lu an).map fun x => (cellI s x c.f, bn) := ⟨_, rfl⟩
     have hEl : E.length = (nth lu an).length := by rw [hE, List.length_map]
     have hpl : FiP s lu (k + 1) (D ++ E) (keyR c :: l) := ⟨HKY.out, fun e => by
      rw [edT_new, ← HCC.out.1, List.mem_append, HH.out.2.mem e]
      have : edR s lu c = E := by unfold edR; rw [if_neg (by omega), if_pos h3, hE, han, hbn]; rfl
      rw [this], by have h1 := HH.out.2.len; have h2 := HA.out.2.2.2.2.2.2.1 an hanl; rw [List.length_append, hEl]; omega⟩
     have hq2 : (c.k == 2) = false := by simp; omega
     have hq3 : (c.k == 3) = true := by simpa using h3
     have hBZ : ∀ Z, WM.grownBy Z (some mb) → Below W.heap.size W Z := fun Z hZ => by
      have hbb := HF.out.2.2.2.1
      have hmb2 := HF.out.2.2.2.2.2.2.2
      exact hbb.grown hZ hbb.size fun q e => by have := Option.some.inj e; omega
     have hrow := HA.out.2.2.1.2.2 an hanl
     obtain ⟨xa0, xc0, hxv, xm0, xi0, xd0, xb0⟩ := hrow.out1 sIntC
     obtain ⟨uc1, uc2⟩ := HA.out.2.2.2.1 an hanl
     rw [← (hBZ Y HY.out.2.1.kp).cell (p := ⟨blk ua, ofs ua + an, none⟩) uc2, hxv] at uc1
     have uia := ui .i64 (an : Int) (by omega) (by omega)
     rw [Int.toNat_natCast] at uia
     obtain ⟨xl, hxl⟩ : ∃ xl, xl = (nth lu an).length := ⟨_, rfl⟩
     rw [← hxl] at uc1 xm0 xi0 xd0 xb0
     have hx12 : xl ≤ 12 := by rw [hxl]; exact HA.out.2.2.2.2.2.2.1 an hanl
     have HPL := Lib.hid (And.intro hpl (And.intro hE (And.intro hEl (And.intro hxl (And.intro xd0 (And.intro xb0 (And.intro hBZ (And.intro hff (And.intro hanl (And.intro han hbn))))))))))
     rw [han] at y1
     have hE0 : E.take 0 = [] := rfl
     have hY2 : BoxR Y bc c.k c.a c.b c.f (.slice sa sn sc) ∧ FiS WM n mb la lc (k + 1) us (D ++ E.take 0) (keyR c :: l) Y ∧ ¬ Foot (.slice la n lc) us bc := by rw [hE0, List.append_nil]; exact HY.out
     have HY2 := Lib.hid hY2
     clear hpl hE hEl hxl xd0 xb0 hBZ hff hrow uc2 h3 hE0 hY2 hanl hxv
     go_wp2_with fail
     clear y0 y1 y2 y3 y4 e0s e2s p0s uc1 uia HBC HNF
     go_loopw [11, 12, 70] (fun _ _ x wr => ∃ (j : Nat) (us : List Value), j ≤ xl ∧ x = .int .i64 (j : Int) ∧ Hid (BoxR wr bc c.k c.a c.b c.f (.slice sa sn sc) ∧ FiS WM n mb la lc (k + 1) us (D ++ E.take j) (keyR c :: l) wr ∧ ¬ Foot (.slice la n lc) us bc)) (fun _ _ x _ => xl - (intOf x).toNat)
     case atStart => exact ⟨0, us, by omega, rfl, HY2.out⟩
     case round =>
      obtain ⟨j, us, hj, rfl, hh⟩ := hrel
      have HJ := Lib.hid hh.out
      obtain ⟨y0, y1, y2, y3, y4, -⟩ := hh.out.1
      clear hh
      by_cases hjt : j < xl
      ·have hbx := HF.out.2.1
       have e0s : wr.cell? ⟨bs, 0, none⟩ = some (.int .i64 s.vars) := HJ.out.2.1.kp.cell hbx.1 (fun e => by have := Option.some.inj e; dsimp only at this; have := HME.out; omega)
       have e2s : wr.cell? ⟨bs, 2, none⟩ = some (.int .i64 s.fields) := HJ.out.2.1.kp.cell hbx.2.2.1 (fun e => by have := Option.some.inj e; dsimp only at this; have := HME.out; omega)
       have HBC := Lib.hid (show bc < wr.drew.heap.size ∧ bs < wr.drew.heap.size from ⟨HJ.out.1.lt, World.block_lt_of_cell? wr _ e0s⟩)
       have HNF := Lib.hid (show ¬ Foot (.slice la n lc) us bc ∧ ¬ Foot (.slice la n lc) us bs from ⟨HJ.out.2.2, HJ.out.2.1.old (by have := HME.out; omega)⟩)
       obtain ⟨-, hE, hEl, hxl, xd0, xb0, hBZ, hff, hanl, han, hbn⟩ := HPL.out
       have xd := xd0 j hjt
       rw [← (hBZ wr HJ.out.2.1.kp).cell (p := ⟨blk xa0, ofs xa0 + j, none⟩) (xb0 j hjt)] at xd
       have xij := xi0 .i64 (j : Int) (by omega) (by omega)
       rw [Int.toNat_natCast] at xij
       obtain ⟨x, hx⟩ : ∃ x, x = nth (nth lu an) j := ⟨_, rfl⟩
       rw [← hx] at xd
       have hxr := HA.out.2.2.2.2.2.1 an hanl x (by rw [hx]; exact nth_mem _ _ (by omega))
       obtain ⟨xn, hxn⟩ : ∃ xn : Nat, x = (xn : Int) := ⟨x.toNat, by omega⟩
       obtain ⟨Pn, hPn⟩ : ∃ Pn : Nat, Pn = xn * s.fields.toNat := ⟨_, rfl⟩
       have hPi : (xn : Int) * s.fields = (Pn : Int) := by rw [hPn]; push_cast; rw [show ((s.fields.toNat : Nat) : Int) = s.fields by omega]
       have hPle : Pn + s.fields.toNat ≤ M := by
        rw [HA.out.2.2.2.2.2.2.2.1, hPn, ← Nat.succ_mul]
        exact Nat.mul_le_mul_right _ (by omega)
       obtain ⟨fn, hfn⟩ : ∃ fn : Nat, c.f = (fn : Int) := ⟨c.f.toNat, by have := HBD.out.2.2.2.1; omega⟩
       obtain ⟨q1, hq1⟩ : ∃ q1, q1 = s.vars.toNat + Pn := ⟨_, rfl⟩
       obtain ⟨cl, hcl⟩ : ∃ cl, cl = q1 + fn := ⟨_, rfl⟩
       have hcln : cl < n := by have := HA.out.2.2.2.2.2.2.2.2.1; omega
       have hcI : cellI s x c.f = cl := by unfold cellI; rw [hxn, hfn, hcl, hq1, hPn]; rfl
       have hw1 : IntKind.i64.wrap ((xn : Int) * s.fields) = (Pn : Int) := by rw [hPi]; exact IntWalk.i64_in _ (by omega)
       have hw2 : IntKind.i64.wrap (s.vars + (Pn : Int)) = (q1 : Int) := by rw [IntWalk.i64_in _ (by omega)]; omega
       have hw3 : IntKind.i64.wrap ((q1 : Int) + (fn : Int)) = (cl : Int) := by rw [IntWalk.i64_in _ (by omega)]; omega
       have hEs : E.take (j + 1) = E.take j ++ [(cl, bn)] := by
        rw [take_snoc _ _ (by omega)]
        congr 2
        rw [hE, nth_eq _ _ (by rw [List.length_map]; omega), List.getElem_map, ← nth_eq _ _ (by omega), ← hx, hcI]
       have hdl : (D ++ E.take j).length ≤ 12 * k + 12 := by have h1 := HH.out.2.len; rw [List.length_append, List.length_take]; omega
       have HDL := Lib.hid (And.intro hdl hEs)
       rw [hxn] at xd
       rw [hfn] at y3
       rw [hbn] at y2
       clear hE hEl hxl xd0 xb0 hBZ hff hanl han hbn hbx hx hxr hxn hPn hPi hPle hfn hq1 hcl hcI hEs hdl y4
       go_upto_region 17 with fail
       clear hw1 hw2 hw3 xd xij
       have hd := HJ.out.2.1.grow (grownBy_drew0 wr)
       obtain ⟨xa, xc, hxe, hxc, hxo, hxi⟩ := hd.rd hcln
       have hrl : (Go.Kah.row (D ++ E.take j) cl).length ≤ 2000 := by
        have h1 : (Go.Kah.row (D ++ E.take j) cl).length ≤ ((D ++ E.take j)).length := by unfold Go.Kah.row; rw [List.length_map]; exact List.length_filter_le _ _
        have h2 := HDL.out.1
        omega
       have hBY : WM.heap.size ≤ (wr).drew.heap.size := hd.kp.size
       have HDD := Lib.hid (And.intro hd (And.intro hxe (And.intro hxo hBY)))
       have hS0 : (wr).drew.heap[bc]? = (wr).heap[bc]? ∧ (wr).drew.heap[bs]? = (wr).heap[bs]? ∧ (wr).drew.cell? ⟨blk la, ofs la + cl, none⟩ = some (.slice xa (Go.Kah.row (D ++ E.take j) cl).length xc) := ⟨rfl, rfl, hxc⟩
       clear hd hxe hxo hBY
       generalize hrn : (Go.Kah.row (D ++ E.take j) cl).length = rn at *
       refine wp_region_mix [0, 1, 2, 3, 4, 5, 6, 7] [8, 9, 10, 11] (fun w' => w'.heap[bc]? = (wr).heap[bc]? ∧ w'.heap[bs]? = (wr).heap[bs]? ∧ w'.cell? ⟨blk la, ofs la + cl, none⟩ = some (.slice xa rn xc)) (by kernel_rfl) (by kernel_rfl) (by kernel_rfl) hS0 ?_
       repeat (
        refine wpHeads_cons (v := ?_) rfl (Or.inl ⟨by rfl, ?_⟩) ?_
        rotate_left
        ·(intro W hW
          have x0 := (World.cell?_of_block (a := ⟨bc, 0, none⟩) hW.1).trans y0
          have x1 := (World.cell?_of_block (a := ⟨bc, 1, none⟩) hW.1).trans y1
          have x2 := (World.cell?_of_block (a := ⟨bc, 2, none⟩) hW.1).trans y2
          have x3 := (World.cell?_of_block (a := ⟨bc, 3, none⟩) hW.1).trans y3
          have u0 := (World.cell?_of_block (a := ⟨bs, 0, none⟩) hW.2.1).trans e0s
          have u2 := (World.cell?_of_block (a := ⟨bs, 2, none⟩) hW.2.1).trans e2s
          obtain ⟨-, -, q3⟩ := hW
          go_simp; try with_reducible rfl)
        simp only [Act.put, List.setIfInBounds_toArray, List.getElem_toArray, List.getElem_cons_zero, List.getElem_cons_succ, List.set_cons_succ, List.set_cons_zero])
       refine wpHeads_nil ?_
       refine wpTails_cons rfl ?_
       go_wp2_with fail
       have gB := grownBy_alloc (wr).drew (.cells #[.int .i64 (bn : Int)] 3)
       have hSA : ((wr).drew.alloc (.cells #[.int .i64 (bn : Int)] 3)).heap[bc]? = (wr).heap[bc]? ∧ ((wr).drew.alloc (.cells #[.int .i64 (bn : Int)] 3)).heap[bs]? = (wr).heap[bs]? ∧ ((wr).drew.alloc (.cells #[.int .i64 (bn : Int)] 3)).cell? ⟨blk la, ofs la + cl, none⟩ = some (.slice xa rn xc) :=
        ⟨gB.block bc HBC.out.1 (by simp), gB.block bs HBC.out.2 (by simp), gB.cell hxc (by simp)⟩
       refine tail_mk hSA ?_
       refine wpTails_cons rfl ?_
       refine wp_append1at (f := Value.int .i64) sIntG rfl _ rfl _ _ rfl WM.heap.size (.slice xa rn xc) (castL (Go.Kah.row (D ++ E.take j) cl)) rfl (by have := HDD.out.2.2.1; exact this.alloc _) (bn : Int) ⟨(wr).drew.heap.size, 0, none⟩ rfl (cell_alloc1 _ _ _) rfl (by rw [castL_len]; omega) (by omega) (le_alloc _ HDD.out.2.2.2) ?_
       intro v' w3 hown hgr hat
       obtain ⟨s9, c9, rfl⟩ := hown.shape (n := rn + 1) (by rw [List.length_append, castL_len, hrn]; rfl)
       rw [← HDD.out.2.1] at hgr hat
       obtain ⟨t1, t2, tk, hP, hk9⟩ := HDD.out.1.app (b := bn) hcln hown hgr hat
       rw [HDD.out.2.1] at t1
       have hS3 : w3.heap[bc]? = (wr).heap[bc]? ∧ w3.heap[bs]? = (wr).heap[bs]? ∧ w3.cell? ⟨blk la, ofs la + cl, none⟩ = some (.slice xa rn xc) := ⟨tk bc HBC.out.1 HNF.out.1, tk bs HBC.out.2 HNF.out.2, t1⟩
       have HPP := Lib.hid (And.intro hP (And.intro hk9 hS3))
       clear hP hk9 hS3 tk hown hgr hat gB hSA
       refine tail_mk HPP.out.2.2 ?_
       refine wpTails_cons rfl ?_
       go_wp2_with fail
       refine tail_mk HPP.out.2.2 ?_
       refine wpTails_one rfl ?_
       go_wp2_with fail
       refine thenQ_mk ?_
       go_wp2_with fail
       go_roundw
       case rel =>
        refine ⟨j + 1, _, by omega, by go_num, ?_, by rw [HDL.out.2, ← List.append_assoc]; exact HPP.out.1, (HPP.out.2.1 bc HBC.out.1 HNF.out.1).2⟩
        have hbe := (HPP.out.2.1 bc HBC.out.1 HNF.out.1).1
        have hbb := HJ.out.1
        exact ⟨(World.cell?_of_block (a := ⟨bc, 0, none⟩) hbe).trans hbb.c0, (World.cell?_of_block (a := ⟨bc, 1, none⟩) hbe).trans hbb.c1, (World.cell?_of_block (a := ⟨bc, 2, none⟩) hbe).trans hbb.c2, (World.cell?_of_block (a := ⟨bc, 3, none⟩) hbe).trans hbb.c3, (World.cell?_of_block (a := ⟨bc, 4, none⟩) hbe).trans hbb.c4, fun i => (World.frozen?_of_block (a := ⟨bc, i, none⟩) hbe).trans (hbb.fz i)⟩
       case measure => simp [intOf]; omega
      ·obtain rfl : j = xl := by omega
       have hfull : E.take j = E := List.take_of_length_le (by have h1 := HPL.out.2.2.1; have h2 := HPL.out.2.2.2.1; omega)
       have hfin := HJ.out.2.1
       rw [hfull] at hfin
       have HFN := Lib.hid hfin
       clear hfull hfin y0 y1 y2 y3 y4
       go_wp2_with fail
       go_roundw
       case rel => exact ⟨k + 1, us, D ++ E, keyR c :: l, by omega, by go_num, HFN.out, HPL.out.1⟩
       case measure => simp [intOf]; omega
    ·
     obtain ⟨an, han⟩ : ∃ an : Nat, c.a = (an : Int) := ⟨c.a.toNat, by have := HBD.out.2.1.1; omega⟩
     obtain ⟨bn, hbn⟩ : ∃ bn : Nat, c.b = (bn : Int) := ⟨c.b.toNat, by have := HBD.out.2.2.1.1; omega⟩
     have hann : an < n := by have h1 := HBD.out.2.1.2; rw [if_neg (by omega)] at h1; have := HA.out.2.2.2.2.2.2.2.2.1; omega
     have hanl : bn < lu.length := by have h1 := HBD.out.2.2.1.2; have h2 := HA.out.2.2.2.2.1; omega
     have hff := (HCC.out.2.1.f (.inr h4)).2
     obtain ⟨E, hE⟩ : ∃ E : List (Nat × Nat), E = (nth lu bn).map fun x => (an, cellI s x c.f) := ⟨_, rfl⟩
     have hEl : E.length = (nth lu bn).length := by rw [hE, List.length_map]
     have hpl : FiP s lu (k + 1) (D ++ E) (keyR c :: l) := ⟨HKY.out, fun e => by
      rw [edT_new, ← HCC.out.1, List.mem_append, HH.out.2.mem e]
      have : edR s lu c = E := by unfold edR; rw [if_neg (by omega), if_neg (by omega), if_pos h4, hE, han, hbn]; rfl
      rw [this], by have h1 := HH.out.2.len; have h2 := HA.out.2.2.2.2.2.2.1 bn hanl; rw [List.length_append, hEl]; omega⟩
     have hq2 : (c.k == 2) = false := by simp; omega
     have hq3 : (c.k == 3) = false := by simp; omega
     have hq4 : (c.k == 4) = true := by simpa using h4
     have hBZ : ∀ Z, WM.grownBy Z (some mb) → Below W.heap.size W Z := fun Z hZ => by
      have hbb := HF.out.2.2.2.1
      have hmb2 := HF.out.2.2.2.2.2.2.2
      exact hbb.grown hZ hbb.size fun q e => by have := Option.some.inj e; omega
     have hrow := HA.out.2.2.1.2.2 bn hanl
     obtain ⟨xa0, xc0, hxv, xm0, xi0, xd0, xb0⟩ := hrow.out1 sIntC
     obtain ⟨uc1, uc2⟩ := HA.out.2.2.2.1 bn hanl
     rw [← (hBZ Y HY.out.2.1.kp).cell (p := ⟨blk ua, ofs ua + bn, none⟩) uc2, hxv] at uc1
     have uia := ui .i64 (bn : Int) (by omega) (by omega)
     rw [Int.toNat_natCast] at uia
     obtain ⟨xl, hxl⟩ : ∃ xl, xl = (nth lu bn).length := ⟨_, rfl⟩
     rw [← hxl] at uc1 xm0 xi0 xd0 xb0
     have hx12 : xl ≤ 12 := by rw [hxl]; exact HA.out.2.2.2.2.2.2.1 bn hanl
     have HPL := Lib.hid (And.intro hpl (And.intro hE (And.intro hEl (And.intro hxl (And.intro xd0 (And.intro xb0 (And.intro hBZ (And.intro hff (And.intro hanl (And.intro (And.intro han hann) hbn))))))))))
     rw [hbn] at y2
     have hE0 : E.take 0 = [] := rfl
     have hY2 : BoxR Y bc c.k c.a c.b c.f (.slice sa sn sc) ∧ FiS WM n mb la lc (k + 1) us (D ++ E.take 0) (keyR c :: l) Y ∧ ¬ Foot (.slice la n lc) us bc := by rw [hE0, List.append_nil]; exact HY.out
     have HY2 := Lib.hid hY2
     clear hpl hE hEl hxl xd0 xb0 hBZ hff hrow uc2 h4 hE0 hY2 hanl hxv
     go_wp2_with fail
     clear y0 y1 y2 y3 y4 e0s e2s p0s uc1 uia HBC HNF
     go_loopw [14, 105] (fun _ x wr => ∃ (j : Nat) (us : List Value), j ≤ xl ∧ x = .int .i64 (j : Int) ∧ Hid (BoxR wr bc c.k c.a c.b c.f (.slice sa sn sc) ∧ FiS WM n mb la lc (k + 1) us (D ++ E.take j) (keyR c :: l) wr ∧ ¬ Foot (.slice la n lc) us bc)) (fun _ x _ => xl - (intOf x).toNat)
     case atStart => exact ⟨0, us, by omega, rfl, HY2.out⟩
     case round =>
      obtain ⟨j, us, hj, rfl, hh⟩ := hrel
      have HJ := Lib.hid hh.out
      obtain ⟨y0, y1, y2, y3, y4, -⟩ := hh.out.1
      clear hh
      by_cases hjt : j < xl
      ·have hbx := HF.out.2.1
       have e0s : wr.cell? ⟨bs, 0, none⟩ = some (.int .i64 s.vars) := HJ.out.2.1.kp.cell hbx.1 (fun e => by have := Option.some.inj e; dsimp only at this; have := HME.out; omega)
       have e2s : wr.cell? ⟨bs, 2, none⟩ = some (.int .i64 s.fields) := HJ.out.2.1.kp.cell hbx.2.2.1 (fun e => by have := Option.some.inj e; dsimp only at this; have := HME.out; omega)
       have HBC := Lib.hid (show bc < wr.drew.heap.size ∧ bs < wr.drew.heap.size from ⟨HJ.out.1.lt, World.block_lt_of_cell? wr _ e0s⟩)
       have HNF := Lib.hid (show ¬ Foot (.slice la n lc) us bc ∧ ¬ Foot (.slice la n lc) us bs from ⟨HJ.out.2.2, HJ.out.2.1.old (by have := HME.out; omega)⟩)
       obtain ⟨-, hE, hEl, hxl, xd0, xb0, hBZ, hff, hanl, ⟨han, hann⟩, hbn⟩ := HPL.out
       have xd := xd0 j hjt
       rw [← (hBZ wr HJ.out.2.1.kp).cell (p := ⟨blk xa0, ofs xa0 + j, none⟩) (xb0 j hjt)] at xd
       have xij := xi0 .i64 (j : Int) (by omega) (by omega)
       rw [Int.toNat_natCast] at xij
       obtain ⟨x, hx⟩ : ∃ x, x = nth (nth lu bn) j := ⟨_, rfl⟩
       rw [← hx] at xd
       have hxr := HA.out.2.2.2.2.2.1 bn hanl x (by rw [hx]; exact nth_mem _ _ (by omega))
       obtain ⟨xn, hxn⟩ : ∃ xn : Nat, x = (xn : Int) := ⟨x.toNat, by omega⟩
       obtain ⟨Pn, hPn⟩ : ∃ Pn : Nat, Pn = xn * s.fields.toNat := ⟨_, rfl⟩
       have hPi : (xn : Int) * s.fields = (Pn : Int) := by rw [hPn]; push_cast; rw [show ((s.fields.toNat : Nat) : Int) = s.fields by omega]
       have hPle : Pn + s.fields.toNat ≤ M := by
        rw [HA.out.2.2.2.2.2.2.2.1, hPn, ← Nat.succ_mul]
        exact Nat.mul_le_mul_right _ (by omega)
       obtain ⟨fn, hfn⟩ : ∃ fn : Nat, c.f = (fn : Int) := ⟨c.f.toNat, by have := HBD.out.2.2.2.1; omega⟩
       obtain ⟨q1, hq1⟩ : ∃ q1, q1 = s.vars.toNat + Pn := ⟨_, rfl⟩
       obtain ⟨cl, hcl⟩ : ∃ cl, cl = q1 + fn := ⟨_, rfl⟩
       have hcln : cl < n := by have := HA.out.2.2.2.2.2.2.2.2.1; omega
       have hcI : cellI s x c.f = cl := by unfold cellI; rw [hxn, hfn, hcl, hq1, hPn]; rfl
       have hw1 : IntKind.i64.wrap ((xn : Int) * s.fields) = (Pn : Int) := by rw [hPi]; exact IntWalk.i64_in _ (by omega)
       have hw2 : IntKind.i64.wrap (s.vars + (Pn : Int)) = (q1 : Int) := by rw [IntWalk.i64_in _ (by omega)]; omega
       have hw3 : IntKind.i64.wrap ((q1 : Int) + (fn : Int)) = (cl : Int) := by rw [IntWalk.i64_in _ (by omega)]; omega
       have hEs : E.take (j + 1) = E.take j ++ [(an, cl)] := by
        rw [take_snoc _ _ (by omega)]
        congr 2
        rw [hE, nth_eq _ _ (by rw [List.length_map]; omega), List.getElem_map, ← nth_eq _ _ (by omega), ← hx, hcI]
       have hdl : (D ++ E.take j).length ≤ 12 * k + 12 := by have h1 := HH.out.2.len; rw [List.length_append, List.length_take]; omega
       have HDL := Lib.hid (And.intro hdl hEs)
       rw [hxn] at xd
       rw [hfn] at y3
       rw [han] at y1
       clear hE hEl hxl xd0 xb0 hBZ hff hanl han hbn hbx hx hxr hxn hPn hPi hPle hfn hq1 hcl hcI hEs hdl y4
       go_upto_region 23 with fail
       clear xd xij
       have hd := HJ.out.2.1.grow (grownBy_drew0 wr)
       obtain ⟨xa, xc, hxe, hxc, hxo, hxi⟩ := hd.rd hann
       have hrl : (Go.Kah.row (D ++ E.take j) an).length ≤ 2000 := by
        have h1 : (Go.Kah.row (D ++ E.take j) an).length ≤ ((D ++ E.take j)).length := by unfold Go.Kah.row; rw [List.length_map]; exact List.length_filter_le _ _
        have h2 := HDL.out.1
        omega
       have hBY : WM.heap.size ≤ (wr).drew.heap.size := hd.kp.size
       have HDD := Lib.hid (And.intro hd (And.intro hxe (And.intro hxo hBY)))
       have hS0 : (wr).drew.heap[bc]? = (wr).heap[bc]? ∧ (wr).drew.heap[bs]? = (wr).heap[bs]? ∧ (wr).drew.cell? ⟨blk la, ofs la + an, none⟩ = some (.slice xa (Go.Kah.row (D ++ E.take j) an).length xc) := ⟨rfl, rfl, hxc⟩
       clear hd hxe hxo hBY
       generalize hrn : (Go.Kah.row (D ++ E.take j) an).length = rn at *
       refine wp_region_mix [0, 1, 2, 3, 4, 5, 6, 7, 8, 9, 10, 11, 12, 13, 14, 15, 16, 17] [18, 19, 20, 21] (fun w' => w'.heap[bc]? = (wr).heap[bc]? ∧ w'.heap[bs]? = (wr).heap[bs]? ∧ w'.cell? ⟨blk la, ofs la + an, none⟩ = some (.slice xa rn xc)) (by kernel_rfl) (by kernel_rfl) (by kernel_rfl) hS0 ?_
       repeat (
        refine wpHeads_cons (v := ?_) rfl (Or.inl ⟨by rfl, ?_⟩) ?_
        rotate_left
        ·(intro W hW
          have x0 := (World.cell?_of_block (a := ⟨bc, 0, none⟩) hW.1).trans y0
          have x1 := (World.cell?_of_block (a := ⟨bc, 1, none⟩) hW.1).trans y1
          have x2 := (World.cell?_of_block (a := ⟨bc, 2, none⟩) hW.1).trans y2
          have x3 := (World.cell?_of_block (a := ⟨bc, 3, none⟩) hW.1).trans y3
          have u0 := (World.cell?_of_block (a := ⟨bs, 0, none⟩) hW.2.1).trans e0s
          have u2 := (World.cell?_of_block (a := ⟨bs, 2, none⟩) hW.2.1).trans e2s
          obtain ⟨-, -, q3⟩ := hW
          go_simp; try with_reducible rfl)
        simp only [Act.put, List.setIfInBounds_toArray, List.getElem_toArray, List.getElem_cons_zero, List.getElem_cons_succ, List.set_cons_succ, List.set_cons_zero])
       refine wpHeads_nil ?_
       refine wpTails_cons rfl ?_
       go_wp2_with fail
       have gB := grownBy_alloc (wr).drew (.cells #[.int .i64 (cl : Int)] 3)
       have hSA : ((wr).drew.alloc (.cells #[.int .i64 (cl : Int)] 3)).heap[bc]? = (wr).heap[bc]? ∧ ((wr).drew.alloc (.cells #[.int .i64 (cl : Int)] 3)).heap[bs]? = (wr).heap[bs]? ∧ ((wr).drew.alloc (.cells #[.int .i64 (cl : Int)] 3)).cell? ⟨blk la, ofs la + an, none⟩ = some (.slice xa rn xc) :=
        ⟨gB.block bc HBC.out.1 (by simp), gB.block bs HBC.out.2 (by simp), gB.cell hxc (by simp)⟩
       refine tail_mk hSA ?_
       refine wpTails_cons rfl ?_
       refine wp_append1at (f := Value.int .i64) sIntG rfl _ rfl _ _ rfl WM.heap.size (.slice xa rn xc) (castL (Go.Kah.row (D ++ E.take j) an)) rfl (by have := HDD.out.2.2.1; exact this.alloc _) (cl : Int) ⟨(wr).drew.heap.size, 0, none⟩ rfl (cell_alloc1 _ _ _) rfl (by rw [castL_len]; omega) (by omega) (le_alloc _ HDD.out.2.2.2) ?_
       intro v' w3 hown hgr hat
       obtain ⟨s9, c9, rfl⟩ := hown.shape (n := rn + 1) (by rw [List.length_append, castL_len, hrn]; rfl)
       rw [← HDD.out.2.1] at hgr hat
       obtain ⟨t1, t2, tk, hP, hk9⟩ := HDD.out.1.app (b := cl) hann hown hgr hat
       rw [HDD.out.2.1] at t1
       have hS3 : w3.heap[bc]? = (wr).heap[bc]? ∧ w3.heap[bs]? = (wr).heap[bs]? ∧ w3.cell? ⟨blk la, ofs la + an, none⟩ = some (.slice xa rn xc) := ⟨tk bc HBC.out.1 HNF.out.1, tk bs HBC.out.2 HNF.out.2, t1⟩
       have HPP := Lib.hid (And.intro hP (And.intro hk9 hS3))
       clear hP hk9 hS3 tk hown hgr hat gB hSA
       refine tail_mk HPP.out.2.2 ?_
       refine wpTails_cons rfl ?_
       go_wp2_with fail
       refine tail_mk HPP.out.2.2 ?_
       refine wpTails_one rfl ?_
       go_wp2_with fail
       refine thenQ_mk ?_
       go_wp2_with fail
       go_roundw
       case rel =>
        refine ⟨j + 1, _, by omega, by go_num, ?_, by rw [HDL.out.2, ← List.append_assoc]; exact HPP.out.1, (HPP.out.2.1 bc HBC.out.1 HNF.out.1).2⟩
        have hbe := (HPP.out.2.1 bc HBC.out.1 HNF.out.1).1
        have hbb := HJ.out.1
        exact ⟨(World.cell?_of_block (a := ⟨bc, 0, none⟩) hbe).trans hbb.c0, (World.cell?_of_block (a := ⟨bc, 1, none⟩) hbe).trans hbb.c1, (World.cell?_of_block (a := ⟨bc, 2, none⟩) hbe).trans hbb.c2, (World.cell?_of_block (a := ⟨bc, 3, none⟩) hbe).trans hbb.c3, (World.cell?_of_block (a := ⟨bc, 4, none⟩) hbe).trans hbb.c4, fun i => (World.frozen?_of_block (a := ⟨bc, i, none⟩) hbe).trans (hbb.fz i)⟩
       case measure => simp [intOf]; omega
      ·obtain rfl : j = xl := by omega
       have hfull : E.take j = E := List.take_of_length_le (by have h1 := HPL.out.2.2.1; have h2 := HPL.out.2.2.2.1; omega)
       have hfin := HJ.out.2.1
       rw [hfull] at hfin
       have HFN := Lib.hid hfin
       clear hfull hfin y0 y1 y2 y3 y4
       go_wp2_with fail
       go_roundw
       case rel => exact ⟨k + 1, us, D ++ E, keyR c :: l, by omega, by go_num, HFN.out, HPL.out.1⟩
       case measure => simp [intOf]; omega
   ·have hseen : ∃ i, i < k ∧ sameK (nth s.cons i) (nth s.cons k) := by
     have := HX.out.2.1.1 rfl
     rw [HH.out.2.keys c, HCC.out.1] at this
     exact this
    have hpl : FiP s lu (k + 1) D l := ⟨fun d => by
     rw [HH.out.2.keys d]
     constructor
     ·rintro ⟨i, hi, h2⟩; exact ⟨i, by omega, h2⟩
     ·rintro ⟨i, hi, h2⟩
      by_cases e : i = k
      ·subst e
       obtain ⟨j, hj, h3⟩ := hseen
       exact ⟨j, hj, h3.1.trans h2.1, h3.2.1.trans h2.2.1, h3.2.2.1.trans h2.2.2.1, h3.2.2.2.trans h2.2.2.2⟩
      ·exact ⟨i, by omega, h2⟩, fun e => by rw [HH.out.2.mem e, edT_seen hseen], by have := HH.out.2.len; omega⟩
    have HPL := Lib.hid hpl
    clear hseen hpl
    go_wp2_with fail
    go_roundw
    case rel => exact ⟨k + 1, us, D, l, by omega, by go_num, ⟨(HH.out.1.grow HZ.out.2).rows, (HH.out.1.grow HZ.out.2).set.mono (by omega), (HH.out.1.grow HZ.out.2).kp, HH.out.1.mlt⟩, HPL.out⟩
    case measure => simp [intOf]; omega
  ·obtain rfl : k = s.cons.length := by omega
   clear kpo
   go_wp2_with fail
   go_ret
   have hbb := HF.out.2.2.2.1
   refine ⟨la, lc, us, D, rfl, ⟨?_, HH.out.1.rows.len, fun i hi => ?_, HH.out.1.rows.sep, HH.out.1.rows.apart⟩, HH.out.2.mem, by have := HH.out.2.len; omega, ?_⟩
   ·exact HH.out.1.rows.out.mono hbb.size
   ·exact (HH.out.1.rows.inn i hi).mono hbb.size
   ·have hmb2 := HF.out.2.2.2.2.2.2.2
    exact hbb.grown HH.out.1.kp hbb.size fun q e => by have := Option.some.inj e; omega
end Go.Proofs.YtgblfjccccdidaaGreat
end
section
namespace Go.Clp
open Go.Dfl (nth nth_set nth_mem mem_nth nth_eq nth_ext nth_append nth_out take_snoc)
open Go.Tj (Rt Sc IsHd)
open Go.And (R Sy C Syst Pts Shut Holds pts_shut pts_bound Vld VldC Sm)
section
variable {s : Sy} {l : List Int}
theorem red_mem {d : R} : d ∈ (red s l).cons ↔ (∃ c ∈ s.cons, d = redC l c) ∧ redB d = true := mem_redL
theorem redC_vld {c : R} (hv : Vld s) (hl : Lds (eI (copE s.cons)) s.vars.toNat l) (hc : c ∈ s.cons) : VldC (red s l) (redC l c) := by
 have h := hv.cons c hc
 have hb := hl.le (v := c.b.toNat) (by have := h.b; have := hv.vars; omega)
 refine ⟨h.kind, ?_, ⟨hb.1, by show nth l c.b.toNat < s.vars; have := hv.vars; omega⟩, h.f, h.s, h.f0, h.s0, h.asc⟩
 have ha := h.a
 show 0 ≤ (if c.k = 1 then c.a else nth l c.a.toNat) ∧ (if c.k = 1 then (if c.k = 1 then c.a else nth l c.a.toNat) < s.sites else (if c.k = 1 then c.a else nth l c.a.toNat) < s.vars)
 by_cases h1 : c.k = 1
 ·simp only [h1, if_true] at ha ⊢; exact ha
 ·simp only [h1, if_false] at ha ⊢
  have ha2 := hl.le (v := c.a.toNat) (by have := hv.vars; omega)
  exact ⟨ha2.1, by have := hv.vars; omega⟩
theorem red_vld (hv : Vld s) (hl : Lds (eI (copE s.cons)) s.vars.toNat l) : Vld (red s l) := ⟨hv.vars, hv.sites, hv.fields, fun d hd => by
 obtain ⟨⟨c, hc, rfl⟩, -⟩ := red_mem.1 hd
 exact redC_vld hv hl hc⟩
theorem red_sm (hs : Sm s) : Sm (red s l) := ⟨hs.vars, hs.sites, hs.fields, Nat.le_trans (redL_len _ _) hs.cons⟩
def repN (s : Sy) (l : List Int) (i : Nat) : Nat := if i < s.vars.toNat then (nth l i).toNat else i
theorem repN_var {i : Nat} (h : i < s.vars.toNat) : repN s l i = (nth l i).toNat := if_pos h
theorem repN_cell {y f : Nat} : repN s l (s.S.cell y f) = s.S.cell y f := if_neg (by unfold Syst.cell; show ¬ s.vars.toNat + _ + _ < _; omega)
theorem mem_S {c : C} : c ∈ s.S.cons ↔ ∃ r ∈ s.cons, r.C = c := List.mem_map
theorem pts_copy {a b : Nat} (h : eI (copE s.cons) a b) {x : Nat} (hx : Pts s.S a x) : Pts s.S b x := by
 obtain ⟨c, hc, h2, h3, h4⟩ := mem_copE.1 h
 have h5 : c.C ∈ s.S.cons := mem_S.2 ⟨c, hc, rfl⟩
 have := (pts_shut s.S _ h5).2.1 (by show c.k.toNat = 2; omega) x (by show Pts s.S c.a.toNat x; rw [h3]; exact hx)
 have h6 : Pts s.S c.b.toNat x := this
 rw [h4] at h6; exact h6
theorem pts_rt {a b : Nat} (h : Rt (eI (copE s.cons)) a b) {x : Nat} (hx : Pts s.S a x) : Pts s.S b x := by
 induction h with
 | refl => exact hx
 | step _ h2 ih => exact pts_copy h2 ih
theorem pts_rep (hl : Lds (eI (copE s.cons)) s.vars.toNat l) {i x : Nat} : Pts s.S i x ↔ Pts s.S (repN s l i) x := by
 by_cases hi : i < s.vars.toNat
 ·rw [repN_var hi]
  have := (hl.hd hi).1
  exact ⟨pts_rt this.1, pts_rt this.2⟩
 ·unfold repN; rw [if_neg hi]
theorem red_C (c : R) : (redC l c).C = ⟨c.k.toNat, (if c.k = 1 then c.a else nth l c.a.toNat).toNat, (nth l c.b.toNat).toNat, c.f.toNat, c.s.map Int.toNat⟩ := rfl
theorem pts_to (hv : Vld s) {i x : Nat} (h : Pts s.S i x) : Pts (red s l).S (repN s l i) x := by
 refine Pts.least (p := fun i x => Pts (red s l).S (repN s l i) x) (fun c hc => ?_) h
 obtain ⟨r, hr, rfl⟩ := mem_S.1 hc
 have hrv := hv.cons r hr
 have hv0 := hv.vars
 have hb : r.C.b < s.vars.toNat := by show r.b.toNat < _; have := hrv.b; omega
 have hin : ¬ (r.k = 2 ∧ (redC l r).a = (redC l r).b) → (redC l r).C ∈ (red s l).S.cons := fun h => mem_S.2 ⟨redC l r, red_mem.2 ⟨⟨r, hr, rfl⟩, by
  unfold redB
  show (!(decide (r.k = 2) && decide ((redC l r).a = (redC l r).b))) = true
  by_cases h2 : r.k = 2
  ·have h3 : (redC l r).a ≠ (redC l r).b := fun e => h ⟨h2, e⟩
   simp [h3]
  ·simp [h2]⟩, rfl⟩
 have hk : ∀ k : Nat, r.C.k = k → 1 ≤ k → r.k = (k : Int) := fun k e h1 => by have : r.k.toNat = k := e; omega
 have hbr : (redC l r).C.b = repN s l r.C.b := by rw [repN_var hb]; rfl
 have har : r.k ≠ 1 → (redC l r).C.a = repN s l r.C.a ∧ r.C.a < s.vars.toNat := fun h1 => by
  have ha := hrv.a
  rw [if_neg h1] at ha
  have : r.C.a < s.vars.toNat := by show r.a.toNat < _; omega
  rw [repN_var this, red_C]
  simp only [h1, if_false]
  exact ⟨rfl, this⟩
 have hcell : ∀ y f, (red s l).S.cell y f = s.S.cell y f := fun _ _ => rfl
 refine ⟨fun h1 => ?_, fun h2 z hz => ?_, fun h3 y hy z hz => ?_, fun h4 y hy z hz => ?_, fun h5 z hz hzs => ?_⟩
 ·have e1 : r.k = 1 := hk 1 h1 (by omega)
  have := (pts_shut (red s l).S _ (hin (fun h => by have := h.1; omega))).1 h1
  rw [hbr] at this
  have ha : (redC l r).C.a = r.C.a := by rw [red_C]; show (if r.k = 1 then r.a else nth l r.a.toNat).toNat = r.a.toNat; rw [if_pos e1]
  rw [ha] at this
  exact this
 ·have e1 := hk 2 h2 (by omega)
  obtain ⟨ha, -⟩ := har (by omega)
  by_cases he : (redC l r).a = (redC l r).b
  ·have h6 : (redC l r).C.a = (redC l r).C.b := by show (redC l r).a.toNat = (redC l r).b.toNat; rw [he]
   rw [ha, hbr] at h6
   show Pts (red s l).S (repN s l r.C.b) z
   rw [← h6]; exact hz
  ·have := (pts_shut (red s l).S _ (hin (fun h => he h.2))).2.1 h2 z (by rw [ha]; exact hz)
   rw [hbr] at this; exact this
 ·have e1 := hk 3 h3 (by omega)
  obtain ⟨ha, -⟩ := har (by omega)
  have hz : Pts (red s l).S (repN s l (s.S.cell y r.C.f)) z := hz
  rw [repN_cell] at hz
  have := (pts_shut (red s l).S _ (hin (fun h => by have := h.1; omega))).2.2.1 h3 y (by rw [ha]; exact hy) z hz
  rw [hbr] at this; exact this
 ·have e1 := hk 4 h4 (by omega)
  obtain ⟨ha, -⟩ := har (by omega)
  show Pts (red s l).S (repN s l (s.S.cell y r.C.f)) z
  rw [repN_cell]
  exact (pts_shut (red s l).S _ (hin (fun h => by have := h.1; omega))).2.2.2.1 h4 y (by rw [hbr]; exact hy) z (by rw [ha]; exact hz)
 ·have e1 := hk 5 h5 (by omega)
  obtain ⟨ha, -⟩ := har (by omega)
  have := (pts_shut (red s l).S _ (hin (fun h => by have := h.1; omega))).2.2.2.2 h5 z (by rw [ha]; exact hz) hzs
  rw [hbr] at this; exact this
theorem pts_from (hv : Vld s) (hl : Lds (eI (copE s.cons)) s.vars.toNat l) {i x : Nat} (h : Pts (red s l).S i x) : Pts s.S i x := by
 refine Pts.least (p := fun i x => Pts s.S i x) (fun c hc => ?_) h
 obtain ⟨d, hd, rfl⟩ := mem_S.1 hc
 obtain ⟨⟨r, hr, rfl⟩, -⟩ := red_mem.1 hd
 have hrv := hv.cons r hr
 have hv0 := hv.vars
 have hrS : r.C ∈ s.S.cons := mem_S.2 ⟨r, hr, rfl⟩
 have hb : r.C.b < s.vars.toNat := by show r.b.toNat < _; have := hrv.b; omega
 have hbr : (redC l r).C.b = repN s l r.C.b := by rw [repN_var hb]; rfl
 have hk : ∀ k : Nat, (redC l r).C.k = k → 1 ≤ k → r.k = (k : Int) := fun k e h1 => by have : r.k.toNat = k := e; omega
 have har : r.k ≠ 1 → (redC l r).C.a = repN s l r.C.a := fun h1 => by
  have ha := hrv.a
  rw [if_neg h1] at ha
  have : r.C.a < s.vars.toNat := by show r.a.toNat < _; omega
  rw [repN_var this, red_C]
  simp only [h1, if_false]
  rfl
 have hcell : ∀ y f, (red s l).S.cell y f = s.S.cell y f := fun _ _ => rfl
 refine ⟨fun h1 => ?_, fun h2 z hz => ?_, fun h3 y hy z hz => ?_, fun h4 y hy z hz => ?_, fun h5 z hz hzs => ?_⟩
 ·have e1 : r.k = 1 := hk 1 h1 (by omega)
  have ha : (redC l r).C.a = r.C.a := by rw [red_C]; show (if r.k = 1 then r.a else nth l r.a.toNat).toNat = r.a.toNat; rw [if_pos e1]
  show Pts s.S (redC l r).C.b (redC l r).C.a
  rw [hbr, ha, ← pts_rep hl]
  exact (pts_shut s.S _ hrS).1 h1
 ·have e1 := hk 2 h2 (by omega)
  have hz : Pts s.S (redC l r).C.a z := hz
  show Pts s.S (redC l r).C.b z
  rw [hbr, ← pts_rep hl]
  rw [har (by omega), ← pts_rep hl] at hz
  exact (pts_shut s.S _ hrS).2.1 h2 z hz
 ·have e1 := hk 3 h3 (by omega)
  have hy : Pts s.S (redC l r).C.a y := hy
  show Pts s.S (redC l r).C.b z
  rw [hbr, ← pts_rep hl]
  rw [har (by omega), ← pts_rep hl] at hy
  exact (pts_shut s.S _ hrS).2.2.1 h3 y hy z hz
 ·have e1 := hk 4 h4 (by omega)
  have hz : Pts s.S (redC l r).C.a z := hz
  have hy : Pts s.S (redC l r).C.b y := hy
  rw [har (by omega), ← pts_rep hl] at hz
  rw [hbr, ← pts_rep hl] at hy
  exact (pts_shut s.S _ hrS).2.2.2.1 h4 y hy z hz
 ·have e1 := hk 5 h5 (by omega)
  have hz : Pts s.S (redC l r).C.a z := hz
  show Pts s.S (redC l r).C.b z
  rw [hbr, ← pts_rep hl]
  rw [har (by omega), ← pts_rep hl] at hz
  exact (pts_shut s.S _ hrS).2.2.2.2 h5 z hz hzs
theorem pts_red (hv : Vld s) (hl : Lds (eI (copE s.cons)) s.vars.toNat l) {i x : Nat} : Pts s.S i x ↔ Pts (red s l).S (repN s l i) x :=
 ⟨pts_to hv, fun h => (pts_rep hl).2 (pts_from hv hl h)⟩
end
end Go.Clp
namespace Go.Proofs.YtgblfjccccdidaaGreat
open Go.RowKit Go.Dfl Go.Clp Go.And
theorem sol_exp {s : Sy} {l : List Int} {lu lv : List (List Int)} (hv : Vld s) (hl : Lds (eI (copE s.cons)) s.vars.toNat l) (h : Sol (red s l).S lu lv) : Sol s.S (expL lu l) lv := by
 obtain ⟨h1, h2, h3, h4⟩ := h
 refine ⟨by rw [expL_len]; exact hl.1, h2, fun i hi => ?_, fun i hi => ?_⟩
 ·have hi' : i < s.vars.toNat := hi
  rw [expL_nth (by rw [hl.1]; exact hi)]
  have hle := hl.le hi'
  obtain ⟨L, e1, e2, e3⟩ := h3 (nth l i).toNat (by show _ < s.vars.toNat; omega)
  exact ⟨L, e1, e2, fun y => by rw [e3, pts_red hv hl, repN_var hi']⟩
 ·obtain ⟨L, e1, e2, e3⟩ := h4 i hi
  refine ⟨L, e1, e2, fun y => ?_⟩
  rw [e3, pts_red hv hl (i := s.S.vars + i)]
  have : repN s l (s.S.vars + i) = s.S.vars + i := if_neg (by show ¬ s.vars.toNat + i < s.vars.toNat; omega)
  rw [this]; rfl
theorem sol_bnd {s : Sy} {lu lv : List (List Int)} (hv : Vld s) (h : Sol s.S lu lv) (hs : Sm s) : (∀ i, i < lu.length → (∀ x ∈ nth lu i, 0 ≤ x ∧ x < s.sites) ∧ (nth lu i).length ≤ 12) ∧ ∀ i, i < lv.length → (∀ x ∈ nth lv i, 0 ≤ x ∧ x < s.sites) ∧ (nth lv i).length ≤ 12 := by
 have key : ∀ i m, IsSol s.S i m → (∀ x ∈ m, 0 ≤ x ∧ x < s.sites) ∧ m.length ≤ 12 := fun i m ⟨L, e1, e2, e3⟩ => by
  have hb : ∀ y ∈ L, y < s.sites.toNat := fun y hy => (pts_bound hv.ok ((e3 y).1 hy)).2
  have hsi := hs.sites
  refine ⟨fun x hx => ?_, ?_⟩
  ·rw [e1] at hx
   obtain ⟨y, hy, rfl⟩ := List.mem_map.1 hx
   have := hb y hy
   omega
  ·rw [e1, List.length_map]
   exact Nat.le_trans (sorted_len' e2 hb) (by omega)
 exact ⟨fun i hi => key i _ (h.2.2.1 i (by rw [← h.1]; exact hi)), fun i hi => key _ _ (h.2.2.2 i (by rw [← h.2.1]; exact hi))⟩
end Go.Proofs.YtgblfjccccdidaaGreat
end
section
namespace Go.Clp
open Go.Tj (IsHd)
open Go.And (Sy)
def eF (s : Sy) (lu : List (List Int)) (a b : Nat) : Prop := edT s lu s.cons.length (a, b)
def FinHd (s : Sy) (lu : List (List Int)) (hd : List Int) : Prop := hd.length = s.S.N ∧ ∀ v, v < s.S.N → ∃ m : Nat, Go.Dfl.nth hd v = (m : Int) ∧ IsHd (eF s lu) v m
end Go.Clp
namespace Go.Proofs.YtgblfjccccdidaaGreat
open Go.RowKit Go.Dfl Go.Gra Go.Clp Go.Tj Go.Spl
open Go.And (R Sy Vld Sm chkG chkCode colC colC_ok colC_sm chkG_ok chkCode_ok Syst)
def GSolR (s : Sy) (W : World) (e : Ending) (W' : World) : Prop :=
 (colC s ≠ 0 ∧ e = .returned (.tuple #[.agg #[.slice none 0 0, .slice none 0 0], .int .i64 0, .int .i64 (colC s)]) ∧ Below W.heap.size W W') ∨
 (colC s = 0 ∧ ∃ ua uc va vc lu lv hd, e = .returned (.tuple #[.agg #[.slice ua s.S.vars uc, .slice va (s.S.sites * s.S.fields) vc], .int .i64 ((offH s.S.vars hd : Nat) : Int), .int .i64 0]) ∧ PtsIn W' (.slice ua s.S.vars uc) (.slice va (s.S.sites * s.S.fields) vc) lu lv ∧ Sol s.S lu lv ∧ FinHd s lu hd ∧ Below W.heap.size W W')
theorem eF_lt {s : Sy} {lu lv : List (List Int)} (hv : Vld s) (hs : Sm s) (h : Sol s.S lu lv) {a b : Nat} (he : eF s lu a b) : a < s.S.N ∧ b < s.S.N := by
 obtain ⟨i, hi, hm⟩ := he
 have hc := hv.cons _ (nth_mem _ _ hi)
 have hb := (sol_bnd hv h hs).1
 have hl : lu.length = s.vars.toNat := h.1
 have hv0 := hv.vars
 have hcell : ∀ x, 0 ≤ x ∧ x < s.sites → (nth s.cons i).f < s.fields → cellI s x (nth s.cons i).f < s.S.N := fun x hx hf => by
  unfold cellI
  show _ < s.vars.toNat + s.sites.toNat * s.fields.toNat
  have h1 : x.toNat * s.fields.toNat + s.fields.toNat ≤ s.sites.toNat * s.fields.toNat := by rw [← Nat.succ_mul]; exact Nat.mul_le_mul_right _ (by omega)
  have := hc.f'
  omega
 have hN : s.vars.toNat ≤ s.S.N := Nat.le_add_right _ _
 unfold edR at hm
 have ha := hc.a
 have hbb := hc.b
 by_cases h2 : (nth s.cons i).k = 2
 ·rw [if_pos h2, List.mem_singleton] at hm
  rw [if_neg (by omega)] at ha
  simp only [Prod.mk.injEq] at hm
  omega
 ·rw [if_neg h2] at hm
  by_cases h3 : (nth s.cons i).k = 3
  ·rw [if_pos h3] at hm
   rw [if_neg (by omega)] at ha
   obtain ⟨x, hx, he⟩ := List.mem_map.1 hm
   simp only [Prod.mk.injEq] at he
   have := hcell x ((hb _ (by omega)).1 x hx) (hc.f (.inl h3)).2
   omega
  ·rw [if_neg h3] at hm
   by_cases h4 : (nth s.cons i).k = 4
   ·rw [if_pos h4] at hm
    rw [if_neg (by omega)] at ha
    obtain ⟨x, hx, he⟩ := List.mem_map.1 hm
    simp only [Prod.mk.injEq] at he
    have := hcell x ((hb _ (by omega)).1 x hx) (hc.f (.inr h4)).2
    omega
   ·rw [if_neg h4] at hm; cases hm
set_option maxHeartbeats 6400000 in
set_option maxRecDepth 100000 in
theorem gSolve_any (s : Sy) (cv : Value) (W : World) (hc : ConsIn W cv s.cons) (hs : Sm s) : Calls Tryz.prog 17 #[SysV s cv] W (GSolR s W) := by
 obtain ⟨ca, cc, rfl, -, -, -⟩ := hc.out
 have hl9 : s.cons.length ≤ 1000 := by have := hs.cons; omega
 have hbs := (BoxS.new W s (.slice ca s.cons.length cc) 24).grown (grownBy_alloc _ (.cells #[.slice none 0 0, .slice none 0 0] 34)) (by simp)
 have hrx := ExM.new (W.alloc (.cells #[.int .i64 s.vars, .int .i64 s.sites, .int .i64 s.fields, .slice ca s.cons.length cc] 24)) 34
 rw [World.size_alloc] at hrx
 have hb0 : Below W.heap.size W ((W.alloc (.cells #[.int .i64 s.vars, .int .i64 s.sites, .int .i64 s.fields, .slice ca s.cons.length cc] 24)).alloc (.cells #[.slice none 0 0, .slice none 0 0] 34)) := ((Below.refl _ _).alloc (Nat.le_refl _) _).alloc (by simp) _
 have H0 := Lib.hid (And.intro hc (And.intro hs (And.intro hbs (And.intro hrx hb0))))
 clear hc hs hbs hrx hb0
 unfold SysV
 go_enter Tryz.func17, Tryz.ntmps17
 go_wp2_with fail
 have hrd := gReduce_any s (.slice ca s.cons.length cc) _ (H0.out.1.below H0.out.2.2.2.2) hl9
 unfold SysV at hrd
 refine hrd.mono ?_
 intro e W1 hpost
 rcases hpost with ⟨hne, rfl, b1⟩ | ⟨hz, l, ra, rc, rv, rfl, hl, hcr, hir, b1⟩
 ·have x0 : (colC s != 0) = true := by simpa using hne
  have hb := H0.out.2.2.2.2.trans (b1.mono H0.out.2.2.2.2.size)
  have hx := H0.out.2.2.2.1.grown (grownBy_below b1)
  have r0 := hx.c0
  have r1 := hx.c1
  have f0 := hx.frz 0
  have f1 := hx.frz 1
  have lr := hx.lt
  have nr := Nat.ne_of_lt lr
  have HC := Lib.hid (And.intro hne (And.intro hb hx))
  clear hne b1 hrd hb hx
  generalize hcd : colC s = code at *
  have HCD := Lib.hid hcd
  clear hcd
  go_wp2_with fail
  (try simp only [Exit.inBlock, Exit.then])
  refine bodyPost_ret (v := .tuple #[.agg #[.slice none 0 0, .slice none 0 0], .int .i64 0, .int .i64 code]) (by rw [results_cell3 rfl]; go_simp; try rfl) rfl ?_
  refine .inl ⟨by rw [HCD.out]; exact HC.out.1, by rw [HCD.out], ?_⟩
  exact ((HC.out.2.1.setCell (show W.heap.size ≤ (⟨W.heap.size + 1, 0, none⟩ : Addr).block by simp) _).setCell (show W.heap.size ≤ (⟨W.heap.size + 1, 1, none⟩ : Addr).block by simp) _).alloc (by rw [World.size_setCell, World.size_setCell]; exact HC.out.2.1.size) _
 ·have hv := chkCode_ok.1 (chkG_ok (colC_ok hz).1).1
  have hb := H0.out.2.2.2.2.trans (b1.mono H0.out.2.2.2.2.size)
  have hx := H0.out.2.2.2.1.grown (grownBy_below b1)
  have hbs := H0.out.2.2.1.grown (grownBy_below b1) (by simp)
  obtain ⟨N1, hN1⟩ : ∃ N1, N1 = (redL l s.cons).length := ⟨_, rfl⟩
  have gA := grownBy_alloc W1 (.cells #[.int .i64 s.vars, .int .i64 s.sites, .int .i64 s.fields, .slice ra N1 rc] 24)
  have bA := (Below.refl W1.heap.size W1).alloc (Nat.le_refl _) (.cells #[.int .i64 s.vars, .int .i64 s.sites, .int .i64 s.fields, .slice ra N1 rc] 24)
  obtain ⟨bb, hbb⟩ : ∃ bb, bb = W.heap.size := ⟨_, rfl⟩
  obtain ⟨br, hbr⟩ : ∃ br, br = W.heap.size + 1 := ⟨_, rfl⟩
  rw [← hbr] at hx
  rw [← hbb] at hbs
  rw [← hN1] at hcr
  have H1 := Lib.hid (And.intro hz (And.intro hv (And.intro hl (And.intro (And.intro hcr (And.intro hir hN1)) (And.intro hb (And.intro hx (And.intro hbs (And.intro hbb hbr))))))))
  rw [← hbr, ← hbb]
  rw [show SysV (red s l) (.slice ra (redL l s.cons).length rc) = .agg #[.int .i64 s.vars, .int .i64 s.sites, .int .i64 s.fields, .slice ra N1 rc] by rw [hN1]; rfl]
  clear hz hl hcr hir hN1 b1 hb hx hbs hbb hbr hrd
  go_wp2_with fail
  have hcr2 : ConsIn (W1.alloc (.cells #[.int .i64 s.vars, .int .i64 s.sites, .int .i64 s.fields, .slice ra N1 rc] 24)) (.slice ra N1 rc) (red s l).cons := H1.out.2.2.2.1.1.below bA
  have hsv := Solve_any (red s l) (.slice ra N1 rc) _ hcr2 (red_sm H0.out.2.1)
  unfold SysV at hsv
  refine Calls.mono hsv ?_
  intro e W2 hpost
  have hok := chkCode_ok.2 (red_vld H1.out.2.1 H1.out.2.2.1)
  rcases hpost with ⟨hne, -⟩ | ⟨-, ua, uc, va, vc, lu, lv, rfl, hpi, hsol, b2⟩
  ·exact absurd hok hne
  have hb2 : Below W.heap.size W W2 := (H1.out.2.2.2.2.1.trans (bA.mono H1.out.2.2.2.2.1.size)).trans (b2.mono (by have := H1.out.2.2.2.2.1.size; simp; omega))
  have g12 : W1.grownBy W2 none := grownBy_trans gA (grownBy_below b2)
  have hx2 := H1.out.2.2.2.2.2.1.grown g12
  have hbs2 := H1.out.2.2.2.2.2.2.1.grown g12 (by simp)
  have hir2 : Ints W2 rv l := (H1.out.2.2.2.1.2.1.below bA).below b2
  have hsol2 := sol_exp H1.out.2.1 H1.out.2.2.1 hsol
  obtain ⟨V, hV⟩ : ∃ V, V = s.S.vars := ⟨_, rfl⟩
  obtain ⟨M, hM⟩ : ∃ M, M = s.S.sites * s.S.fields := ⟨_, rfl⟩
  have hpi2 : PtsIn W2 (.slice ua V uc) (.slice va M vc) lu lv := by rw [hV, hM]; exact hpi
  have hval : (.returned (.tuple #[.agg #[.slice ua (red s l).S.vars uc, .slice va ((red s l).S.sites * (red s l).S.fields) vc], .int .i64 0]) : Ending) = .returned (.tuple #[.agg #[.slice ua V uc, .slice va M vc], .int .i64 0]) := by rw [hV, hM]; rfl
  rw [hval]
  have H2 := Lib.hid (And.intro hsol (And.intro hsol2 (And.intro hpi2 (And.intro hir2 (And.intro hb2 (And.intro hx2 (And.intro hbs2 (And.intro hV hM))))))))
  clear hok hpi hsol b2 hb2 g12 hx2 hbs2 hir2 hsol2 hV hM hpi2 hval hsv hcr2 gA bA
  go_wp2_with fail
  obtain ⟨⟨us1, gu⟩, ⟨vs1, gv⟩⟩ := H2.out.2.2.1
  have hA8 := (Below.refl W2.heap.size W2).alloc (Nat.le_refl _) (.cells #[.slice ua V uc, .slice va M vc] 34)
  have hbd := sol_bnd (red_vld H1.out.2.1 H1.out.2.2.1) H2.out.1 (red_sm H0.out.2.1)
  have hlul : l.length = lu.length := by rw [H1.out.2.2.1.1]; exact H2.out.1.1.symm
  have hvn : s.vars.toNat ≤ 40 := by have := H0.out.2.1.vars; omega
  have hlvl : lv.length = M := H2.out.1.2.1.trans H2.out.2.2.2.2.2.2.2.2.symm
  have hMle : M ≤ 60 := by
   rw [H2.out.2.2.2.2.2.2.2.2]
   have h1 := H0.out.2.1.sites
   have h2 := H0.out.2.1.fields
   have : s.S.sites * s.S.fields ≤ 12 * 5 := Nat.mul_le_mul (by show s.sites.toNat ≤ 12; omega) (by show s.fields.toNat ≤ 5; omega)
   omega
  have hchk : Prt.chk l = 0 := Prt.chk_mk (by rw [H1.out.2.2.1.1]; omega) fun i hi => by
   rw [H1.out.2.2.1.1] at hi
   have := H1.out.2.2.1.le hi
   exact ⟨this.1, this.2.1, H1.out.2.2.1.self hi⟩
  refine (Expand_any (.slice ua V uc) (.slice va M vc) rv us1 vs1 lu lv l _ (gu.below hA8) (gv.below hA8) (H2.out.2.2.2.1.below hA8) (fun i hi => by have := (hbd.1 i hi).2; omega) (fun i hi => by have := (hbd.2 i hi).2; omega) (by omega)).mono ?_
  intro e W3 hpost
  rcases hpost with ⟨hne, -⟩ | ⟨-, hne, -⟩ | ⟨-, -, xa, xc, ya, yc, rfl, hpi3, b3⟩
  ·exact absurd hlul hne
  ·exact absurd hchk hne
  have hll : l.length = V := H1.out.2.2.1.1.trans H2.out.2.2.2.2.2.2.2.1.symm
  rw [hll, hlvl, World.size_alloc] at hpi3
  rw [hll, hlvl]
  have g23 := grownBy_trans (grownBy_alloc W2 (.cells #[.slice ua V uc, .slice va M vc] 34)) (grownBy_below b3)
  have hx8 : ExM W2.heap.size (.slice ua V uc) (.slice va M vc) [] [] [] [] W2 W2 → True := fun _ => trivial
  obtain ⟨b8, hb8⟩ : ∃ b8, b8 = W2.heap.size := ⟨_, rfl⟩
  have k8 : (W3.cell? ⟨b8, 0, none⟩ = some (.slice ua V uc) ∧ W3.cell? ⟨b8, 1, none⟩ = some (.slice va M vc)) ∧ W3.frozen? ⟨b8, 0, none⟩ = false ∧ W3.frozen? ⟨b8, 1, none⟩ = false := by
   have hn := cells_new (W := W2) (cs := [.slice ua V uc, .slice va M vc]) (t := 34) (B := b8) hb8
   have hbl := heap_alloc_new W2 (.cells #[.slice ua V uc, .slice va M vc] 34)
   have h9 := (b3.block W2.heap.size (by simp)).trans hbl
   rw [← hb8] at h9
   refine ⟨⟨(grownBy_below b3).cell (hn 0 _ rfl) (by simp), (grownBy_below b3).cell (hn 1 _ rfl) (by simp)⟩, by simp [World.frozen?, h9], by simp [World.frozen?, h9]⟩
  have hb3 : Below W.heap.size W W3 := H2.out.2.2.2.2.1.grown g23 H2.out.2.2.2.2.1.size (by simp)
  have hx3 := H2.out.2.2.2.2.2.1.grown g23
  have hbs3 := H2.out.2.2.2.2.2.2.1.grown g23 (by simp)
  have hsz8 : b8 < W3.heap.size := World.block_lt_of_cell? W3 _ k8.1.1
  have hn8 : bb < b8 ∧ br < b8 ∧ bb < br := by have h1 := H1.out.2.2.2.2.2.2.2.1; have h2 := H1.out.2.2.2.2.2.2.2.2; have h3 := H2.out.2.2.2.2.2.1.lt; omega
  rw [← hb8] at hpi3
  have H3 := Lib.hid (And.intro (And.intro hpi3 (And.intro g23 hb8)) (And.intro hb3 (And.intro hx3 (And.intro hbs3 (And.intro hvn (And.intro hMle (And.intro hn8 (And.intro hlul hll))))))))
  obtain ⟨⟨k80, k81⟩, k8f0, k8f1⟩ := k8
  rw [← hb8]
  clear gu gv hA8 hbd hlul hlvl hchk hpi3 b3 g23 hx8 hb8 hb3 hx3 hbs3 hll
  go_upto_region 10 with fail
  have gs := grownBy_trans (grownBy_setCell W3 ⟨b8, 0, none⟩ (.slice xa V xc)) (grownBy_setCell (W3.setCell ⟨b8, 0, none⟩ (.slice xa V xc)) ⟨b8, 1, none⟩ (.slice ya M yc))
  have hp4 : Own2 ((W3.setCell ⟨b8, 0, none⟩ (.slice xa V xc)).setCell ⟨b8, 1, none⟩ (.slice ya M yc)) (b8 + 1) (.slice xa V xc) (.slice ya M yc) (expL lu l) lv := H3.out.1.1.grown gs (fun k e => by have := Option.some.inj e; dsimp only at this; omega)
  have g4 : W2.grownBy ((W3.setCell ⟨b8, 0, none⟩ (.slice xa V xc)).setCell ⟨b8, 1, none⟩ (.slice ya M yc)) none := grownBy_fresh (grownBy_trans (grownBy_widen H3.out.1.2.1) gs) (by rw [H3.out.1.2.2]; exact Nat.le_refl _)
  have c40 : ((W3.setCell ⟨b8, 0, none⟩ (.slice xa V xc)).setCell ⟨b8, 1, none⟩ (.slice ya M yc)).cell? ⟨b8, 0, none⟩ = some (.slice xa V xc) := by
   rw [World.cell?_setCell_other _ _ _ _ (by intro e; simp at e)]; exact World.cell?_setCell_same _ _ _ k80
  have c41 : ((W3.setCell ⟨b8, 0, none⟩ (.slice xa V xc)).setCell ⟨b8, 1, none⟩ (.slice ya M yc)).cell? ⟨b8, 1, none⟩ = some (.slice ya M yc) :=
   World.cell?_setCell_same _ _ _ (by rw [World.cell?_setCell_other _ _ _ _ (by intro e; simp at e)]; exact k81)
  refine wp_gen (fun Z => Own2 Z (b8 + 1) (.slice xa V xc) (.slice ya M yc) (expL lu l) lv ∧ W2.grownBy Z none ∧ Z.cell? ⟨b8, 0, none⟩ = some (.slice xa V xc) ∧ Z.cell? ⟨b8, 1, none⟩ = some (.slice ya M yc)) ⟨hp4, g4, c40, c41⟩ ?_
  intro W4 hW4
  have H4 := Lib.hid hW4
  clear hW4 gs hp4 g4 c40 c41 k80 k81 k8f0 k8f1
  go_upto_region 11 with fail
  have g45 := grownBy_alloc W4 (.cells #[.int .i64 0] 3)
  have hfz5 : (W4.alloc (.cells #[.int .i64 0] 3)).frozen? ⟨W4.heap.size, 0, none⟩ = false := by
   have hb := heap_alloc_new W4 (.cells #[.int .i64 0] 3)
   simp only [World.frozen?, hb]
   first | rfl | simp
  refine wp_gen (fun Z => W4.grownBy Z none ∧ Z.cell? ⟨W4.heap.size, 0, none⟩ = some (.int .i64 0) ∧ Z.frozen? ⟨W4.heap.size, 0, none⟩ = false ∧ Z.heap.size = W4.heap.size + 1) ⟨g45, cell_alloc1 _ _ _, hfz5, by simp⟩ ?_
  intro W5 hW5
  obtain ⟨b9, hb9⟩ : ∃ b9, b9 = W4.heap.size := ⟨_, rfl⟩
  rw [← hb9] at hW5 ⊢
  have HB9 := Lib.hid (And.intro hb9 hW5.1)
  have g25 : W2.grownBy W5 none := grownBy_trans H4.out.2.1 hW5.1
  have hx5 := H2.out.2.2.2.2.2.1.grown g25
  obtain ⟨s0, s1, s2, s3⟩ := H2.out.2.2.2.2.2.2.1.grown g25 (by simp)
  have hp5 := H4.out.1.grown hW5.1 (by simp)
  have k80 := hW5.1.cell H4.out.2.2.1 (by simp)
  have k81 := hW5.1.cell H4.out.2.2.2 (by simp)
  have hb5 : Below W.heap.size W W5 := H2.out.2.2.2.2.1.grown g25 H2.out.2.2.2.2.1.size (by simp)
  have hlt9 : b8 < b9 := by rw [hb9]; exact World.block_lt_of_cell? W4 _ H4.out.2.2.1
  have H5 := Lib.hid (And.intro hp5 (And.intro hb5 (And.intro hx5 (And.intro hlt9 (And.intro hW5.2 g25)))))
  clear g45 hfz5 hb9 hx5 hp5 hb5 hlt9 g25 hW5
  go_wp2_with fail
  obtain ⟨⟨us5, gu5⟩, ⟨vs5, gv5⟩⟩ := H5.out.1.pts
  have hbd := sol_bnd H1.out.2.1 H2.out.2.1 H0.out.2.1
  have hfin := final_any s (.slice ca s.cons.length cc) (.slice xa V xc) (.slice ya M yc) us5 vs5 (expL lu l) lv W5 (H0.out.1.below H5.out.2.1) H0.out.2.1 H1.out.2.1 gu5 gv5 (by rw [expL_len]; exact H1.out.2.2.1.1) H2.out.1.2.1 (fun i hi => (hbd.1 i hi).1) (fun i hi => (hbd.1 i hi).2)
  unfold SysV at hfin
  refine Calls.mono hfin ?_
  rintro e W6 ⟨fa, fc, fus, D, rfl, hN6, hmem, hDl, b6⟩
  obtain ⟨n, hn⟩ : ∃ n, n = s.vars.toNat + s.sites.toNat * s.fields.toNat := ⟨_, rfl⟩
  rw [← hn] at hN6 ⊢
  have hnS : n = s.S.N := hn
  have g6 := grownBy_below b6
  have hvn := H3.out.2.2.2.2.1
  have hn100 : n ≤ 100 := by
   have h1 := H3.out.2.2.2.2.2.1
   have h2 := H2.out.2.2.2.2.2.2.2.2
   have h3 : s.S.sites * s.S.fields = s.sites.toNat * s.fields.toNat := rfl
   omega
  have hlt6 : ∀ v w, w ∈ Go.Kah.row D v → v < n ∧ w < n := fun v w hw => by
   have := (hmem (v, w)).1 (Go.Kah.mem_row.1 hw)
   rw [hnS]; exact eF_lt H1.out.2.1 H0.out.2.1 H2.out.2.1 this
  have hcomp := components_any n bb b9 b9 s.vars fa fc fus (nextL D n) (fun v => Go.Kah.row D v) W6 (by omega) H1.out.2.1.vars (by omega) (g6.cell s0 (by simp)) (g6.cell H5.out.2.2.2.2.1.1 (by simp)) (by rw [World.frozen?_of_block (a := ⟨b9, 0, none⟩) (g6.block b9 (by have := H5.out.2.2.2.2.1.2.2; omega) (by simp))]; exact H5.out.2.2.2.2.1.2.1) (Nat.le_refl _) (by have := H3.out.2.2.2.2.2.2.1; have := H5.out.2.2.2.1; omega)
   (ownN_mono hN6 (by have := H5.out.2.2.2.2.1.2.2; omega)) (nextL_len _ _) (fun q hq e => by have := (hN6.foot kIIg q hq).1; have := H5.out.2.2.2.2.1.2.2; omega) (fun v hv => nextL_nth hv) hlt6 (fun v => by
    have h1 : (Go.Kah.row D v).length ≤ D.length := by unfold Go.Kah.row; rw [List.length_map]; exact List.length_filter_le _ _
    omega)
  have HCO := Lib.hid (And.intro hcomp (And.intro hmem (And.intro hnS (And.intro b6 hn))))
  clear hcomp hmem hnS hn hN6 hDl hlt6 hfin gu5 gv5 hbd b6
  go_wp2_with fail
  refine Calls.mono HCO.out.1 ?_
  rintro e W7 ⟨rfl, hd, hdl, hdh, c9, f9, g7⟩
  have g6 := grownBy_below HCO.out.2.2.2.1
  have hn9 := H3.out.2.2.2.2.2.2.1
  have hl9' := H5.out.2.2.2.1
  have ne8 : some b8 ≠ some b9 := fun e => by have := Option.some.inj e; omega
  have ner : some br ≠ some b9 := fun e => by have := Option.some.inj e; omega
  have q80 := g7.cell (g6.cell k80 (by simp)) ne8
  have q81 := g7.cell (g6.cell k81 (by simp)) ne8
  have hx5 := H5.out.2.2.1
  have r0 := g7.cell (g6.cell hx5.c0 (by simp)) ner
  have r1 := g7.cell (g6.cell hx5.c1 (by simp)) ner
  have lr6 : br < W6.heap.size := World.block_lt_of_cell? W6 _ (g6.cell hx5.c0 (by simp))
  have hfr : ∀ i, W7.frozen? ⟨br, i, none⟩ = false := fun i => by
   rw [World.frozen?_of_block (a := ⟨br, i, none⟩) (g7.block br lr6 ner), World.frozen?_of_block (a := ⟨br, i, none⟩) (g6.block br hx5.lt (by simp))]; exact hx5.frz i
  have f0 := hfr 0
  have f1 := hfr 1
  have g57 : W5.grownBy W7 (some b9) := grownBy_trans (grownBy_widen g6) g7
  have hp7 : Own2 W7 (b8 + 1) (.slice xa V xc) (.slice ya M yc) (expL lu l) lv := by
   obtain ⟨⟨us, h1⟩, vs, h2⟩ := H4.out.1
   have g47 : W4.grownBy W7 (some b9) := grownBy_trans (grownBy_widen HB9.out.2) g57
   exact ⟨⟨us, h1.grown kInt g47 fun k e hf => by obtain rfl := Option.some.inj e; have := (h1.foot kInt _ hf).2; have := HB9.out.1; omega⟩, vs, h2.grown kInt g47 fun k e hf => by obtain rfl := Option.some.inj e; have := (h2.foot kInt _ hf).2; have := HB9.out.1; omega⟩
  have hb7 : Below W.heap.size W W7 := H5.out.2.1.grown g57 H5.out.2.1.size fun k e => by have := Option.some.inj e; have := H1.out.2.2.2.2.2.2.2.1; omega
  have HF := Lib.hid (And.intro hp7 (And.intro hb7 (And.intro hdl hdh)))
  obtain ⟨mg, hmg⟩ : ∃ mg, mg = offH s.vars.toNat hd := ⟨_, rfl⟩
  rw [← hmg] at c9
  have HMG := Lib.hid hmg
  have nbr : br ≠ b8 := by omega
  have nbr9 : br ≠ b9 := by omega
  clear g6 hn9 hx5 lr6 hfr g57 hp7 hb7 hdl hdh hmg g7 s0 s1 s2 s3 k80 k81 f9 ne8 ner hl9'
  go_upto_region 12 with fail
  refine wp_region_mix [0, 1] [2, 3, 4] (fun w' => (w'.cell? ⟨b8, 0, none⟩ = some (.slice xa V xc) ∧ w'.cell? ⟨b8, 1, none⟩ = some (.slice ya M yc)) ∧ w'.cell? ⟨b9, 0, none⟩ = some (.int .i64 (mg : Int))) (by kernel_rfl) (by kernel_rfl) (by kernel_rfl) ⟨⟨q80, q81⟩, c9⟩ ?_
  repeat (
   refine wpHeads_cons (v := ?_) rfl (Or.inl ⟨by rfl, ?_⟩) ?_
   rotate_left
   ·(intro W hW; obtain ⟨⟨q1, q2⟩, q3⟩ := hW; go_simp; try with_reducible rfl)
   simp only [Act.put, List.setIfInBounds_toArray, List.getElem_toArray, List.getElem_cons_zero, List.getElem_cons_succ, List.set_cons_succ, List.set_cons_zero])
  refine wpHeads_nil ?_
  have d80 : W7.drew.cell? ⟨b8, 0, none⟩ = some (.slice xa V xc) := q80
  have d81 : W7.drew.cell? ⟨b8, 1, none⟩ = some (.slice ya M yc) := q81
  have d9 : W7.drew.cell? ⟨b9, 0, none⟩ = some (.int .i64 (mg : Int)) := c9
  have dr0 : W7.drew.cell? ⟨br, 0, none⟩ = some (.slice none 0 0) := r0
  have dr1 : W7.drew.cell? ⟨br, 1, none⟩ = some (.slice none 0 0) := r1
  have df0 : W7.drew.frozen? ⟨br, 0, none⟩ = false := f0
  have df1 : W7.drew.frozen? ⟨br, 1, none⟩ = false := f1
  have gs := grownBy_trans (grownBy_setCell W7.drew ⟨br, 0, none⟩ (.slice xa V xc)) (grownBy_setCell (W7.drew.setCell ⟨br, 0, none⟩ (.slice xa V xc)) ⟨br, 1, none⟩ (.slice ya M yc))
  have hS8 : (((W7.drew.setCell ⟨br, 0, none⟩ (.slice xa V xc)).setCell ⟨br, 1, none⟩ (.slice ya M yc)).cell? ⟨b8, 0, none⟩ = some (.slice xa V xc) ∧ ((W7.drew.setCell ⟨br, 0, none⟩ (.slice xa V xc)).setCell ⟨br, 1, none⟩ (.slice ya M yc)).cell? ⟨b8, 1, none⟩ = some (.slice ya M yc)) ∧ ((W7.drew.setCell ⟨br, 0, none⟩ (.slice xa V xc)).setCell ⟨br, 1, none⟩ (.slice ya M yc)).cell? ⟨b9, 0, none⟩ = some (.int .i64 (mg : Int)) :=
   ⟨⟨gs.cell d80 (fun e => nbr (Option.some.inj e).symm), gs.cell d81 (fun e => nbr (Option.some.inj e).symm)⟩, gs.cell d9 (fun e => nbr9 (Option.some.inj e).symm)⟩
  have hp9 := (HF.out.1.grown (grownBy_drew0 W7) (by simp)).grown gs (fun k e => by have := Option.some.inj e; have := H3.out.2.2.2.2.2.2.1; dsimp only at *; omega)
  have hb9 := ((HF.out.2.1.trans ((Below.refl W7.heap.size W7).drew.mono HF.out.2.1.size)).setCell (show W.heap.size ≤ (⟨br, 0, none⟩ : Addr).block by have := H1.out.2.2.2.2.2.2.2.2; show _ ≤ br; omega) (.slice xa V xc)).setCell (show W.heap.size ≤ (⟨br, 1, none⟩ : Addr).block by have := H1.out.2.2.2.2.2.2.2.2; show _ ≤ br; omega) (.slice ya M yc)
  have HZ := Lib.hid (And.intro hS8 (And.intro hp9 hb9))
  clear gs hS8 hp9 hb9 q80 q81 c9 r0 r1 f0 f1
  generalize W7.drew = W8 at *
  refine wpTails_cons rfl ?_
  go_wp2_with fail
  refine tail_mk HZ.out.1 ?_
  refine wpTails_cons rfl ?_
  go_wp2_with fail
  refine tail_mk HZ.out.1 ?_
  refine wpTails_one rfl ?_
  go_wp2_with fail
  refine thenQ_mk ?_
  go_wp2_with fail
  (try simp only [Exit.inBlock, Exit.then])
  refine bodyPost_ret (v := .tuple #[.agg #[.slice xa V xc, .slice ya M yc], .int .i64 (mg : Int), .int .i64 0]) (by rw [results_cell3 rfl]; go_simp; try rfl) rfl ?_
  refine .inr ⟨H1.out.1, xa, xc, ya, yc, expL lu l, lv, hd, ?_, ?_, H2.out.2.1, ⟨HF.out.2.2.1.trans HCO.out.2.2.1, fun v hv => ?_⟩, HZ.out.2.2⟩
  ·rw [HMG.out, H2.out.2.2.2.2.2.2.2.1, H2.out.2.2.2.2.2.2.2.2]; rfl
  ·rw [← H2.out.2.2.2.2.2.2.2.1, ← H2.out.2.2.2.2.2.2.2.2]; exact HZ.out.2.1.pts
  ·obtain ⟨m, h1, h2⟩ := HF.out.2.2.2 v (by rw [HCO.out.2.2.1]; exact hv)
   exact ⟨m, h1, Go.Clp.IsHd.iff (h := fun a b => Go.Kah.mem_row.trans (HCO.out.2.1 (a, b))) h2⟩
end Go.Proofs.YtgblfjccccdidaaGreat
end
section
namespace Go.And
open Go.Dfl (nth nth_mem mem_nth nth_eq)
def winB (a b : List (List Int)) : Bool := decide (a.length = b.length) && (List.range a.length).all fun i => (nth a i).all fun x => (nth b i).contains x
theorem winB_iff (a b : List (List Int)) : winB a b = true ↔ a.length = b.length ∧ ∀ i, i < a.length → ∀ x ∈ nth a i, x ∈ nth b i := by
 unfold winB
 simp [List.all_eq_true]
def InR (ll : List (List Int)) : Prop := ∀ i, i < ll.length → ∀ x ∈ nth ll i, -9223372036854775808 ≤ x ∧ x ≤ 9223372036854775807
end Go.And
namespace Go.Proofs.YtgblfjccccdidaaGreat
open Go.RowKit Go.Dfl Go.And Go.Maps
end Go.Proofs.YtgblfjccccdidaaGreat
end
section
namespace Go.And
open Go.Dfl (nth nth_mem mem_nth nth_eq nth_append)
structure ClosedP (s : Sy) (a1 a2 : List (List Int)) : Prop where
 chk : chkCode s = 0
 l1 : a1.length = s.S.vars
 l2 : a2.length = s.S.sites * s.S.fields
 ok : ∀ i, i < (a1 ++ a2).length → subB (nth (a1 ++ a2) i) s.sites = true ∧ ascB (nth (a1 ++ a2) i) = true
 shut : Shut s.S (fun i x => (x : Int) ∈ nth (a1 ++ a2) i)
end Go.And
namespace Go.Proofs.YtgblfjccccdidaaGreat
open Go.RowKit Go.Dfl Go.And
end Go.Proofs.YtgblfjccccdidaaGreat
end
section
namespace Go.Proofs.YtgblfjccccdidaaGreat
open Go.RowKit Go.Dfl Go.And
theorem sorted_ext : ∀ {L M : List Nat}, L.Pairwise (· < ·) → M.Pairwise (· < ·) → (∀ x, x ∈ L ↔ x ∈ M) → L = M
 | [], [], _, _, _ => rfl
 | [], y :: M, _, _, h => by have := (h y).2 (by simp); cases this
 | x :: L, [], _, _, h => by have := (h x).1 (by simp); cases this
 | x :: L, y :: M, hL, hM, h => by
   rw [List.pairwise_cons] at hL hM
   have hxy : x = y := by
    have h1 := (h x).1 (by simp)
    have h2 := (h y).2 (by simp)
    rcases List.mem_cons.1 h1 with e | e
    ·exact e
    ·rcases List.mem_cons.1 h2 with e2 | e2
     ·exact e2.symm
     ·have := hM.1 x e; have := hL.1 y e2; omega
   subst hxy
   rw [sorted_ext hL.2 hM.2 fun z => ?_]
   have := h z
   constructor
   ·intro hz
    have hlt := hL.1 z hz
    rcases List.mem_cons.1 (this.1 (by simp [hz])) with e | e
    ·omega
    ·exact e
   ·intro hz
    have hlt := hM.1 z hz
    rcases List.mem_cons.1 (this.2 (by simp [hz])) with e | e
    ·omega
    ·exact e
theorem IsSol.unique {S : Syst} {i : Nat} {l m : List Int} (h : IsSol S i l) (k : IsSol S i m) : l = m := by
 obtain ⟨L, rfl, h1, h2⟩ := h
 obtain ⟨M, rfl, k1, k2⟩ := k
 rw [sorted_ext h1 k1 fun x => by rw [h2, k2]]
theorem Sol.unique {S : Syst} {lu lv lu' lv' : List (List Int)} (h : Sol S lu lv) (k : Sol S lu' lv') : lu = lu' ∧ lv = lv' := by
 refine ⟨nth_ext (by rw [h.1, k.1]) fun i hi => (h.2.2.1 i (by rw [← h.1]; exact hi)).unique (k.2.2.1 i (by rw [← h.1]; exact hi)), nth_ext (by rw [h.2.1, k.2.1]) fun i hi => (h.2.2.2 i (by rw [← h.2.1]; exact hi)).unique (k.2.2.2 i (by rw [← h.2.1]; exact hi))⟩
theorem IsSol.mem {S : Syst} {i : Nat} {l : List Int} (h : IsSol S i l) (x : Int) : x ∈ l ↔ 0 ≤ x ∧ Pts S i x.toNat := by
 obtain ⟨L, rfl, -, h2⟩ := h
 constructor
 ·intro hx
  obtain ⟨y, hy, rfl⟩ := List.mem_map.1 hx
  exact ⟨by omega, by simpa using (h2 y).1 hy⟩
 ·rintro ⟨h0, hx⟩
  exact List.mem_map.2 ⟨x.toNat, (h2 _).2 hx, by omega⟩
theorem PtsIn.below {W W' : World} {u v : Value} {a b : List (List Int)} (h : PtsIn W u v a b) (hb : Below W.heap.size W W') : PtsIn W' u v a b := by
 obtain ⟨⟨us, h1⟩, vs, h2⟩ := h
 exact ⟨⟨us, h1.below hb⟩, vs, h2.below hb⟩
def Tell (P : Prop) (W : World) (e : Ending) (W' : World) : Prop := ∃ b, e = .returned (.bool b) ∧ (b = true ↔ P) ∧ Below W.heap.size W W'
def ShortP (s : Sy) : Prop := s.cons.length ≤ 100 ∧ ∀ i, i < s.cons.length → (nth s.cons i).s.length ≤ 40
set_option maxHeartbeats 1600000 in
theorem Short_any (s : Sy) (cv : Value) (W : World) (hc : ConsIn W cv s.cons) :
  Calls Tryz.prog 8 #[SysV s cv] W (Tell (ShortP s) W) := by
 obtain ⟨ca, cc, rfl, hlen, hci, hcc⟩ := hc.out
 have HC := Lib.hid hcc
 clear hcc hc
 unfold SysV
 by_cases h1 : 100 < s.cons.length
 ·go_enter Tryz.func8, Tryz.ntmps8
  go_wp2_with fail
  go_ret
  exact ⟨false, rfl, ⟨fun h => absurd h Bool.false_ne_true, fun h => by have := h.1; omega⟩, (Below.refl _ _).alloc (Nat.le_refl _) _⟩
 ·go_enter Tryz.func8, Tryz.ntmps8
  go_wp2_with fail
  refine wp_gen (fun Z => BoxS Z W.heap.size s (.slice ca s.cons.length cc) ∧ Below W.heap.size W Z) ⟨BoxS.new _ _ _ _, (Below.refl _ _).alloc (Nat.le_refl _) _⟩ ?_
  rintro W1 ⟨⟨d0, d1, d2, d3⟩, hb1⟩
  have H1 := Lib.hid hb1
  clear hb1
  go_loop [3] (fun x => ∃ k : Nat, k ≤ s.cons.length ∧ x = .int .i64 k ∧ Hid (∀ i, i < k → (nth s.cons i).s.length ≤ 40)) (fun x => s.cons.length - (intOf x).toNat)
  case atStart => exact ⟨0, by omega, rfl, fun i hi => by omega⟩
  case round =>
   obtain ⟨k, hk, rfl, hh⟩ := hrel
   by_cases hlt : k < s.cons.length
   ·obtain ⟨sa, sn, sc, -, -, -, -, c4, hset, hbl⟩ := HC.out k hlt
    rw [← H1.out.cell (p := ⟨blk ca, ofs ca + k * 5 + 4, none⟩) hbl] at c4
    obtain ⟨sa2, sc2, he, -⟩ := hset.out1 sInt
    simp only [Value.slice.injEq] at he
    obtain ⟨rfl, rfl, rfl⟩ := he
    clear hset
    by_cases h2 : 40 < (nth s.cons k).s.length
    ·go_wp2_with fail
     go_ret
     exact ⟨false, rfl, ⟨fun h => absurd h Bool.false_ne_true, fun h => by have := h.2 k hlt; omega⟩, H1.out⟩
    ·go_wp2_with fail
     go_round
     case rel => exact ⟨k + 1, by omega, by go_num, fun i hi => by
      by_cases e : i = k
      ·subst e; omega
      ·exact hh.out i (by omega)⟩
     case measure => simp [intOf]; omega
   ·go_wp2_with fail
    go_ret
    exact ⟨true, rfl, ⟨fun _ => ⟨by omega, fun i hi => hh.out i (by omega)⟩, fun _ => rfl⟩, H1.out⟩
end Go.Proofs.YtgblfjccccdidaaGreat
end
section
namespace Go.Proofs.YtgblfjccccdidaaGreat
open Go.RowKit Go.Dfl Go.And
theorem consIn_lit {W : World} {b : Nat} (rs : List RC) (l : List R) (hlen : rs.length = l.length) (hcap : l.length ≤ 1000) (hb : ∀ j y, (rs.flatMap RC.vals)[j]? = some y → W.cell? ⟨b, j, none⟩ = some y) (h : ∀ i, i < l.length → (nth rs i).k = (nth l i).k ∧ (nth rs i).a = (nth l i).a ∧ (nth rs i).b = (nth l i).b ∧ (nth rs i).f = (nth l i).f ∧ (nth rs i).set = .slice none 0 0 ∧ (nth l i).s = []) :
  ConsIn W (.slice (some ⟨b, 0, none⟩) l.length l.length) l := by
 refine ⟨rs, hlen, ⟨some ⟨b, 0, none⟩, l.length, rfl, Nat.le_refl _, by unfold maxLen; omega, fun i hi => ⟨rfl, ?_, fun j hj => ?_⟩⟩, fun i hi => ?_⟩
 ·have h1 := flat_get (E := elC) rs i 0 (by omega) (by show 0 < 5; omega)
  have h2 : ((RC.vals (nth rs i))[0]?) = some (.int .i64 (nth rs i).k) := rfl
  exact World.block_lt_of_cell? W ⟨b, i * 5 + 0, none⟩ (hb _ _ (h1.trans h2))
 ·have h1 := flat_get (E := elC) rs i j (by omega) hj
  have h2 : ∃ y, (RC.vals (nth rs i))[j]? = some y := by
   have : j < (RC.vals (nth rs i)).length := by simp [RC.vals]; omega
   exact ⟨_, List.getElem?_eq_getElem this⟩
  obtain ⟨y, hy⟩ := h2
  have h3 : W.cell? ⟨b, i * 5 + j, none⟩ = some y := hb _ _ (h1.trans hy)
  show W.cell? ⟨b, 0 + i * 5 + j, none⟩ = _
  rw [show 0 + i * 5 + j = i * 5 + j by omega, h3]
  show some y = some (((RC.vals (nth rs i))[j]?).getD undef)
  rw [hy]; rfl
 ·obtain ⟨h1, h2, h3, h4, h5, h6⟩ := h i hi
  exact ⟨h1, h2, h3, h4, by rw [h5, h6]; exact Lst.nil _ _⟩
theorem grid_lit {W : World} {b : Nat} (vs : List Value) (ll : List (List Int)) (hlen : vs.length = ll.length) (hcap : vs.length ≤ 1000) (hb : ∀ j y, vs[j]? = some y → W.cell? ⟨b, j, none⟩ = some y) (h : ∀ i, i < ll.length → Ints W (nth vs i) (nth ll i)) :
  Grid (Value.int .i64) W (.slice (some ⟨b, 0, none⟩) vs.length vs.length) vs ll := by
 refine ⟨⟨some ⟨b, 0, none⟩, vs.length, rfl, Nat.le_refl _, by unfold maxLen; omega, fun i hi => ?_⟩, hlen, h⟩
 have h1 := hb i (nth vs i) (by rw [nth_eq _ _ hi]; exact List.getElem?_eq_getElem hi)
 refine ⟨rfl, World.block_lt_of_cell? W ⟨b, i, none⟩ h1, fun j hj => ?_⟩
 obtain rfl : j = 0 := by omega
 show W.cell? ⟨b, 0 + i * 1 + 0, none⟩ = _
 rw [show 0 + i * 1 + 0 = i by omega]; exact h1
theorem ints_cell {W : World} {b : Nat} {x : Int} (h : W.cell? ⟨b, 0, none⟩ = some (.int .i64 x)) : Ints W (.slice (some ⟨b, 0, none⟩) 1 1) [x] := by
 refine ⟨some ⟨b, 0, none⟩, 1, rfl, by simp, by unfold maxLen; omega, fun i hi => ⟨rfl, World.block_lt_of_cell? W _ h, fun j hj => ?_⟩⟩
 simp at hi
 obtain rfl : j = 0 := by omega
 obtain rfl : i = 0 := by omega
 simpa [blk, ofs, nth] using h
end Go.Proofs.YtgblfjccccdidaaGreat
end
section
namespace Go.Clp
open Go.Dfl (nth nth_set nth_mem mem_nth nth_eq nth_ext nth_append nth_out take_snoc)
open Go.Tj (Rt Sc IsHd)
open Go.And (R Sy C Syst Pts Shut Holds pts_shut pts_bound Vld VldC Sm colC)
def w0 : Sy := ⟨3, 1, 0, [⟨2, 0, 2, 0, []⟩, ⟨2, 2, 0, 0, []⟩, ⟨2, 1, 2, 0, []⟩, ⟨1, 0, 1, 0, []⟩]⟩
def wN : Sy := ⟨-1, 0, 0, []⟩
theorem col_w0 : colC w0 = 0 := by decide
theorem col_wN : colC wN = 4 := by decide
theorem cop_w0 : copE w0.cons = [(0, 2), (2, 0), (1, 2)] := by decide
theorem lds_of {E : Nat → Nat → Prop} (h : ∀ a b, E a b ↔ (a = 0 ∧ b = 2) ∨ (a = 2 ∧ b = 0) ∨ (a = 1 ∧ b = 2)) : Lds E 3 [0, 1, 0] := by
 have e02 : E 0 2 := (h 0 2).2 (by simp)
 have e20 : E 2 0 := (h 2 0).2 (by simp)
 have cl : ∀ a b, (a = 0 ∨ a = 2) → E a b → (b = 0 ∨ b = 2) := fun a b ha hab => by
  rcases (h a b).1 hab with h1 | h1 | h1 <;> omega
 refine ⟨rfl, fun v hv => ?_⟩
 have hv3 : v = 0 ∨ v = 1 ∨ v = 2 := by omega
 rcases hv3 with rfl | rfl | rfl
 ·exact ⟨0, rfl, Sc.refl E 0, fun w _ => Nat.zero_le _⟩
 ·refine ⟨1, rfl, Sc.refl E 1, fun w hw => ?_⟩
  false_or_by_contra
  have h0 : w = 0 := by omega
  subst h0
  have := hw.2.closed (P := fun x => x = 0 ∨ x = 2) (fun a b ha hab => cl a b ha hab) (.inl rfl)
  omega
 ·exact ⟨0, rfl, ⟨.step (.refl 2) e20, .step (.refl 0) e02⟩, fun w _ => Nat.zero_le _⟩
theorem lds_w0 {l : List Int} (h : Lds (eI (copE w0.cons)) 3 l) : l = [0, 1, 0] := h.unique (lds_of fun a b => by
 unfold eI
 rw [cop_w0]
 simp; omega)
theorem cyc_w0 : cycL [0, 1, 0] 3 = [[0, 2]] := by decide
theorem red_w0 : redL [0, 1, 0] w0.cons = [⟨2, 1, 0, 0, []⟩, ⟨1, 0, 1, 0, []⟩] := rfl
end Go.Clp
namespace Go.Proofs.YtgblfjccccdidaaGreat
open Go.RowKit Go.Dfl Go.Gra Go.Clp Go.Tj
open Go.And (R Sy Vld Sm chkG chkCode colC colC_ok colC_sm chkG_ok chkCode_ok Syst Pts pts_bound)
theorem sm_w0 : Sm w0 := ⟨by decide, by decide, by decide, by decide⟩
theorem sol_w0 {lu lv : List (List Int)} (h : Sol w0.S lu lv) : lu = [[0], [0], [0]] ∧ lv = [] := by
 have h1 : Pts w0.S 1 0 := fun p hp => (hp ⟨1, 0, 1, 0, []⟩ (by simp [w0, Sy.S, R.C])).1 rfl
 have h2 : Pts w0.S 2 0 := fun p hp => (hp ⟨2, 1, 2, 0, []⟩ (by simp [w0, Sy.S, R.C])).2.1 rfl 0 (h1 p hp)
 have h0 : Pts w0.S 0 0 := fun p hp => (hp ⟨2, 2, 0, 0, []⟩ (by simp [w0, Sy.S, R.C])).2.1 rfl 0 (h2 p hp)
 have hv := chkCode_ok.1 (chkG_ok (colC_ok col_w0).1).1
 have hS : ∀ i, Pts w0.S i 0 → IsSol w0.S i [0] := fun i hi => ⟨[0], rfl, by simp, fun y => by
  constructor
  ·intro h; simp at h; subst h; exact hi
  ·intro h
   have := (pts_bound hv.ok h).2
   have e : w0.S.sites = 1 := rfl
   simp; omega⟩
 refine Sol.unique h ⟨rfl, rfl, fun i hi => ?_, fun i hi => ?_⟩
 ·have : i = 0 ∨ i = 1 ∨ i = 2 := by have : w0.S.vars = 3 := rfl; omega
  rcases this with rfl | rfl | rfl
  ·exact hS 0 h0
  ·exact hS 1 h1
  ·exact hS 2 h2
 ·have : w0.S.sites * w0.S.fields = 0 := rfl
  omega
theorem off_w0 {lu : List (List Int)} {hd : List Int} (h : FinHd w0 lu hd) : offH 3 hd = 1 := by
 have h2 : Lds (eF w0 lu) 3 hd := h
 have h3 := h2.unique (lds_of fun a b => by
  unfold eF edT edR
  constructor
  ·rintro ⟨i, hi, hm⟩
   have : i = 0 ∨ i = 1 ∨ i = 2 ∨ i = 3 := by have : w0.cons.length = 4 := rfl; omega
   rcases this with rfl | rfl | rfl | rfl <;> (simp [w0, nth] at hm; try omega)
  ·rintro (⟨rfl, rfl⟩ | ⟨rfl, rfl⟩ | ⟨rfl, rfl⟩)
   ·exact ⟨0, by decide, by simp [w0, nth]⟩
   ·exact ⟨1, by decide, by simp [w0, nth]⟩
   ·exact ⟨2, by decide, by simp [w0, nth]⟩)
 rw [h3]; decide
theorem calls_genC {P : Program} {f : FuncId} {args : Array Value} {w : World} {Q : Ending → World → Prop} (p : World → Prop) (hw : p w) (h : ∀ W, p W → Calls P f args W Q) : Calls P f args w Q := h w hw
theorem nilConsC (W : World) : ConsIn W (.slice none 0 0) [] := ⟨[], rfl, ⟨none, 0, rfl, by simp, by unfold maxLen; omega, fun i hi => by simp at hi⟩, fun i hi => by simp at hi⟩
theorem nilGridC (W : World) : Grid (Value.int .i64) W (.slice none 0 0) [] [] := ⟨Lst.nil _ _, rfl, fun i hi => by simp at hi⟩
def w0c : List RC := [⟨2, 0, 2, 0, none, 0, 0⟩, ⟨2, 2, 0, 0, none, 0, 0⟩, ⟨2, 1, 2, 0, none, 0, 0⟩, ⟨1, 0, 1, 0, none, 0, 0⟩]
structure AwC (W0 : World) (bs : Nat) (cv : Value) (Z : World) : Prop where
 c : ConsIn Z cv w0.cons
 b : BoxS Z bs w0 cv
 bel : Below W0.heap.size W0 Z
theorem AwC.below {W0 : World} {bs : Nat} {cv : Value} {Z Z' : World} (h : AwC W0 bs cv Z) (hb : Below Z.heap.size Z Z') : AwC W0 bs cv Z' := ⟨h.c.below hb, h.b.grown (grownBy_below hb) (by simp), h.bel.trans (hb.mono h.bel.size)⟩
set_option maxHeartbeats 12800000 in
set_option maxRecDepth 100000 in
theorem awake_any (W : World) : Calls Tryz.prog 9 #[] W fun e W' => e = .returned (.bool true) ∧ Below W.heap.size W W' := by
 go_enter Tryz.func9, Tryz.ntmps9
 go_wp2_with fail
 have hc0 := cells_new (W := W) (cs := w0c.flatMap RC.vals) (t := 48) rfl
 have hx0 : ConsIn (W.alloc (.cells (w0c.flatMap RC.vals).toArray 48)) (.slice (some ⟨W.heap.size, 0, none⟩) 4 4) w0.cons := consIn_lit w0c w0.cons rfl (by decide) hc0 (fun i hi => by
  have : i = 0 ∨ i = 1 ∨ i = 2 ∨ i = 3 := by have : w0.cons.length = 4 := rfl; omega
  rcases this with rfl | rfl | rfl | rfl <;> exact ⟨rfl, rfl, rfl, rfl, rfl, rfl⟩)
 refine calls_genC (fun Z => ConsIn Z (.slice (some ⟨W.heap.size, 0, none⟩) 4 4) w0.cons ∧ BoxS Z (W.heap.size + 1) w0 (.slice (some ⟨W.heap.size, 0, none⟩) 4 4) ∧ Below W.heap.size W Z) ⟨hx0.below ((Below.refl _ _).alloc (Nat.le_refl _) _), ?_, ((Below.refl _ _).alloc (Nat.le_refl _) _).alloc (by simp) _⟩ ?_
 ·have := BoxS.new (W.alloc (.cells (w0c.flatMap RC.vals).toArray 48)) w0 (.slice (some ⟨W.heap.size, 0, none⟩) 4 4) 24
  rw [show (W.alloc (.cells (w0c.flatMap RC.vals).toArray 48)).heap.size = W.heap.size + 1 by simp only [World.size_alloc]] at this
  exact this
 clear hc0 hx0
 rintro Z1 ⟨hx1, hb1, hbe1⟩
 obtain ⟨bs, hbs⟩ : ∃ bs, bs = W.heap.size + 1 := ⟨_, rfl⟩
 obtain ⟨cv, hcv⟩ : ∃ cv, cv = Value.slice (some ⟨W.heap.size, 0, none⟩) 4 4 := ⟨_, rfl⟩
 rw [← hbs, ← hcv] at hb1
 rw [← hcv] at hx1
 rw [← hbs, ← hcv]
 have H1 := Lib.hid (show AwC W bs cv Z1 from ⟨hx1, hb1, hbe1⟩)
 have oc : cv.oneCell' = true := by rw [hcv]; rfl
 clear hx1 hb1 hbe1 hbs hcv
 refine (gCycles_any w0 cv Z1 H1.out.c (by decide)).mono ?_
 intro e W2 hpost
 rcases hpost with ⟨hbad, -⟩ | ⟨-, l, v, vs, rfl, hl, hg, q2⟩
 ·exact absurd col_w0 hbad
 have e3 : w0.vars.toNat = 3 := rfl
 rw [e3] at hl hg
 obtain rfl := lds_w0 hl
 rw [cyc_w0] at hg
 obtain ⟨va, vc, rfl, -, vi, vcell⟩ := grid_rdC hg
 have e1 : ([[0, 2]] : List (List Int)).length = 1 := rfl
 rw [e1] at vi vcell ⊢
 have vi0 := vi .i64 0 (by omega) (by omega)
 simp only [Int.toNat_zero, Nat.add_zero] at vi0
 have cv0 := (vcell 0 (by omega)).1
 rw [Nat.add_zero] at cv0
 have hr0 : Ints W2 (nth vs 0) [0, 2] := hg.2.2 0 (by decide)
 obtain ⟨ra, rc, hrv, -, ri, rcell, -⟩ := hr0.out1 sIntC
 have e2 : ([0, 2] : List Int).length = 2 := rfl
 rw [e2] at hrv ri rcell
 rw [hrv] at cv0
 have ri0 := ri .i64 0 (by omega) (by omega)
 have ri1 := ri .i64 1 (by omega) (by omega)
 simp only [Int.toNat_zero, Int.toNat_one, Nat.add_zero] at ri0 ri1
 have cr0 : W2.cell? ⟨blk ra, ofs ra, none⟩ = some (.int .i64 0) := rcell 0 (by omega)
 have cr1 : W2.cell? ⟨blk ra, ofs ra + 1, none⟩ = some (.int .i64 2) := rcell 1 (by omega)
 have HCY := Lib.hid (And.intro cv0 (And.intro cr0 cr1))
 have hA2 := H1.out.below q2
 obtain ⟨d0, d1, d2, d3⟩ := hA2.b
 have H2 := Lib.hid hA2
 have ls2 := World.block_lt_of_cell? _ _ d0
 have ns2 := Nat.ne_of_lt ls2
 dsimp only at ls2 ns2
 clear hA2
 clear hl hg e3 e1 e2 vi vcell hr0 hrv ri rcell cv0 cr0 cr1 q2 H1
 go_wp2_with fail
 clear d0 d1 d2 d3
 refine (gReduce_any w0 cv W2 H2.out.c (by decide)).mono ?_
 intro e W3 hpost
 rcases hpost with ⟨hbad, -⟩ | ⟨-, l, ta, tc, rv, rfl, hl, hct, hir, q3⟩
 ·exact absurd col_w0 hbad
 have e3 : w0.vars.toNat = 3 := rfl
 rw [e3] at hl
 obtain rfl := lds_w0 hl
 have eSys : SysV (red w0 [0, 1, 0]) (.slice ta (redL [0, 1, 0] w0.cons).length tc) = .agg #[.int .i64 3, .int .i64 1, .int .i64 0, .slice ta 2 tc] := rfl
 rw [eSys]
 rw [show (redL [0, 1, 0] w0.cons).length = 2 from rfl, red_w0] at hct
 obtain ⟨ta2, tc2, ht2, -, ti, tcell⟩ := hct.out
 have e4 : ([⟨2, 1, 0, 0, []⟩, ⟨1, 0, 1, 0, []⟩] : List R).length = 2 := rfl
 rw [e4] at ht2 ti tcell
 simp only [Value.slice.injEq] at ht2
 obtain ⟨rfl, -, rfl⟩ := ht2
 obtain ⟨-, -, -, -, k1, k2, -, -, -, -⟩ := tcell 0 (by omega)
 obtain ⟨-, -, -, k5, -, -, -, -, -, -⟩ := tcell 1 (by omega)
 have ti0 := ti 0 (by omega) (by omega)
 have ti1 := ti 1 (by omega) (by omega)
 simp only [Int.toNat_zero, Int.toNat_one, Nat.zero_mul, Nat.one_mul, Nat.add_zero] at ti0 ti1 k1 k2 k5
 have k1 : W3.cell? ⟨blk ta, ofs ta + 1, none⟩ = some (.int .i64 1) := k1
 have k2 : W3.cell? ⟨blk ta, ofs ta + 2, none⟩ = some (.int .i64 0) := k2
 have k5 : W3.cell? ⟨blk ta, ofs ta + 5, none⟩ = some (.int .i64 1) := k5
 obtain ⟨pa, pc, rfl, -, pi, pcell, -⟩ := hir.out1 sIntC
 have e5 : ([0, 1, 0] : List Int).length = 3 := rfl
 rw [e5] at pi pcell ⊢
 have pi1 := pi .i64 1 (by omega) (by omega)
 have pi2 := pi .i64 2 (by omega) (by omega)
 simp only [Int.toNat_one, show ((2 : Int)).toNat = 2 from rfl] at pi1 pi2
 have cp1 : W3.cell? ⟨blk pa, ofs pa + 1, none⟩ = some (.int .i64 1) := pcell 1 (by omega)
 have cp2 : W3.cell? ⟨blk pa, ofs pa + 2, none⟩ = some (.int .i64 0) := pcell 2 (by omega)
 have HRD := Lib.hid (And.intro k1 (And.intro k2 (And.intro k5 (And.intro cp1 (And.intro cp2 (grownBy_below q3))))))
 have hA3 := H2.out.below q3
 obtain ⟨d0, d1, d2, d3⟩ := hA3.b
 have H3 := Lib.hid hA3
 have ls3 := World.block_lt_of_cell? _ _ d0
 have ns3 := Nat.ne_of_lt ls3
 dsimp only at ls3 ns3
 clear hA3
 clear hl e3 eSys hct ti tcell e4 k1 k2 k5 hir pi pcell e5 cp1 cp2 q3 H2
 go_wp2_with fail
 clear d0 d1 d2 d3 ls3 ns3 ls2 ns2
 have hbx3 := cells_new (W := W3) (cs := [.int .i64 3, .int .i64 1, .int .i64 0, .slice ta 2 tc]) (t := 24) rfl
 have HB3 := Lib.hid (And.intro (hbx3 0 _ rfl) (hbx3 3 _ rfl))
 have hA3 := H3.out.below ((Below.refl W3.heap.size W3).alloc (Nat.le_refl _) (.cells #[.int .i64 3, .int .i64 1, .int .i64 0, .slice ta 2 tc] 24))
 clear hbx3
 refine (gSolve_any w0 cv _ hA3.c sm_w0).mono ?_
 intro e W4 hpost
 rcases hpost with ⟨hbad, -⟩ | ⟨-, ua, uc, xa, xc, lu, lv, hd, rfl, ⟨⟨us, gu⟩, -⟩, hsol, hfin, q4⟩
 ·exact absurd col_w0 hbad
 rw [show w0.S.vars = 3 from rfl, show w0.S.sites * w0.S.fields = 0 from rfl, off_w0 hfin]
 obtain ⟨rfl, rfl⟩ := sol_w0 hsol
 obtain ⟨ua2, uc2, hu2, -, ui, ucell⟩ := grid_rdC gu
 have e4 : ([[0], [0], [0]] : List (List Int)).length = 3 := rfl
 rw [e4] at hu2 ui ucell
 have e5 : w0.S.vars = 3 := rfl
 rw [e5] at hu2 gu
 simp only [Value.slice.injEq] at hu2
 obtain ⟨rfl, -, rfl⟩ := hu2
 have ui0 := ui .i64 0 (by omega) (by omega)
 simp only [Int.toNat_zero, Nat.add_zero] at ui0
 have cu0 := (ucell 0 (by omega)).1
 rw [Nat.add_zero] at cu0
 obtain ⟨ya, yc, hyv, -, -, -, -⟩ := (gu.2.2 0 (by decide)).out1 sIntC
 rw [show (nth ([[0], [0], [0]] : List (List Int)) 0).length = 1 from rfl] at hyv
 rw [hyv] at cu0
 have HSV := Lib.hid (And.intro cu0 (And.intro (grownBy_alloc W3 (.cells #[.int .i64 3, .int .i64 1, .int .i64 0, .slice ta 2 tc] 24)) (grownBy_below q4)))
 have hA4 := hA3.below q4
 have hbr4 : W3.heap.size < W4.heap.size := Nat.lt_of_lt_of_le (by simp) q4.size
 have H4 := Lib.hid (And.intro hA4 hbr4)
 clear gu hsol hfin q4 e4 e5 ui ucell cu0 hyv hA3 hA4 hbr4
 go_wp2_with fail
 refine calls_genC (fun Z => W4.grownBy Z none ∧ Z.cell? ⟨W4.heap.size, 0, none⟩ = some (.slice ua 3 uc) ∧ Grid (Value.int .i64) Z (.slice (some ⟨W4.heap.size + 1 + 1, 0, none⟩) 3 3) [.slice (some ⟨W4.heap.size + 1, 0, none⟩) 1 1, .slice none 0 0, .slice none 0 0] [[0], [], []] ∧ Ints Z (.slice (some ⟨W4.heap.size + 1 + 1 + 1, 0, none⟩) 3 3) [0, 1, 0]) ?_ ?_
 ·have hZ : Below W4.heap.size W4 ((((W4.alloc (.cells #[.slice ua 3 uc, .slice xa 0 xc] 34)).alloc (.cells #[.int .i64 0] 3)).alloc (.cells #[.slice (some ⟨W4.heap.size + 1, 0, none⟩) 1 1, .slice none 0 0, .slice none 0 0] 32)).alloc (.cells #[.int .i64 0, .int .i64 1, .int .i64 0] 3)) := by
   repeat (refine Below.alloc ?_ (by simp; try omega) _)
   exact Below.refl _ _
  refine ⟨grownBy_below hZ, by go_simp, grid_lit [.slice (some ⟨W4.heap.size + 1, 0, none⟩) 1 1, .slice none 0 0, .slice none 0 0] [[0], [], []] rfl (by simp) (fun j y h => ?_) (fun i hi => ?_), ?_⟩
  ·rcases j with _ | _ | _ | j
   ·simp at h; subst h; go_simp
   ·simp at h; subst h; go_simp
   ·simp at h; subst h; go_simp
   ·simp at h
  ·rcases i with _ | _ | _ | i
   ·exact ints_cell (by go_simp)
   ·exact Lst.nil _ _
   ·exact Lst.nil _ _
   ·simp at hi; omega
  ·refine ⟨some ⟨W4.heap.size + 1 + 1 + 1, 0, none⟩, 3, rfl, by simp, by unfold maxLen; omega, fun i hi => ⟨rfl, by simp [blk], fun j hj => ?_⟩⟩
   obtain rfl : j = 0 := by omega
   rcases i with _ | _ | _ | i
   ·simp only [blk, ofs, nth]; go_simp
   ·simp only [blk, ofs, nth]; go_simp
   ·simp only [blk, ofs, nth]; go_simp
   ·simp at hi; omega
 rintro Z5 ⟨g45, c70, hgr, hip⟩
 have hA5 := H4.out.1.below (Z' := Z5) ⟨g45.os, g45.tape, g45.output, g45.size, fun k hk => g45.block k hk (by simp)⟩
 refine (Expand_any _ (.slice none 0 0) _ _ [] [[0], [], []] [] [0, 1, 0] Z5 hgr (nilGridC _) hip (fun i hi => ?_) (fun i hi => by simp at hi) (by simp)).mono ?_
 ·have : i = 0 ∨ i = 1 ∨ i = 2 := by simp at hi; omega
  rcases this with rfl | rfl | rfl <;> simp [nth]
 intro e W6 hpost
 rcases hpost with ⟨hbad, -⟩ | ⟨-, hbad, -⟩ | ⟨-, -, za, zc, zb, zd, rfl, ⟨⟨zs, gz⟩, -⟩, q6⟩
 ·exact absurd rfl hbad
 ·exact absurd (by decide) hbad
 rw [show expL [[0], [], []] [0, 1, 0] = [[0], [], [0]] from rfl] at gz
 have gz := gz.grid
 rw [show ([0, 1, 0] : List Int).length = 3 from rfl, show ([] : List (List Int)).length = 0 from rfl]
 rw [show ([0, 1, 0] : List Int).length = 3 from rfl] at gz
 obtain ⟨za2, zc2, hz2, -, zi, zcell⟩ := grid_rdC gz
 have e4 : ([[0], [], [0]] : List (List Int)).length = 3 := rfl
 rw [e4] at hz2 zi zcell
 simp only [Value.slice.injEq] at hz2
 obtain ⟨rfl, -, rfl⟩ := hz2
 have zi2 := zi .i64 2 (by omega) (by omega)
 simp only [show ((2 : Int)).toNat = 2 from rfl] at zi2
 have cz2 := (zcell 2 (by omega)).1
 obtain ⟨yb, yd, hyv, -, -, -, -⟩ := (gz.2.2 2 (by decide)).out1 sIntC
 rw [show (nth ([[0], [], [0]] : List (List Int)) 2).length = 1 from rfl] at hyv
 rw [hyv] at cz2
 have HEX := Lib.hid (And.intro cz2 (And.intro c70 (And.intro g45 (grownBy_below q6))))
 have hA6 := hA5.below q6
 have H6 := Lib.hid (And.intro hA6 (And.intro (show W4.heap.size < W6.heap.size from Nat.lt_of_lt_of_le (World.block_lt_of_cell? Z5 _ c70) q6.size) trivial))
 clear gz zi zcell cz2 hyv e4 hgr hip q6 hA5 hA6 c70 g45
 go_wp2_with fail
 refine calls_genC (fun Z => W6.grownBy Z none ∧ Z.cell? ⟨W6.heap.size, 0, none⟩ = some (.slice za 3 zc) ∧ Ints Z (.slice (some ⟨W6.heap.size + 1, 0, none⟩) 1 1) [0]) ?_ ?_
 ·have hZ : Below W6.heap.size W6 ((W6.alloc (.cells #[.slice za 3 zc, .slice zb 0 zd] 34)).alloc (.cells #[.int .i64 0] 3)) := by
   repeat (refine Below.alloc ?_ (by simp) _)
   exact Below.refl _ _
  exact ⟨grownBy_below hZ, by go_simp, ints_cell (by go_simp)⟩
 rintro Z7 ⟨g67, c10, hi7⟩
 have hA7 := H6.out.1.below (Z' := Z7) ⟨g67.os, g67.tape, g67.output, g67.size, fun k hk => g67.block k hk (by simp)⟩
 refine (Expand_any (.slice none 0 0) (.slice none 0 0) _ [] [] [] [] [0] Z7 (nilGridC _) (nilGridC _) hi7 (fun i hi => by simp at hi) (fun i hi => by simp at hi) (by simp)).mono ?_
 intro e W8 hpost
 rcases hpost with ⟨-, rfl, q8⟩ | ⟨hbad, -⟩ | ⟨hbad, -⟩
 rotate_left
 ·exact absurd hbad (by decide)
 ·exact absurd hbad (by decide)
 have hA8 := hA7.below q8
 have H8 := Lib.hid (And.intro hA8 (And.intro g67 (And.intro c10 (grownBy_below q8))))
 clear hA7 hA8 g67 c10 hi7 q8
 go_wp2_with fail
 refine calls_genC (fun Z => W8.grownBy Z none) (grownBy_below ((Below.refl W8.heap.size W8).alloc (Nat.le_refl _) _)) ?_
 intro Z8 g88
 refine (gCycles_any wN (.slice none 0 0) Z8 (nilConsC _) (by decide)).mono ?_
 intro e W9 hpost
 rcases hpost with ⟨-, rfl, q9⟩ | ⟨hbad, -⟩
 rotate_left
 ·rw [col_wN] at hbad; exact absurd hbad (by decide)
 rw [col_wN]
 have g89 := g88.trans (grownBy_below q9)
 have hA9 := H8.out.1.below (Z' := W9) ⟨g89.os, g89.tape, g89.output, g89.size, fun k hk => g89.block k hk (by simp)⟩
 obtain ⟨cz2, c70, g45, g56⟩ := HEX.out
 obtain ⟨-, g67, c10, g78⟩ := H8.out
 obtain ⟨cu0, g33, g34⟩ := HSV.out
 obtain ⟨k1, k2, k5, cp1, cp2, g23⟩ := HRD.out
 obtain ⟨cv0, cr0, cr1⟩ := HCY.out
 obtain ⟨cb0, cb3⟩ := HB3.out
 have g79 := g78.trans g89
 have g69 := g67.trans g79
 have g59 := g56.trans g69
 have g49 := g45.trans g59
 have g39 := g34.trans g49
 have g309 := g33.trans g39
 have g29 := g23.trans g309
 have cv0 := g29.cell cv0 (by simp)
 have cr0 := g29.cell cr0 (by simp)
 have cr1 := g29.cell cr1 (by simp)
 have k1 := g309.cell k1 (by simp)
 have k2 := g309.cell k2 (by simp)
 have k5 := g309.cell k5 (by simp)
 have cp1 := g309.cell cp1 (by simp)
 have cp2 := g309.cell cp2 (by simp)
 have cb0 := g39.cell cb0 (by simp)
 have cb3 := g39.cell cb3 (by simp)
 have cu0 := g49.cell cu0 (by simp)
 have c70 := g59.cell c70 (by simp)
 have cz2 := g69.cell cz2 (by simp)
 have c10 := g79.cell c10 (by simp)
 have hbel := Lib.hid hA9.bel
 clear hA9 HEX H8 HSV HRD HCY HB3 g29 g309 g39 g49 g59 g69 g79 g78 g67 g45 g56 g33 g34 g23 g88 g89 q9 H6 H4
 go_wp2_with fail
 go_wp2_with fail
 go_ret
 exact ⟨rfl, hbel.out⟩
end Go.Proofs.YtgblfjccccdidaaGreat
end
section
namespace Go.Dfl
open Go.ChangeShapes Go.WideShapes Go.ChangeAt Go.RowKit Go.Deep
theorem cell_lt {w : World} {a : Addr} {v : Value} (h : w.cell? a = some v) : a.block < w.heap.size ∧ a.spot = none := by
 refine ⟨?_, World.cell?_spot h⟩
 unfold World.cell? at h
 split at h
 ·rename_i he; exact (Array.getElem?_eq_some_iff.1 he).1
 ·simp at h
theorem addr_none {x : Addr} (h : x.spot = none) (i : Nat) : x.add i = ⟨x.block, x.off + i, none⟩ := by
 obtain ⟨b, o, s⟩ := x
 simp at h; subst h
 simp [Addr.add]
theorem add_spot {x : Addr} {w : World} {v : Value} {i : Nat} (hi : i = 0) (h : w.cell? (x.add i) = some v) : x.spot = none := by
 subst hi; simpa [Addr.add] using World.cell?_spot h
section
variable {H : Type} {enc : TypeId × Value → H} {P : Program} {w : World} {base : Nat} {spare : Nat → Bool} {held : Bool}
theorem ints_of_trod {t e : TypeId} (ht : P.underlying t = some (.slice e)) (he : P.underlying e = some (.int .i64)) (hc : P.cellsOf e = 1) {a : Option Addr} {len cap : Nat} {d : DataW H} {p : List MemPlace}
  (h : DataW.Trod enc P w base spare held t (.slice a len cap) d p) : ∃ l, l.length = len ∧ Ints w (.slice a len cap) l ∧ ∀ x ∈ l, -9223372036854775808 ≤ x ∧ x ≤ 9223372036854775807 := by
 obtain ⟨fuel, hf⟩ := h
 rcases open_ints ht he hc hf with ⟨hcs, _⟩ | ⟨x, l, c, zs, hcs, _, hl, hm, hz, _, hcell, hwz⟩
 ·simp [Value.cells] at hcs
  obtain ⟨rfl, rfl, rfl⟩ := hcs
  exact ⟨[], rfl, Lst.nil _ _, by simp⟩
 ·simp [Value.cells] at hcs
  obtain ⟨rfl, rfl, rfl⟩ := hcs
  have hlz : len ≤ zs.length := by rw [hz]; split <;> omega
  refine ⟨zs.take len, by simp; omega, ⟨some x, cap, ?_, ?_, hm, fun i hi => ?_⟩, ?_⟩
  ·rw [List.length_take]; congr 1; omega
  ·simp; omega
  ·simp at hi
   have h0 := hcell 0 (by omega)
   have hsp : x.spot = none := add_spot rfl h0
   have hi' := hcell i (by omega)
   rw [addr_none hsp] at hi'
   refine ⟨?_, (cell_lt hi').1, fun j hj => ?_⟩
   ·obtain ⟨b, o, s⟩ := x; simp at hsp; subst hsp; rfl
   ·obtain rfl : j = 0 := by omega
    simp only [blk, ofs, Nat.mul_one, Nat.add_zero]
    rw [hi']
    congr 2
    simp [nth, List.getElem?_take]
    rw [if_pos (by omega)]
  ·intro y hy
   have := hwz y (List.mem_of_mem_take hy)
   have := bounds_i64 this
   omega
theorem pairs_of_trod {t e te : TypeId} {f0 f1 : Field} (ht : P.underlying t = some (.slice e)) (he : P.underlying e = some (.struct #[f0, f1])) (ce : P.cellsOf e = 2) (o0 : f0.offset = 0) (o1 : f1.offset = 1)
  (t0 : f0.type = te) (t1 : f1.type = te) (hi : P.underlying te = some (.int .i64)) (hc : P.cellsOf te = 1) {a : Option Addr} {len cap : Nat} {d : DataW H} {p : List MemPlace}
  (h : DataW.Trod enc P w base spare held t (.slice a len cap) d p) : ∃ l : List (Int × Int), l.length = len ∧ Pairs w (.slice a len cap) l ∧ ∀ x ∈ l, (-9223372036854775808 ≤ x.1 ∧ x.1 ≤ 9223372036854775807) ∧ -9223372036854775808 ≤ x.2 ∧ x.2 ≤ 9223372036854775807 := by
 obtain ⟨fuel, hf⟩ := h
 rcases open_slice_pairs ht he ce o0 o1 (by rw [t0]; exact hc) (by rw [t1]; exact hc) hf with ⟨hcs, _⟩ | ⟨x, len', cap', m, n, V0, V1, D0, D1, P0, P1, hcs, _, hl, hm, hmm, hx, hcell⟩
 ·simp [Value.cells] at hcs
  obtain ⟨rfl, rfl, rfl⟩ := hcs
  exact ⟨[], rfl, ⟨none, 0, rfl, by simp, by unfold maxLen; omega, fun i hi => by simp at hi⟩, by simp⟩
 ·simp [Value.cells] at hcs
  obtain ⟨rfl, rfl, rfl⟩ := hcs
  have hlm : len ≤ m := by rw [hmm]; split <;> omega
  have each : ∀ i, i < len → ∃ y z : Int, V0 i = .int .i64 y ∧ V1 i = .int .i64 z ∧ (-9223372036854775808 ≤ y ∧ y ≤ 9223372036854775807) ∧ -9223372036854775808 ≤ z ∧ z ≤ 9223372036854775807 := by
   intro i hil
   obtain ⟨_, _, r0, r1⟩ := hcell i (by omega)
   rw [t0] at r0
   rw [t1] at r1
   obtain ⟨y, e0, _, wy⟩ := DataW.trod_int hi r0
   obtain ⟨z, e1, _, wz⟩ := DataW.trod_int hi r1
   simp at e0 e1
   have b0 := bounds_i64 wy
   have b1 := bounds_i64 wz
   exact ⟨y, z, e0, e1, by omega, by omega⟩
  refine ⟨(List.range len).map fun i => ((match V0 i with | .int _ y => y | _ => 0), (match V1 i with | .int _ y => y | _ => 0)), by simp, ⟨some x, cap, by simp, by simpa using hl, hm, fun i hi => ?_⟩, ?_⟩
  ·simp at hi
   obtain ⟨h0, h1, -, -⟩ := hcell 0 (by omega)
   have hsp : x.spot = none := add_spot (by omega) h0
   obtain ⟨g0, g1, -, -⟩ := hcell i (by omega)
   rw [addr_none hsp] at g0 g1
   obtain ⟨y, z, e0, e1, -⟩ := each i hi
   refine ⟨?_, (cell_lt g0).1, fun j hj => ?_⟩
   ·obtain ⟨b, o, s⟩ := x; simp at hsp; subst hsp; rfl
   ·rcases (by omega : j = 0 ∨ j = 1) with rfl | rfl
    ·simp only [blk, ofs, Nat.add_zero]
     rw [g0]; simp [nth, hi, e0]
    ·simp only [blk, ofs]
     rw [Nat.add_assoc, g1]; simp [nth, hi, e1]
  ·intro q hq
   simp at hq
   obtain ⟨i, hi, rfl⟩ := hq
   obtain ⟨y, z, e0, e1, b⟩ := each i hi
   simp only [e0, e1]; exact b
end
end Go.Dfl
end
section
namespace Go.Dfl
theorem choice2 {α β : Type} [Inhabited α] [Inhabited β] (p : Nat → α → β → Prop) : ∀ n, (∀ i, i < n → ∃ x y, p i x y) → ∃ (xs : List α) (ys : List β), xs.length = n ∧ ys.length = n ∧ ∀ i, i < n → p i (nth xs i) (nth ys i)
 | 0, _ => ⟨[], [], rfl, rfl, fun i hi => by omega⟩
 | n + 1, h => by
   obtain ⟨xs, ys, h1, h2, h3⟩ := choice2 p n fun i hi => h i (by omega)
   obtain ⟨x, y, h4⟩ := h n (by omega)
   refine ⟨xs ++ [x], ys ++ [y], by simp [h1], by simp [h2], fun i hi => ?_⟩
   rw [nth_append, nth_append]
   by_cases e : i < n
   ·rw [if_pos (by omega), if_pos (by omega)]; exact h3 i e
   ·have : i = n := by omega
    subst this
    rw [if_neg (by omega), if_neg (by omega), h1, h2, Nat.sub_self]
    exact h4
end Go.Dfl
namespace Go.Proofs.YtgblfjccccdidaaGreat
open Go.ChangeShapes Go.WideShapes Go.ChangeAt Go.RowKit Go.Dfl Go.Deep Go.And
theorem cI : Tryz.prog.cellsOf 3 = 1 := by kernel_rfl
theorem cL : Tryz.prog.cellsOf 32 = 1 := by kernel_rfl
theorem cLL : Tryz.prog.cellsOf 27 = 1 := by kernel_rfl
theorem cC : Tryz.prog.cellsOf 48 = 5 := by kernel_rfl
theorem cCs : Tryz.prog.cellsOf 22 = 1 := by kernel_rfl
theorem cSy : Tryz.prog.cellsOf 24 = 4 := by kernel_rfl
theorem cPt : Tryz.prog.cellsOf 34 = 2 := by kernel_rfl
section
variable {H : Type} {enc : TypeId × Value → H} {w : World} {base : Nat} {spare : Nat → Bool} {held : Bool}
theorem ints_cs {n : Nat} {c : Value} {x : DataW H × List MemPlace} (h : DataW.trod enc Tryz.prog w base spare held n 32 [c] = some x) : ∃ (a : Option Addr) (k m : Nat) (l : List Int), c = .slice a k m ∧ Ints w c l ∧ ∀ x ∈ l, -9223372036854775808 ≤ x ∧ x ≤ 9223372036854775807 := by
 rcases open_slice Tryz.underlying32 h with ⟨hcs, _⟩ | ⟨a, len, cap, m, n', D, Pl, hcs, _⟩
 ·simp at hcs; subst hcs
  exact ⟨none, 0, 0, [], rfl, Lst.nil _ _, by simp⟩
 ·simp at hcs; subst hcs
  obtain ⟨l, -, h2, h3⟩ := ints_of_trod (enc := enc) (P := Tryz.prog) (t := 32) (e := 3) Tryz.underlying32 Tryz.underlying3 cI (a := some a) (len := len) (cap := cap) (d := x.1) (p := x.2) ⟨n, h⟩
  exact ⟨_, _, _, l, rfl, h2, h3⟩
theorem int_cs {n : Nat} {c : Value} {x : DataW H × List MemPlace} (h : DataW.trod enc Tryz.prog w base spare held n 3 [c] = some x) : ∃ y : Int, c = .int .i64 y ∧ -9223372036854775808 ≤ y ∧ y ≤ 9223372036854775807 := by
 obtain ⟨y, e0, _, wy⟩ := DataW.trod_int Tryz.underlying3 h
 simp at e0
 have b0 := bounds_i64 wy
 exact ⟨y, e0, by omega, by omega⟩
set_option maxRecDepth 100000 in
theorem grid_cs {n : Nat} {c : Value} {x : DataW H × List MemPlace} (h : DataW.trod enc Tryz.prog w base spare held n 27 [c] = some x) : ∃ (a : Option Addr) (m : Nat) (vs : List Value) (ll : List (List Int)), c = .slice a ll.length m ∧ Grid (Value.int .i64) w c vs ll ∧ InR ll := by
 rcases open_slice Tryz.underlying27 h with ⟨hcs, _⟩ | ⟨a, len, cap, m, n', D, Pl, hcs, _, hl, hm, hmm, _, hel⟩
 ·simp at hcs; subst hcs
  exact ⟨none, 0, [], [], rfl, ⟨Lst.nil _ _, rfl, fun i hi => by simp at hi⟩, fun i hi => by simp at hi⟩
 ·simp at hcs; subst hcs
  have hlm : len ≤ m := by rw [hmm]; split <;> omega
  obtain ⟨vs, ll, h1, h2, h3⟩ := choice2 (fun i (v : Value) (l : List Int) => w.cell? (a.add i) = some v ∧ Ints w v l ∧ ∀ x ∈ l, -9223372036854775808 ≤ x ∧ x ≤ 9223372036854775807) len (fun i hi => by
   obtain ⟨cs', hc, ht⟩ := hel i (by omega)
   rw [cL, Nat.mul_one] at hc
   obtain ⟨-, hlen, hcell⟩ := World.cells?_some hc
   obtain ⟨c, rfl⟩ : ∃ c, cs' = [c] := by
    match cs', hlen with
    | [c], _ => exact ⟨c, rfl⟩
   obtain ⟨a', k', m', l, -, hI, hr⟩ := ints_cs ht
   refine ⟨c, l, ?_, hI, hr⟩
   have := hcell 0 (by omega)
   simpa [Addr.add] using this)
  refine ⟨some a, cap, vs, ll, by rw [h2], ⟨⟨some a, cap, by rw [h1], by omega, hm, fun i hi => ?_⟩, by rw [h1, h2], fun i hi => (h3 i (by omega)).2.1⟩, fun i hi x hx => (h3 i (by omega)).2.2 x hx⟩
  have hsp : a.spot = none := add_spot rfl (h3 0 (by omega)).1
  have hi' := (h3 i (by omega)).1
  rw [addr_none hsp] at hi'
  refine ⟨?_, (cell_lt hi').1, fun j hj => ?_⟩
  ·obtain ⟨b, o, s⟩ := a; simp at hsp; subst hsp; rfl
  ·obtain rfl : j = 0 := by omega
   simp only [blk, ofs, Nat.mul_one, Nat.add_zero]
   exact hi'
set_option maxRecDepth 100000 in
theorem con_cs {n : Nat} {cs : List Value} {x : DataW H × List MemPlace} (h : DataW.trod enc Tryz.prog w base spare held n 48 cs = some x) : ∃ (rc : RC) (r : R), cs = rc.vals ∧ rc.k = r.k ∧ rc.a = r.a ∧ rc.b = r.b ∧ rc.f = r.f ∧ Ints w rc.set r.s := by
 obtain ⟨xs, n', -, -, hlen, hxs, hf⟩ := DataW.trod_struct Tryz.underlying48 h
 rw [cC] at hlen
 match cs, hlen with
 | [k0, k1, k2, k3, k4], _ =>
   match xs, hxs with
   | [x0, x1, x2, x3, x4], _ =>
     have f0 : DataW.trod enc Tryz.prog w base spare held n' 3 [k0] = some x0 := by
      have h9 := hf 0 _ rfl
      simpa [cI, cL] using h9
     have f1 : DataW.trod enc Tryz.prog w base spare held n' 3 [k1] = some x1 := by
      have h9 := hf 1 _ rfl
      simpa [cI, cL] using h9
     have f2 : DataW.trod enc Tryz.prog w base spare held n' 3 [k2] = some x2 := by
      have h9 := hf 2 _ rfl
      simpa [cI, cL] using h9
     have f3 : DataW.trod enc Tryz.prog w base spare held n' 3 [k3] = some x3 := by
      have h9 := hf 3 _ rfl
      simpa [cI, cL] using h9
     have f4 : DataW.trod enc Tryz.prog w base spare held n' 32 [k4] = some x4 := by
      have h9 := hf 4 _ rfl
      simpa [cI, cL] using h9
     obtain ⟨y0, rfl, -⟩ := int_cs f0
     obtain ⟨y1, rfl, -⟩ := int_cs f1
     obtain ⟨y2, rfl, -⟩ := int_cs f2
     obtain ⟨y3, rfl, -⟩ := int_cs f3
     obtain ⟨a, k, m, l, rfl, hI, -⟩ := ints_cs f4
     exact ⟨⟨y0, y1, y2, y3, a, k, m⟩, ⟨y0, y1, y2, y3, l⟩, rfl, rfl, rfl, rfl, rfl, hI⟩
set_option maxRecDepth 100000 in
theorem cons_cs {n : Nat} {c : Value} {x : DataW H × List MemPlace} (h : DataW.trod enc Tryz.prog w base spare held n 22 [c] = some x) : ∃ (a : Option Addr) (m : Nat) (l : List R), c = .slice a l.length m ∧ ConsIn w c l := by
 rcases open_slice Tryz.underlying22 h with ⟨hcs, _⟩ | ⟨a, len, cap, m, n', D, Pl, hcs, _, hl, hm, hmm, _, hel⟩
 ·simp at hcs; subst hcs
  exact ⟨none, 0, [], rfl, [], rfl, ⟨none, 0, rfl, by simp, by unfold maxLen; omega, fun i hi => by simp at hi⟩, fun i hi => by simp at hi⟩
 ·simp at hcs; subst hcs
  have hlm : len ≤ m := by rw [hmm]; split <;> omega
  obtain ⟨rs, l, h1, h2, h3⟩ := choice2 (fun i (rc : RC) (r : R) => (∀ j, j < 5 → w.cell? ((a.add (i * 5)).add j) = rc.vals[j]?) ∧ rc.k = r.k ∧ rc.a = r.a ∧ rc.b = r.b ∧ rc.f = r.f ∧ Ints w rc.set r.s) len (fun i hi => by
   obtain ⟨cs', hc, ht⟩ := hel i (by omega)
   rw [cC] at hc
   obtain ⟨-, hlen, hcell⟩ := World.cells?_some hc
   obtain ⟨rc, r, rfl, q⟩ := con_cs ht
   exact ⟨rc, r, hcell, q⟩)
  refine ⟨some a, cap, l, by rw [h2], rs, by rw [h1, h2], ⟨some a, cap, by rw [h2], by omega, hm, fun i hi => ?_⟩, fun i hi => (h3 i (by omega)).2⟩
  have hv : ∀ (rc : RC) j, j < 5 → ∃ y, rc.vals[j]? = some y := fun rc j hj => ⟨_, List.getElem?_eq_getElem (by simp [RC.vals]; omega)⟩
  have hsp : a.spot = none := by
   obtain ⟨y, hy⟩ := hv (nth rs 0) 0 (by omega)
   have := (h3 0 (by omega)).1 0 (by omega)
   rw [hy] at this
   have h9 := (cell_lt this).2
   obtain ⟨b, o, s⟩ := a
   simp [Addr.add] at h9
   exact h9
  have key : ∀ j, j < 5 → w.cell? ⟨a.block, a.off + i * 5 + j, none⟩ = (nth rs i).vals[j]? := fun j hj => by
   have := (h3 i (by omega)).1 j hj
   rw [addr_none hsp] at this
   rw [addr_none (x := ⟨a.block, a.off + i * 5, none⟩) rfl] at this
   exact this
  refine ⟨?_, ?_, fun j hj => ?_⟩
  ·obtain ⟨b, o, s⟩ := a; simp at hsp; subst hsp; rfl
  ·obtain ⟨y, hy⟩ := hv (nth rs i) 0 (by omega)
   have := key 0 (by omega)
   rw [hy] at this
   exact (cell_lt this).1
  ·obtain ⟨y, hy⟩ := hv (nth rs i) j hj
   have := key j hj
   show w.cell? ⟨a.block, a.off + i * 5 + j, none⟩ = some (((nth rs i).vals[j]?).getD undef)
   rw [this, hy]; rfl
set_option maxRecDepth 100000 in
theorem sys_of_trod {c : Array Value} (hc : c.size = Tryz.prog.cellsOf 24) {d : DataW H} {p : List MemPlace} (h : DataW.Trod enc Tryz.prog w base spare held 24 (.agg c) d p) :
  ∃ (s : Sy) (cv : Value), (.agg c : Value) = SysV s cv ∧ ConsIn w cv s.cons := by
 rw [cSy] at hc
 obtain ⟨cs⟩ := c
 match cs, hc with
 | [c0, c1, c2, c3], _ =>
   obtain ⟨fuel, hf0⟩ := h
   have hf1 : DataW.trod enc Tryz.prog w base spare held fuel 24 [c0, c1, c2, c3] = some (d, p) := hf0
   obtain ⟨xs, n', -, -, hlen, hxs, hf⟩ := DataW.trod_struct Tryz.underlying24 hf1
   match xs, hxs with
   | [x0, x1, x2, x3], _ =>
     have f0 : DataW.trod enc Tryz.prog w base spare held n' 3 [c0] = some x0 := by
      have h9 := hf 0 _ rfl
      simpa [cI, cCs] using h9
     have f1 : DataW.trod enc Tryz.prog w base spare held n' 3 [c1] = some x1 := by
      have h9 := hf 1 _ rfl
      simpa [cI, cCs] using h9
     have f2 : DataW.trod enc Tryz.prog w base spare held n' 3 [c2] = some x2 := by
      have h9 := hf 2 _ rfl
      simpa [cI, cCs] using h9
     have f3 : DataW.trod enc Tryz.prog w base spare held n' 22 [c3] = some x3 := by
      have h9 := hf 3 _ rfl
      simpa [cI, cCs] using h9
     obtain ⟨y0, rfl, -⟩ := int_cs f0
     obtain ⟨y1, rfl, -⟩ := int_cs f1
     obtain ⟨y2, rfl, -⟩ := int_cs f2
     obtain ⟨a, m, l, rfl, hC⟩ := cons_cs f3
     exact ⟨⟨y0, y1, y2, l⟩, _, rfl, hC⟩
set_option maxRecDepth 100000 in
theorem pts_of_trod {c : Array Value} (hc : c.size = Tryz.prog.cellsOf 34) {d : DataW H} {p : List MemPlace} (h : DataW.Trod enc Tryz.prog w base spare held 34 (.agg c) d p) :
  ∃ (u v : Value) (a b : List (List Int)) (us vs : List Value), (.agg c : Value) = .agg #[u, v] ∧ Grid (Value.int .i64) w u us a ∧ Grid (Value.int .i64) w v vs b ∧ InR a ∧ InR b := by
 rw [cPt] at hc
 obtain ⟨cs⟩ := c
 match cs, hc with
 | [c0, c1], _ =>
   obtain ⟨fuel, hf0⟩ := h
   have hf1 : DataW.trod enc Tryz.prog w base spare held fuel 34 [c0, c1] = some (d, p) := hf0
   obtain ⟨xs, n', -, -, hlen, hxs, hf⟩ := DataW.trod_struct Tryz.underlying34 hf1
   match xs, hxs with
   | [x0, x1], _ =>
     have f0 : DataW.trod enc Tryz.prog w base spare held n' 27 [c0] = some x0 := by
      have h9 := hf 0 _ rfl
      simpa [cLL] using h9
     have f1 : DataW.trod enc Tryz.prog w base spare held n' 27 [c1] = some x1 := by
      have h9 := hf 1 _ rfl
      simpa [cLL] using h9
     obtain ⟨a, m, vs, ll, -, hG, hR⟩ := grid_cs f0
     obtain ⟨a', m', vs', ll', -, hG', hR'⟩ := grid_cs f1
     exact ⟨c0, c1, ll, ll', vs, vs', rfl, hG, hG', hR, hR'⟩
end
end Go.Proofs.YtgblfjccccdidaaGreat
end
section
namespace Go.Proofs.YtgblfjccccdidaaGreat
open Go.ChangeShapes Go.WideShapes Go.ChangeAt Go.RowKit Go.Dfl Go.And
theorem own : ownKnob Tryz.prog.godebug = none := by kernel_rfl
theorem laidOut : laidOutB Tryz.prog = true := by kernel_rfl
theorem winB_refl (a : List (List Int)) : winB a a = true := (winB_iff _ _).2 ⟨rfl, fun _ _ _ h => h⟩
structure SysB (sb : Nat) (s : Sy) (cv : Value) (Z : World) : Prop where
 box : BoxS Z sb s cv
 cons : ConsIn Z cv s.cons
theorem SysB.below {sb : Nat} {s : Sy} {cv : Value} {Z Z' : World} (h : SysB sb s cv Z) (hb : Below Z.heap.size Z Z') : SysB sb s cv Z' := ⟨h.box.grown (grownBy_below hb) (by simp), h.cons.below hb⟩
structure PtsB (pb : Nat) (u v : Value) (a b : List (List Int)) (Z : World) : Prop where
 p0 : Z.cell? ⟨pb, 0, none⟩ = some u
 p1 : Z.cell? ⟨pb, 1, none⟩ = some v
 pts : PtsIn Z u v a b
theorem PtsB.below {pb : Nat} {u v : Value} {a b : List (List Int)} {Z Z' : World} (h : PtsB pb u v a b Z) (hb : Below Z.heap.size Z Z') : PtsB pb u v a b Z' := ⟨(grownBy_below hb).cell h.p0 (by simp), (grownBy_below hb).cell h.p1 (by simp), h.pts.below hb⟩
theorem PtsB.new {Z : World} {u v : Value} {a b : List (List Int)} (h : PtsIn Z u v a b) (t : TypeId) : PtsB Z.heap.size u v a b (Z.alloc (.cells #[u, v] t)) := by
 have hc := cells_new (W := Z) (cs := [u, v]) (t := t) rfl
 exact ⟨hc 0 _ rfl, hc 1 _ rfl, h.below ((Below.refl _ _).alloc (Nat.le_refl _) _)⟩
theorem SysB.new {Z : World} {s : Sy} {cv : Value} (h : ConsIn Z cv s.cons) (t : TypeId) : SysB Z.heap.size s cv (Z.alloc (.cells #[.int .i64 s.vars, .int .i64 s.sites, .int .i64 s.fields, cv] t)) :=
 ⟨BoxS.new _ _ _ _, h.below ((Below.refl _ _).alloc (Nat.le_refl _) _)⟩
theorem calls_gen {P : Program} {f : FuncId} {args : Array Value} {w : World} {Q : Ending → World → Prop} (p : World → Prop) (hw : p w) (h : ∀ W, p W → Calls P f args W Q) : Calls P f args w Q := h w hw
def TruePost (w : World) (e : Ending) (w' : World) : Prop := e = .returned (.bool true) ∧ Below w.heap.size w w'
end Go.Proofs.YtgblfjccccdidaaGreat
end
section
namespace Go.Proofs.YtgblfjccccdidaaGreat
open Go.ChangeShapes Go.WideShapes Go.ChangeAt Go.RowKit Go.Dfl Go.Clp Go.Tj
open Go.And (R Sy Vld Sm chkCode chkCode_ok colC_sm Syst Pts pts_shut pts_bound ClosedP subB_iff subB ascB)
theorem chk_lds {E : Nat → Nat → Prop} {n : Nat} {l : List Int} (h : Lds E n l) (hn : n ≤ 8192) : Prt.chk l = 0 := by
 unfold Prt.chk
 rw [if_neg (by have := h.1; omega)]
 have H : ∀ m k, k + m = n → Prt.chkFrom l m k = 0 := by
  intro m
  induction m with
  | zero => intro k _; rfl
  | succ m ih =>
    intro k hk
    have h1 := h.le (v := k) (by omega)
    unfold Prt.chkFrom
    rw [if_neg (by omega), if_neg (by rw [h.self (by omega)]; simp), ih (k + 1) (by omega)]
 rw [h.1]
 exact H n 0 (by omega)
theorem off_le (N : Nat) (hd : List Int) : offH N hd ≤ N := by
 unfold offH
 exact Nat.le_trans (List.length_filter_le _ _) (by simp)
theorem sol_closed {s : Sy} {lu lv : List (List Int)} (h0 : chkCode s = 0) (hs : Sol s.S lu lv) : ClosedP s lu lv := by
 have hv := chkCode_ok.1 h0
 have hok := hv.ok
 have hsol : ∀ i, i < (lu ++ lv).length → IsSol s.S i (nth (lu ++ lv) i) := by
  intro i hi
  rw [nth_append]
  have h1 := hs.1
  have h2 := hs.2.1
  by_cases e : i < lu.length
  ·rw [if_pos e]; exact hs.2.2.1 i (by omega)
  ·rw [if_neg e]
   simp at hi
   have := hs.2.2.2 (i - lu.length) (by omega)
   rw [h1, show s.S.vars + (i - s.S.vars) = i by omega] at this
   rw [h1]; exact this
 have hlen : (lu ++ lv).length = s.S.N := by simp [hs.1, hs.2.1, Syst.N]
 have hmem : ∀ i x, ((x : Nat) : Int) ∈ nth (lu ++ lv) i ↔ Pts s.S i x := by
  intro i x
  by_cases hi : i < (lu ++ lv).length
  ·rw [(hsol i hi).mem]; simp
  ·rw [nth_out _ _ (by omega)]
   constructor
   ·intro h; cases h
   ·intro h; have := (pts_bound hok h).1; omega
 refine ⟨h0, hs.1, hs.2.1, fun i hi => ?_, fun c hc => ?_⟩
 ·obtain ⟨L, hL, h1, h2⟩ := hsol i hi
  constructor
  ·rw [subB_iff]
   intro j hj
   have hx := nth_mem _ _ hj
   obtain ⟨h3, h4⟩ := ((hsol i hi).mem _).1 hx
   have h5 := (pts_bound hok h4).2
   have h6 : s.S.sites = s.sites.toNat := rfl
   omega
  ·unfold ascB
   rw [decide_eq_true_eq, hL, List.pairwise_map]
   exact h1.imp fun h => by omega
 ·have := pts_shut s.S c hc
  simpa only [hmem] using this
def SmlP (s : Sy) : Prop := ShortP s ∧ s.vars ≤ 24 ∧ s.sites ≤ 6 ∧ s.fields ≤ 3
theorem SmlP.sm {s : Sy} (h : SmlP s) : Sm s := ⟨by have := h.2.1; omega, by have := h.2.2.1; omega, by have := h.2.2.2; omega, by have := h.1.1; omega⟩
set_option maxHeartbeats 1600000 in
theorem rSml_any (s : Sy) (cv : Value) (W : World) (hc : ConsIn W cv s.cons) :
  Calls Tryz.prog 16 #[SysV s cv] W (Tell (SmlP s) W) := by
 obtain ⟨ca, cc, rfl, -⟩ := hc.out
 have hb0 : Below W.heap.size W _ := (Below.refl W.heap.size W).alloc (Nat.le_refl _) (.cells #[.int .i64 s.vars, .int .i64 s.sites, .int .i64 s.fields, .slice ca s.cons.length cc] 24)
 have hbs := BoxS.new W s (.slice ca s.cons.length cc) 24
 have HC := Lib.hid (And.intro hc (And.intro hb0 hbs))
 clear hc hb0 hbs
 unfold SysV
 go_enter Tryz.func16, Tryz.ntmps16
 go_wp2_with fail
 refine (Short_any s (.slice ca s.cons.length cc) _ (HC.out.1.below HC.out.2.1)).mono ?_
 rintro e W1 ⟨b, rfl, hb, q1⟩
 have H1 := Lib.hid (And.intro hb (HC.out.2.1.trans (q1.mono HC.out.2.1.size)))
 obtain ⟨d0, d1, d2, d3⟩ := HC.out.2.2.grown (grownBy_below q1) (by simp)
 clear hb q1
 cases b
 ·go_wp2_with fail
  go_ret
  exact ⟨false, rfl, ⟨fun h => absurd h Bool.false_ne_true, fun h => absurd (H1.out.1.2 h.1) Bool.false_ne_true⟩, H1.out.2⟩
 ·have hsh := H1.out.1.1 rfl
  have HS := Lib.hid hsh
  clear hsh
  by_cases h1 : s.vars ≤ 24
  ·by_cases h2 : s.sites ≤ 6
   ·by_cases h3 : s.fields ≤ 3
    ·go_wp2_with fail
     go_ret
     exact ⟨true, by simp, ⟨fun _ => ⟨HS.out, h1, h2, h3⟩, fun _ => rfl⟩, H1.out.2⟩
    ·go_wp2_with fail
     go_ret
     exact ⟨false, by simp; omega, ⟨fun h => absurd h Bool.false_ne_true, fun h => by have := h.2.2.2; omega⟩, H1.out.2⟩
   ·go_wp2_with fail
    go_ret
    exact ⟨false, by first | rfl | (simp; omega), ⟨fun h => absurd h Bool.false_ne_true, fun h => by have := h.2.2.1; omega⟩, H1.out.2⟩
  ·go_wp2_with fail
   go_ret
   exact ⟨false, by first | rfl | (simp; omega), ⟨fun h => absurd h Bool.false_ne_true, fun h => by have := h.2.1; omega⟩, H1.out.2⟩
structure PB where
 b : Nat
 u : Value
 v : Value
 x : List (List Int)
 y : List (List Int)
structure EqI (W0 : World) (bs : Nat) (s : Sy) (cv : Value) (L : List PB) (Z : World) : Prop where
 sys : SysB bs s cv Z
 bel : Below W0.heap.size W0 Z
 pts : ∀ q ∈ L, PtsB q.b q.u q.v q.x q.y Z
theorem EqI.below {W0 : World} {bs : Nat} {s : Sy} {cv : Value} {L : List PB} {Z Z' : World} (h : EqI W0 bs s cv L Z) (hb : Below Z.heap.size Z Z') : EqI W0 bs s cv L Z' := ⟨h.sys.below hb, h.bel.trans (hb.mono h.bel.size), fun q hq => (h.pts q hq).below hb⟩
theorem EqI.push {W0 : World} {bs : Nat} {s : Sy} {cv : Value} {L : List PB} {Z : World} (h : EqI W0 bs s cv L Z) {u v : Value} {x y : List (List Int)} (hp : PtsIn Z u v x y) (t : TypeId) :
  EqI W0 bs s cv (⟨Z.heap.size, u, v, x, y⟩ :: L) (Z.alloc (.cells #[u, v] t)) := by
 have h1 := h.below ((Below.refl _ _).alloc (Nat.le_refl _) (.cells #[u, v] t))
 refine ⟨h1.sys, h1.bel, fun q hq => ?_⟩
 rcases List.mem_cons.1 hq with rfl | hq
 ·exact PtsB.new hp t
 ·exact h1.pts q hq
end Go.Proofs.YtgblfjccccdidaaGreat
end
