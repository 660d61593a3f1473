/- Contract of search's visit. -/
import Derived.Test.YtchmjgjagaaomaaScm
import Derived.Test.YtchmjgjagaaomaaSci
import Derived.Test.YtchmjgjagaaomaaGa
namespace Go.Proofs.Ytchmjgjagaaomaa
open Go.RowKit Go.Dfl Go.Gra Go.Tj
/-- The function value in its box. -/
def visV (L : SeL) : Value := .func (.func 62) #[] #[.pointer (some ⟨L.bc, 0, none⟩), .pointer (some ⟨L.bn, 0, none⟩), .pointer (some ⟨L.bl, 0, none⟩), .pointer (some ⟨L.bs, 0, none⟩), .pointer (some ⟨L.bu, 0, none⟩), .pointer (some ⟨L.bf, 0, none⟩), .pointer (some ⟨L.bh, 0, none⟩)]
/-- The rows as lists of nodes. -/
structure RowsAre (L : SeL) (rw : Nat → List Nat) : Prop where
  eq : ∀ v, v < L.n → nth L.ll v = castL (rw v)
  lt : ∀ v, v < L.n → ∀ w ∈ rw v, w < L.n
  fv : L.fv = visV L
def Ev (L : SeL) (rw : Nat → List Nat) (a b : Nat) : Prop := a < L.n ∧ b ∈ rw a
def SvR (L : SeL) (rw : Nat → List Nat) (gray : List Nat) (v cnt : Nat) (num low : List Nat) (hd : List Int) (stk : List Nat) (e : Ending) (W' : World) : Prop :=
  e = .returned (.tuple #[]) ∧ ∃ cnt' num' low' hd' stk', SeW L cnt' num' low' hd' stk' W' ∧ TP (Ev L rw) L.n gray v cnt num low hd stk cnt' num' low' hd' stk'
/-- What a walk reads of an array. -/
theorem SeW.rdN {L : SeL} {cnt : Nat} {num low : List Nat} {hd : List Int} {stk : List Nat} {W : World} (h : SeW L cnt num low hd stk W) (hl : num.length = L.n) {x : Nat} (hx : x < L.n) :
    W.cell? ⟨blk L.sn, ofs L.sn + x, none⟩ = some (.int .i64 ((nth num x : Nat) : Int)) ∧ (∀ Y, (Instr.indexAt 32 (.slice L.sn L.n L.cn) (.int .i64 (x : Int))).run Try.prog Y = .ok (.pointer (some ⟨blk L.sn, ofs L.sn + x, none⟩)) Y) ∧ W.frozen? ⟨blk L.sn, ofs L.sn + x, none⟩ = false := by
  obtain ⟨a, b, c⟩ := own_int h.num (by rw [castL_len]; exact hl) hx
  rw [castL_nth (by omega)] at a
  exact ⟨a, b, c⟩
theorem SeW.rdL {L : SeL} {cnt : Nat} {num low : List Nat} {hd : List Int} {stk : List Nat} {W : World} (h : SeW L cnt num low hd stk W) (hl : low.length = L.n) {x : Nat} (hx : x < L.n) :
    W.cell? ⟨blk L.sl, ofs L.sl + x, none⟩ = some (.int .i64 ((nth low x : Nat) : Int)) ∧ (∀ Y, (Instr.indexAt 32 (.slice L.sl L.n L.cl) (.int .i64 (x : Int))).run Try.prog Y = .ok (.pointer (some ⟨blk L.sl, ofs L.sl + x, none⟩)) Y) ∧ W.frozen? ⟨blk L.sl, ofs L.sl + x, none⟩ = false := by
  obtain ⟨a, b, c⟩ := own_int h.low (by rw [castL_len]; exact hl) hx
  rw [castL_nth (by omega)] at a
  exact ⟨a, b, c⟩
set_option maxHeartbeats 12800000 in
set_option maxRecDepth 100000 in
theorem tvisit_any (L : SeL) (hS : SeS L) (rw : Nat → List Nat) (hR : RowsAre L rw) : ∀ (k v : Nat) (gray : List Nat) (cnt : Nat) (num low : List Nat) (hd : List Int) (stk : List Nat) (W : World), SeW L cnt num low hd stk W → TI (Ev L rw) L.n gray cnt num hd stk → low.length = L.n → v < L.n → nth num v = 0 → (∀ z ∈ gray, Rt (Ev L rw) z v) → L.n ≤ cnt + k →
    Calls Try.prog 62 #[.int .i64 (v : Int), .pointer (some ⟨L.bc, 0, none⟩), .pointer (some ⟨L.bn, 0, none⟩), .pointer (some ⟨L.bl, 0, none⟩), .pointer (some ⟨L.bs, 0, none⟩), .pointer (some ⟨L.bu, 0, none⟩), .pointer (some ⟨L.bf, 0, none⟩), .pointer (some ⟨L.bh, 0, none⟩)] W (SvR L rw gray v cnt num low hd stk) := by
  intro k
  induction k with
  | zero =>
    intro v gray cnt num low hd stk W h hI hl hv h0 hg hk
    have := hI.clt hv h0
    omega
  | succ k ih =>
    intro v gray cnt num low hd stk W h hI hl hv h0 hg hk
    have hn8 := hS.n8
    have hcn := hI.clt hv h0
    have henter := TL.enter (row := rw v) hI hl hv h0 hg
    have h1 := h.setC hS (cnt + 1)
    have hlN := hI.lenN
    obtain ⟨n, hn⟩ : ∃ n, n = L.n := ⟨_, rfl⟩
    have HM := Lib.hid (And.intro henter (And.intro ih (And.intro hk (And.intro hlN hl))))
    have hS0 := Lib.hid hS
    have HR := Lib.hid hR
    have b1 := h.c
    have f1 := h.cf
    have hw : IntKind.i64.wrap ((cnt : Int) + 1) = (cnt : Int) + 1 := IntWalk.i64_in _ (by omega)
    rw [show ((cnt + 1 : Nat) : Int) = (cnt : Int) + 1 by omega] at h1
    have H1 := Lib.hid h1
    clear henter ih hk hlN hl hI hg hS hR h h1
    go_enter Try.func62, Try.ntmps62
    go_upto_region 1 with fail
    clear b1 f1 hw
    refine gen_code (fun Z => SeW L (cnt + 1) num low hd stk Z) H1.out ?_
    clear H1
    intro Z hZ
    have HZ := Lib.hid hZ
    have hd1 := hZ.below hS0.out ((Below.refl _ _).drew)
    obtain ⟨n1, n2, n3⟩ := hd1.rdN HM.out.2.2.2.1 hv
    obtain ⟨l1, l2, l3⟩ := hd1.rdL HM.out.2.2.2.2 hv
    have s1 := hd1.c
    have s2 := hd1.stays ⟨hS0.out.xn.2.1, hS0.out.xn.2.2⟩ hS0.out.xn.1
    have s3 := hd1.stays ⟨hS0.out.xl.2.1, hS0.out.xl.2.2⟩ hS0.out.xl.1
    rw [show ((cnt + 1 : Nat) : Int) = (cnt : Int) + 1 by omega] at s1
    have hq1 := hd1.setN hS0.out HM.out.2.2.2.1 hv (cnt + 1)
    rw [show ((cnt + 1 : Nat) : Int) = (cnt : Int) + 1 by omega] at hq1
    have HD := Lib.hid (And.intro hd1 hq1)
    clear hZ hd1 hq1
    refine wp_region_mix [0, 1, 2, 3, 4, 5, 6] [7, 8, 9] (fun w' => w'.cell? ⟨L.bc, 0, none⟩ = some (.int .i64 ((cnt : Int) + 1)) ∧ w'.cell? ⟨L.bn, 0, none⟩ = some (.slice L.sn L.n L.cn) ∧ w'.cell? ⟨L.bl, 0, none⟩ = some (.slice L.sl L.n L.cl)) (by kernel_rfl) (by kernel_rfl) (by kernel_rfl) ⟨s1, s2, s3⟩ ?_
    clear s1 s2 s3
    repeat (
      refine wpHeads_cons (v := ?_) rfl (Or.inl ⟨by rfl, ?_⟩) ?_
      rotate_left
      · (intro W hW; obtain ⟨q1, q2, q3⟩ := hW; go_simp; try with_reducible rfl)
      simp only [Act.put, List.setIfInBounds_toArray, List.getElem_toArray, List.getElem_cons_zero, List.getElem_cons_succ, List.set_cons_succ, List.set_cons_zero])
    refine wpHeads_nil ?_
    generalize Z.drew = Z1 at *
    refine wpTails_cons rfl ?_
    go_wp2_with fail
    refine K_gen (fun Y => SeW L (cnt + 1) (num.set v (cnt + 1)) low hd stk Y) HD.out.2 ?_
    intro Z2 hZ2
    clear HD HZ n1 n2 n3 l1 l3
    have s1 := hZ2.c
    have s2 := hZ2.stays ⟨hS0.out.xn.2.1, hS0.out.xn.2.2⟩ hS0.out.xn.1
    have s3 := hZ2.stays ⟨hS0.out.xl.2.1, hS0.out.xl.2.2⟩ hS0.out.xl.1
    rw [show ((cnt + 1 : Nat) : Int) = (cnt : Int) + 1 by omega] at s1
    obtain ⟨l1, -, l3⟩ := hZ2.rdL HM.out.2.2.2.2 hv
    have hq2 := hZ2.setL hS0.out HM.out.2.2.2.2 hv (cnt + 1)
    rw [show ((cnt + 1 : Nat) : Int) = (cnt : Int) + 1 by omega] at hq2
    have HQ2 := Lib.hid hq2
    have HSS := Lib.hid (And.intro s1 (And.intro s2 s3))
    clear hZ2 hq2 s1 s2 s3
    refine tail_mk HSS.out ?_
    refine wpTails_cons rfl ?_
    go_wp2_with fail
    refine tail_mk HSS.out ?_
    refine wpTails_one rfl ?_
    go_wp2_with fail
    refine K_gen (fun Y => SeW L (cnt + 1) (num.set v (cnt + 1)) (low.set v (cnt + 1)) hd stk Y) HQ2.out ?_
    intro Z3 hZ3
    clear HQ2 HSS l1 l2 l3
    have HZ3 := Lib.hid hZ3
    obtain ⟨sv, t1, t2⟩ := hZ3.stk.ex
    obtain ⟨ss, sc, rfl⟩ := t2.shape (n := stk.length) (by rw [castL_len])
    have hsl := HM.out.1.base.slen
    have hll : (castL stk).length < 17592186044416 := by rw [castL_len]; omega
    have hsB := hZ3.top
    have HT2 := Lib.hid t2
    clear hZ3 t2
    refine thenQ_mk ?_
    have hss : ((castL stk) ++ [(v : Int)]) = castL (stk ++ [v]) := by unfold castL; rw [List.map_append]; rfl
    have HSS2 := Lib.hid hss
    clear hss
    go_upto_region 3 with (at_builtin; refine wp_append1at (f := Value.int .i64) sIntG rfl _ rfl _ _ rfl L.B _ (castL stk) rfl (HT2.out.alloc _) (v : Int) ⟨Z3.heap.size, 0, none⟩ rfl (cell_alloc1 _ _ _) rfl hll (by omega) (le_alloc _ hsB) ?_; intro v' w3 hown hgr hat; obtain ⟨s9, c9, rfl⟩ := hown.shape (n := stk.length + 1) (by rw [List.length_append, castL_len]; rfl); rw [HSS2.out] at hown; have HO := Lib.hid (HZ3.out.grown hS0.out t1 hown hgr); obtain ⟨o1, o2, -⟩ := HO.out; clear hown hgr hat t1)
    refine gen_code (fun Y => SeW L (cnt + 1) (num.set v (cnt + 1)) (low.set v (cnt + 1)) hd (stk ++ [v]) Y) HO.out.2.2 ?_
    intro Z4 hZ4
    have HZ4 := Lib.hid hZ4
    clear HO o1 o2 hll hsB HT2 HZ3 HSS2
    -- the row of successors
    have u1 := hZ4.stays ⟨hS0.out.xu.2.1, hS0.out.xu.2.2⟩ hS0.out.xu.1
    have hsu := hZ4.succ hS0.out
    obtain ⟨a4, c4, he, hm4, hidx4, hcell4, -⟩ := hsu.out.lst.out1 sRowsG
    have hvl : L.us.length = L.n := by rw [hsu.len]; exact hS0.out.gl
    rw [hvl] at he hm4 hidx4 hcell4
    simp only [Value.slice.injEq] at he
    obtain ⟨e1, -, e2⟩ := he
    have ccl := hcell4 v hv
    have i4 := hidx4 .i64 (v : Int) (by omega) (by omega)
    rw [Int.toNat_natCast] at i4
    rw [← e1] at ccl i4
    rw [← e2] at i4
    have hrow := hsu.inn v (by rw [hS0.out.gl]; exact hv)
    rw [HR.out.eq v hv] at hrow
    obtain ⟨ra, rc, hrv⟩ := hrow.shape (n := (rw v).length) (by rw [castL_len])
    rw [hrv] at ccl
    have HRV := Lib.hid hrv
    obtain ⟨row, hrw⟩ : ∃ row, row = rw v := ⟨_, rfl⟩
    have HRW := Lib.hid hrw
    rw [← hrw] at HM HRV ccl
    obtain ⟨-, -, -, hrm, -⟩ := hrow.lst.out1 sIntG
    rw [castL_len, ← hrw] at hrm
    clear hZ4 hsu hm4 hidx4 hcell4 hvl hrow hrv e1 e2 hrw
    go_wp2_with fail
    clear u1 ccl i4
    go_loopw [35] (fun x wr => ∃ (j cnt1 : Nat) (num1 low1 : List Nat) (hd1 : List Int) (stk1 : List Nat), j ≤ row.length ∧ x = .int .i64 (j : Int) ∧ Hid (SeW L cnt1 num1 low1 hd1 stk1 wr ∧ TL (Ev L rw) L.n gray v row cnt num low hd stk j cnt1 num1 low1 hd1 stk1)) (fun x _ => row.length - (intOf x).toNat)
    case atStart => exact ⟨0, cnt + 1, _, _, _, _, by omega, rfl, HZ4.out, HM.out.1⟩
    case round =>
      obtain ⟨j, cnt1, num1, low1, hd1, stk1, hj, rfl, hh⟩ := hrel
      have HI := Lib.hid hh.out
      clear hh
      have u2 := HI.out.1.stays ⟨hS0.out.xn.2.1, hS0.out.xn.2.2⟩ hS0.out.xn.1
      have u3 := HI.out.1.stays ⟨hS0.out.xl.2.1, hS0.out.xl.2.2⟩ hS0.out.xl.1
      have u7 := HI.out.1.stays ⟨hS0.out.xh.2.1, hS0.out.xh.2.2⟩ hS0.out.xh.1
      have u6 := HI.out.1.stays ⟨hS0.out.xf.2.1, hS0.out.xf.2.2⟩ hS0.out.xf.1
      rw [HR.out.fv] at u6
      unfold visV at u6
      have hlN := HI.out.2.inv.lenN
      have hlH := HI.out.2.inv.lenH
      have hlL := HI.out.2.lenL
      by_cases hjt : j < row.length
      · have hjl : (j : Int) < (row.length : Int) := by omega
        obtain ⟨w, hw⟩ : ∃ w, w = nth row j := ⟨_, rfl⟩
        have hwm : w ∈ rw v := by rw [hw, ← HRW.out]; exact nth_mem _ _ hjt
        have hwn := HR.out.lt v hv w hwm
        have hrow := (HI.out.1.succ hS0.out).inn v (by rw [hS0.out.gl]; exact hv)
        rw [HR.out.eq v hv, ← HRW.out, HRV.out] at hrow
        obtain ⟨r1, i1, -⟩ := own_int hrow (castL_len _) hjt
        rw [castL_nth hjt, ← hw] at r1
        obtain ⟨n1, n2, n3⟩ := HI.out.1.rdN hlN hwn
        have HW := Lib.hid (And.intro hw (show Ev L rw v w from ⟨hv, hwm⟩))
        clear hw hwm hrow
        by_cases h0 : nth num1 w = 0
        · rw [h0] at n1
          have hcall := HM.out.2.1 w (gray ++ [v]) cnt1 num1 low1 hd1 stk1 wr HI.out.1 HI.out.2.inv hlL hwn h0 (HI.out.2.reach HW.out.2) (by have := HI.out.2.cle; have := HM.out.2.2.1; omega)
          have HCALL := Lib.hid hcall
          clear hcall h0
          go_wp2_with fail
          refine HCALL.out.mono ?_
          rintro e Y ⟨rfl, cnt2, num2, low2, hd2, stk2, q1, q2⟩
          have HQ := Lib.hid (And.intro q1 (And.intro q2 (HI.out.2.child HW.out.1 HW.out.2 q2)))
          clear q1 q2 HCALL n1 n2 n3 r1 i1 u2 u3 u6 u7
          go_upto_region 8 with fail
          have hlL2 := HQ.out.2.1.lenL
          have hy := HQ.out.1.below hS0.out ((Below.refl _ _).drew)
          have v3 := hy.stays ⟨hS0.out.xl.2.1, hS0.out.xl.2.2⟩ hS0.out.xl.1
          obtain ⟨a1, a2, a3⟩ := hy.rdL hlL2 hv
          obtain ⟨b1, b2, -⟩ := hy.rdL hlL2 hwn
          have hst := hy.setL hS0.out hlL2 hv (min (nth low2 v) (nth low2 w))
          have hch := HQ.out.2.2
          obtain ⟨la, hla⟩ : ∃ la, la = nth low2 v := ⟨_, rfl⟩
          obtain ⟨lb, hlb⟩ : ∃ lb, lb = nth low2 w := ⟨_, rfl⟩
          rw [← hla, ← hlb] at hst hch
          rw [← hla] at a1
          rw [← hlb] at b1
          rw [show ((min la lb : Nat) : Int) = min (la : Int) (lb : Int) by omega] at hst
          have HST := Lib.hid (And.intro hst hch)
          clear hy hst hch hla hlb hlL2
          refine wp_region_mix [0, 1, 2, 3, 4, 5, 6, 7, 8, 9, 10, 11] [12] (fun w' => w'.cell? ⟨L.bl, 0, none⟩ = some (.slice L.sl L.n L.cl) ∧ w'.cell? ⟨blk L.sl, ofs L.sl + v, none⟩ = some (.int .i64 (la : Int)) ∧ w'.cell? ⟨blk L.sl, ofs L.sl + w, none⟩ = some (.int .i64 (lb : Int))) (by kernel_rfl) (by kernel_rfl) (by kernel_rfl) ⟨v3, a1, b1⟩ ?_
          repeat (
            refine wpHeads_cons (v := ?_) rfl (Or.inl ⟨by rfl, ?_⟩) ?_
            rotate_left
            · (intro W hW; obtain ⟨q1, q2, q3⟩ := hW; go_simp; try with_reducible rfl)
            simp only [Act.put, List.setIfInBounds_toArray, List.getElem_toArray, List.getElem_cons_zero, List.getElem_cons_succ, List.set_cons_succ, List.set_cons_zero])
          refine wpHeads_nil ?_
          generalize Y.drew = Y1 at *
          refine wpTails_one rfl ?_
          go_wp2_with fail
          refine thenQ_mk ?_
          go_wp2_with fail
          go_roundw
          case rel => exact ⟨j + 1, cnt2, num2, low2.set v (min la lb), hd2, stk2, by omega, by go_num, HST.out⟩
          case measure => simp [intOf]; omega
        · have w1 : (((nth num1 w : Nat) : Int) == 0) = false := by simp; exact h0
          obtain ⟨h1, h2, -⟩ := own_int HI.out.1.hd hlH hwn
          obtain ⟨z, hz⟩ : ∃ z, z = nth hd1 w := ⟨_, rfl⟩
          rw [← hz] at h1
          by_cases hz0 : z < 0
          · have w2 : decide (z < 0) = true := decide_eq_true hz0
            have HBK := Lib.hid (HI.out.2.back HW.out.1 HW.out.2 hwn h0 (by rw [← hz]; exact hz0))
            clear hz hz0 h0
            go_upto_region 10 with fail
            have hy := HI.out.1.below hS0.out ((Below.refl _ _).drew)
            have v2 := hy.stays ⟨hS0.out.xn.2.1, hS0.out.xn.2.2⟩ hS0.out.xn.1
            have v3 := hy.stays ⟨hS0.out.xl.2.1, hS0.out.xl.2.2⟩ hS0.out.xl.1
            clear u2 u3 u6 u7 n1 n2 n3 r1 i1 h1 h2
            obtain ⟨a1, a2, a3⟩ := hy.rdL hlL hv
            obtain ⟨b1, b2, -⟩ := hy.rdN hlN hwn
            have hst := hy.setL hS0.out hlL hv (min (nth low1 v) (nth num1 w))
            have hch := HBK.out
            obtain ⟨la, hla⟩ : ∃ la, la = nth low1 v := ⟨_, rfl⟩
            obtain ⟨lb, hlb⟩ : ∃ lb, lb = nth num1 w := ⟨_, rfl⟩
            rw [← hla, ← hlb] at hst hch
            rw [← hla] at a1
            rw [← hlb] at b1
            rw [show ((min la lb : Nat) : Int) = min (la : Int) (lb : Int) by omega] at hst
            have HST := Lib.hid (And.intro hst hch)
            have HLL := Lib.hid (And.intro hla hlb)
            clear hy hst hch hla hlb HBK
            refine wp_region_mix [0, 1, 2, 3, 4, 5, 6, 7, 8, 9, 10, 11] [12] (fun w' => w'.cell? ⟨L.bl, 0, none⟩ = some (.slice L.sl L.n L.cl) ∧ w'.cell? ⟨L.bn, 0, none⟩ = some (.slice L.sn L.n L.cn) ∧ w'.cell? ⟨blk L.sl, ofs L.sl + v, none⟩ = some (.int .i64 (la : Int)) ∧ w'.cell? ⟨blk L.sn, ofs L.sn + w, none⟩ = some (.int .i64 (lb : Int))) (by kernel_rfl) (by kernel_rfl) (by kernel_rfl) ⟨v3, v2, a1, b1⟩ ?_
            repeat (
              refine wpHeads_cons (v := ?_) rfl (Or.inl ⟨by rfl, ?_⟩) ?_
              rotate_left
              · (intro W hW; obtain ⟨q1, q2, q3, q4⟩ := hW; go_simp; try with_reducible rfl)
              simp only [Act.put, List.setIfInBounds_toArray, List.getElem_toArray, List.getElem_cons_zero, List.getElem_cons_succ, List.set_cons_succ, List.set_cons_zero])
            refine wpHeads_nil ?_
            generalize wr.drew = Y1 at *
            refine wpTails_one rfl ?_
            go_wp2_with fail
            refine thenQ_mk ?_
            go_wp2_with fail
            go_roundw
            case rel => exact ⟨j + 1, cnt1, num1, low1.set v (min la lb), hd1, stk1, by omega, by go_num, HST.out⟩
            case measure => simp [intOf]; omega
          · have w2 : decide (z < 0) = false := decide_eq_false hz0
            have HD := Lib.hid (HI.out.2.done HW.out.1 h0 (by rw [← hz]; omega))
            clear hz hz0 h0
            go_wp2_with fail
            go_roundw
            case rel => exact ⟨j + 1, cnt1, num1, low1, hd1, stk1, by omega, by go_num, HI.out.1, HD.out⟩
            case measure => simp [intOf]; omega
      · obtain rfl : j = row.length := by omega
        obtain ⟨n1, n2, -⟩ := HI.out.1.rdN hlN hv
        obtain ⟨l1, l2, -⟩ := HI.out.1.rdL hlL hv
        have hrowE : ∀ w, Ev L rw v w ↔ w ∈ row := fun w => by rw [HRW.out]; exact ⟨fun h => h.2, fun h => ⟨hv, h⟩⟩
        by_cases hlt : nth low1 v < nth num1 v
        · have w1 : decide (((nth low1 v : Nat) : Int) < ((nth num1 v : Nat) : Int)) = true := decide_eq_true (by omega)
          have w1' : decide (nth low1 v < nth num1 v) = true := decide_eq_true hlt
          have HX := Lib.hid (HI.out.2.exit1 rfl hrowE hlt)
          clear hlt hrowE
          go_upto_region 12 with fail
          go_quiet (fail)
          refine K_gen (fun Y => SeW L cnt1 num1 low1 hd1 stk1 Y) (HI.out.1.below hS0.out (below_drewN (Below.refl _ _) _)) ?_
          intro Y hY
          have HY := Lib.hid hY
          clear hY n1 n2 l1 l2 u2 u3 u6 u7
          go_wp2_with fail
          refine bodyPost_ret (v := .tuple #[]) (results_none rfl _ _ _) rfl ?_
          exact ⟨rfl, cnt1, num1, low1, hd1, stk1, HY.out, HX.out⟩
        · have w1 : decide (((nth low1 v : Nat) : Int) < ((nth num1 v : Nat) : Int)) = false := decide_eq_false (by omega)
          have w1' : decide (nth low1 v < nth num1 v) = false := decide_eq_false hlt
          have hnd := HI.out.2.inv.nd
          have hsl1 := HI.out.2.inv.slen
          obtain ⟨ext, hext, -⟩ := HI.out.2.ext
          have HE := Lib.hid (And.intro hlt (And.intro hrowE (And.intro hnd hext)))
          clear hlt hrowE hnd hext
          go_upto_region 12 with fail
          go_quiet (fail)
          refine K_gen (fun Y => SeW L cnt1 num1 low1 hd1 stk1 Y) (HI.out.1.below hS0.out (below_drewN (Below.refl _ _) _)) ?_
          intro Y hY
          have HY := Lib.hid hY
          clear n1 n2 l1 l2 u2 u3 u6 u7
          obtain ⟨sv, t1, t2⟩ := hY.stk.ex
          obtain ⟨s2, c2, rfl⟩ := t2.shape (n := stk1.length) (by rw [castL_len])
          have HT2 := Lib.hid t2
          clear hY t2
          have hel : stk1.length = stk.length + (ext.length + 1) := by rw [HE.out.2.2.2, List.length_append]; rfl
          have hdrop : (castL stk1).drop stk.length = castL (v :: ext) := by
            rw [HE.out.2.2.2]; unfold castL; rw [List.map_append, List.drop_append_of_le_length (by rw [List.length_map]; exact Nat.le_refl _), List.drop_eq_nil_of_le (by rw [List.length_map]; exact Nat.le_refl _)]; rfl
          obtain ⟨ca, cc, hcut, hcb, hci⟩ := HT2.out.cutRest sIntG (k := stk.length) (by rw [castL_len]; omega)
          rw [castL_len, show stk1.length - stk.length = ext.length + 1 by omega] at hcut hci
          rw [hdrop] at hci
          obtain ⟨el, hee⟩ : ∃ el, el = ext.length + 1 := ⟨_, rfl⟩
          rw [← hee] at hcut hci
          have hel8 : el ≤ 8192 := by omega
          have HEE := Lib.hid hee
          clear hee
          obtain ⟨ta, tc, hcut2, hown2⟩ := HT2.out.cutBoth sIntG (k := stk.length) (by rw [castL_len]; omega)
          have htake : (castL stk1).take stk.length = castL stk := by
            rw [HE.out.2.2.2]; unfold castL; rw [List.map_append, List.take_append_of_le_length (by rw [List.length_map]; exact Nat.le_refl _), List.take_of_length_le (by rw [List.length_map]; exact Nat.le_refl _)]
          have HCU := Lib.hid (And.intro hcb (And.intro hci (And.intro hown2 htake)))
          have hcut9 := hcut .i64
          have hcut8 := hcut2 .i64
          have HEL := Lib.hid hel
          clear hcut hcut2 hcb hci hown2 htake hdrop hel
          go_wp2_with fail
          refine (sIndex_any _ (castL stk1) (v : Int) Y HT2.out.lst).mono ?_
          rintro e Y2 ⟨⟨i, rfl, hi⟩, rfl⟩
          have hip : i = (stk.length : Int) := by
            rcases hi with ⟨-, hno⟩ | ⟨q, rfl, hq, hqv⟩
            · exact absurd (List.mem_map.2 ⟨v, by rw [HE.out.2.2.2]; simp, rfl⟩) hno
            · rw [castL_len] at hq
              rw [castL_nth hq] at hqv
              have h1 : nth stk1 q = v := by omega
              have h2 : nth stk1 stk.length = v := by rw [HE.out.2.2.2, nth_append, if_neg (Nat.lt_irrefl _), Nat.sub_self]; rfl
              have h3 := congrArg stk1.idxOf (h1.trans h2.symm)
              rw [nth_eq _ _ hq, nth_eq _ _ (show stk.length < stk1.length by have := HEL.out; omega), HE.out.2.2.1.idxOf_getElem, HE.out.2.2.1.idxOf_getElem] at h3
              omega
          subst hip
          clear hi
          go_wp2_with fail
          refine (sMin_any _ (castL (v :: ext)) Y2 (HCU.out.2.1 Y2 HT2.out) (by rw [castL_len]; exact Nat.succ_pos _)).mono ?_
          rintro e Y3 ⟨⟨mi, rfl, hm1, hm2⟩, rfl⟩
          obtain ⟨m, hm, rfl⟩ := List.mem_map.1 hm1
          have hmin : ∀ x ∈ v :: ext, m ≤ x := fun x hx => by
            have := hm2 _ (List.mem_map.2 ⟨x, hx, rfl⟩); omega
          have HMM := Lib.hid (And.intro hm hmin)
          clear hm1 hm2 hm hmin
          go_wp2_with fail
          clear hcut9
          go_loopw [96] (fun x wr => ∃ (t : Nat) (hd2 : List Int), t ≤ el ∧ x = .int .i64 (t : Int) ∧ Hid (SeW L cnt1 num1 low1 hd2 stk1 wr ∧ wr.cell? ⟨L.bs, 0, none⟩ = some (.slice s2 stk1.length c2) ∧ hd2.length = L.n ∧ ∀ x, x < L.n → nth hd2 x = if x ∈ (v :: ext).take t then (m : Int) else nth hd1 x)) (fun x _ => el - (intOf x).toNat)
          case atStart => exact ⟨0, hd1, by omega, rfl, HY.out, t1, hlH, fun x _ => by simp⟩
          case round =>
            obtain ⟨t, hd2, ht, rfl, hh⟩ := hrel
            have HK := Lib.hid hh.out
            clear hh t1
            have g1 := HK.out.2.1
            obtain ⟨v0, g2, g3⟩ := HK.out.1.stk.ex
            obtain rfl : v0 = .slice s2 stk1.length c2 := Option.some.inj (g2.symm.trans g1)
            have HG3 := Lib.hid g3
            clear g2 g3
            have u7 := HK.out.1.stays ⟨hS0.out.xh.2.1, hS0.out.xh.2.2⟩ hS0.out.xh.1
            by_cases htl : t < el
            · have htl' : (t : Int) < (el : Int) := by omega
              obtain ⟨w, hw⟩ : ∃ w, w = nth (v :: ext) t := ⟨_, rfl⟩
              have htc : t < (v :: ext).length := by rw [List.length_cons]; have := HEE.out; omega
              have hwm : w ∈ v :: ext := by rw [hw]; exact nth_mem _ _ htc
              have hwn : w < L.n := HI.out.2.inv.lt (by rw [HE.out.2.2.2]; exact List.mem_append_right _ hwm)
              obtain ⟨ca', cc', he, hcm, hcx, hcl, -⟩ := (HCU.out.2.1 wr HG3.out).out1 sIntG
              have hlc : (castL (v :: ext)).length = el := by rw [castL_len, List.length_cons]; exact HEE.out.symm
              rw [hlc] at he hcm hcx hcl
              simp only [Value.slice.injEq] at he
              obtain ⟨rfl, -, rfl⟩ := he
              have r1 := hcl t htl
              rw [castL_nth htc, ← hw] at r1
              have i1 := hcx .i64 (t : Int) (by omega) (by omega)
              rw [Int.toNat_natCast] at i1
              obtain ⟨h1, h2, h3⟩ := own_int HK.out.1.hd HK.out.2.2.1 hwn
              have hst := HK.out.1.setH hS0.out HK.out.2.2.1 hwn (m : Int)
              have hbs : (wr.setCell ⟨blk L.sh, ofs L.sh + w, none⟩ (.int .i64 (m : Int))).cell? ⟨L.bs, 0, none⟩ = some (.slice s2 stk1.length c2) :=
                kCell ⟨hS0.out.ks.1, hS0.out.ks.2.1⟩ g1 (grownBy_setCell _ _ _) (fun q e _ e2 => by
                  have e3 := Option.some.inj e
                  have e4 := (hS0.out.kh _ (own_blk HK.out.1.hd HK.out.2.2.1 (by omega))).1
                  dsimp only at e3
                  rw [e3] at e4
                  omega)
              have hnew : ∀ x, x < L.n → nth (hd2.set w (m : Int)) x = if x ∈ (v :: ext).take (t + 1) then (m : Int) else nth hd1 x := fun x hx => by
                rw [nth_set, HK.out.2.2.1, take_snoc _ _ htc, ← hw, HK.out.2.2.2 x hx]
                by_cases e : w = x
                · subst e; rw [if_pos ⟨rfl, hx⟩, if_pos (by simp)]
                · rw [if_neg fun h => e h.1]
                  have : x ∈ (v :: ext).take t ++ [w] ↔ x ∈ (v :: ext).take t := by
                    rw [List.mem_append, List.mem_singleton]
                    exact ⟨fun h => h.resolve_right fun e2 => e e2.symm, .inl⟩
                  by_cases h9 : x ∈ (v :: ext).take t
                  · rw [if_pos h9, if_pos (this.2 h9)]
                  · rw [if_neg h9, if_neg fun h => h9 (this.1 h)]
              have HST := Lib.hid (And.intro hst (And.intro hbs (And.intro (show (hd2.set w (m : Int)).length = L.n by rw [List.length_set]; exact HK.out.2.2.1) hnew)))
              clear hw hwm hlc hcm hcx hcl hst hbs hnew g1
              go_wp2_with fail
              go_roundw
              case rel => exact ⟨t + 1, hd2.set w (m : Int), by omega, by go_num, HST.out⟩
              case measure => simp [intOf]; omega
            · obtain rfl : t = el := by omega
              have f1 := HK.out.1.stk.frz
              have hown := HCU.out.2.2.1 wr HG3.out
              rw [HCU.out.2.2.2] at hown
              have hbox := HK.out.1.box hS0.out hown
              have hte : (v :: ext).take t = v :: ext := List.take_of_length_le (by rw [List.length_cons]; have := HEE.out; omega)
              have hfin := HI.out.2.exit2 (fun a b hab => HR.out.lt a hab.1 b hab.2) rfl HE.out.2.1 HE.out.1 HE.out.2.2.2 HMM.out.1 HMM.out.2 HK.out.2.2.1 (fun x hx => by rw [HK.out.2.2.2 x hx, hte])
              have HF := Lib.hid (And.intro hbox hfin)
              clear hown hbox hte hfin htl ht
              go_wp2_with fail
              refine bodyPost_ret (v := .tuple #[]) (results_none rfl _ _ _) rfl ?_
              exact ⟨rfl, cnt1, num1, low1, hd2, stk, HF.out⟩
end Go.Proofs.Ytchmjgjagaaomaa
