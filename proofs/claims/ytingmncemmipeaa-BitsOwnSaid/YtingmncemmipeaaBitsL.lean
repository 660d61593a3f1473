/- BitsTells: for any sets and any number, every question of package bits is answered as by the lists of the elements. Conditions: none. (With it: 'awake'; the opening of a set among the arguments.) -/
import Derived.Test.YtingmncemmipeaaBitsF
import Derived.Test.YtingmncemmipeaaBitsG
import Derived.Test.YtingmncemmipeaaOpen
namespace Go.Proofs.Ytingmncemmipeaa
open Go.ChangeShapes Go.WideShapes Go.ChangeAt Go.RowKit Go.Deep Go.Dfl

theorem own : ownKnob Try.prog.godebug = none := by kernel_rfl
theorem laidOut : laidOutB Try.prog = true := by kernel_rfl
def TruePost (w : World) (e : Ending) (w' : World) : Prop := e = .returned (.bool true) ∧ Below w.heap.size w w'

theorem words_of_trod {H : Type} {enc : TypeId × Value → H} {P : Program} {w : World} {base : Nat} {spare : Nat → Bool} {held : Bool} {t e : TypeId} (ht : P.underlying t = some (.slice e)) (he : P.underlying e = some (.int .u64)) (hc : P.cellsOf e = 1)
    {a : Option Addr} {len cap : Nat} {d : DataW H} {p : List MemPlace} (h : DataW.Trod enc P w base spare held t (.slice a len cap) d p) : ∃ l, l.length = len ∧ Words w (.slice a len cap) l ∧ Wds l := by
  obtain ⟨fuel, hf⟩ := h
  rcases open_ints ht he hc hf with ⟨hcs, _⟩ | ⟨x, l, c, zs, hcs, _, hl, hm, hz, _, hcell, hwz⟩
  · simp [Value.cells] at hcs
    obtain ⟨rfl, rfl, rfl⟩ := hcs
    exact ⟨[], rfl, Lst.nil _ _, fun i => by rw [nth_out _ _ (by simp)]; exact W64.zero⟩
  · simp [Value.cells] at hcs
    obtain ⟨rfl, rfl, rfl⟩ := hcs
    have hlz : len ≤ zs.length := by rw [hz]; split <;> omega
    have hnn : ∀ y ∈ zs, 0 ≤ y ∧ y < 18446744073709551616 := fun y hy => by
      have := bounds_u64 (hwz y hy); omega
    have hnth : ∀ i, i < len → nth ((zs.take len).map Int.toNat) i = (zs.getD i 0).toNat := fun i hi => by
      simp [nth, List.getElem?_take, hi, show i < zs.length by omega]
    refine ⟨(zs.take len).map Int.toNat, by simp; omega, ⟨some x, cap, ?_, ?_, hm, fun i hi => ?_⟩, fun i => ?_⟩
    · simp; omega
    · simp; omega
    · simp at hi
      have h0 := hcell 0 (by omega)
      have hsp : x.spot = none := add_spot rfl h0
      have hi' := hcell i (by omega)
      rw [addr_none hsp] at hi'
      refine ⟨?_, (cell_lt hi').1, fun j hj => ?_⟩
      · obtain ⟨b, o, s⟩ := x; simp at hsp; subst hsp; rfl
      · obtain rfl : j = 0 := by omega
        simp only [blk, ofs, Nat.mul_one, Nat.add_zero]
        rw [hi', hnth i (by omega)]
        have := hnn (zs.getD i 0) (by simp [show i < zs.length by omega])
        unfold wv
        rw [Int.toNat_of_nonneg this.1]
    · by_cases hi : i < len
      · rw [hnth i hi]
        have := hnn (zs.getD i 0) (by simp [show i < zs.length by omega])
        unfold W64; omega
      · rw [nth_out _ _ (by simp; omega)]; exact W64.zero

theorem lit_ints (w : World) (t : TypeId) : Ints (w.alloc (.cells #[.int .i64 64, .int .i64 1, .int .i64 64] t)) (.slice (some ⟨w.heap.size, 0, none⟩) 3 3) [64, 1, 64] := by
  refine ⟨some ⟨w.heap.size, 0, none⟩, 3, rfl, by simp, by unfold maxLen; omega, fun i hi => ⟨rfl, by simp [blk], fun j hj => ?_⟩⟩
  have hc : ∀ o, (w.alloc (.cells #[.int .i64 64, .int .i64 1, .int .i64 64] t)).cell? ⟨w.heap.size, o, none⟩ = #[Value.int .i64 64, .int .i64 1, .int .i64 64][o]? := fun o => by
    unfold World.cell?
    rw [heap_alloc_new]
    rfl
  simp only [blk, ofs, hc]
  obtain rfl : j = 0 := by omega
  simp at hi
  rcases (by omega : i = 0 ∨ i = 1 ∨ i = 2) with rfl | rfl | rfl <;> rfl

theorem awake_set {r : List Nat} (hw : Wds r) (hn : Norm r) (h : ∀ y, hasN r y = decide ((y : Int) ∈ [(64 : Int), 1, 64])) : r = [2, 1] := by
  refine norm_ext hw ?_ hn (.inr (by decide)) fun x => ?_
  · intro i
    match i with
    | 0 => exact show 2 < _ by decide
    | 1 => exact show 1 < _ by decide
    | i+2 => rw [nth_out _ _ (by simp)]; exact W64.zero
  · rw [h]
    by_cases hx : x < 128
    · have : ∀ x : Nat, x < 128 → decide ((x : Int) ∈ [(64 : Int), 1, 64]) = hasN [2, 1] x := by decide
      exact this x hx
    · rw [hasN_out _ _ (by simp; omega)]
      simp; omega

set_option maxHeartbeats 800000 in
theorem awake_any (w : World) : Calls Try.prog 10 #[] w (TruePost w) := by
  go_enter Try.func10, Try.ntmps10
  go_wp2_with fail
  refine (Of_any _ [64, 1, 64] _ (lit_ints _ _)).mono ?_
  rintro e w1 (⟨hbad, -⟩ | ⟨-, v, r, rfl, hF, hW, hN, -, hp, hb⟩)
  · exact absurd hbad (by decide)
  · obtain rfl := awake_set hW hN hp
    have hI := hF.1
    obtain ⟨s, cap, rfl, hm, hidx, hcell, _⟩ := hF.1.out1 sBits
    have c0 := hcell 0 (by simp)
    have c1 := hcell 1 (by simp)
    have i0 := hidx .i64 0 (by omega) (by simp)
    have i1 := hidx .i64 1 (by omega) (by simp)
    have hb0 : Below w.heap.size w w1 := ((Below.refl _ _).alloc (Nat.le_refl _) _).trans (hb.mono (by simp))
    have e1 : (els [2, 1]).length = 2 := by decide
    have e2 : nextI [2, 1] 2 = 64 := by decide
    have HW := Lib.hid hW
    simp only [wv, show nth [2, 1] 0 = 2 from rfl, show nth [2, 1] 1 = 1 from rfl, Nat.add_zero] at c0 c1
    simp at i0 i1
    clear hF hW hN hp hidx hcell hb
    go_wp2_with fail
    refine (Count_any _ [2, 1] _ hI HW.out (by simp)).mono ?_; rintro e w' ⟨rfl, n1, rfl⟩
    go_wp2_with fail
    refine (Next_any _ [2, 1] 2 _ (hI.qt (by first | exact Qt.refl _ | exact Qt.drewN _ _ | exact (Qt.drewN _ _).trans (Qt.drewN _ _) | exact ((Qt.drewN _ _).trans (Qt.drewN _ _)).trans (Qt.drewN _ _) | exact Qt.drew _ | exact (Qt.drewN _ _).trans (Qt.drew _))) HW.out (by simp) (by omega)).mono ?_; rintro e w' ⟨rfl, n2, rfl⟩
    go_wp2_with fail
    go_ret
    exact ⟨rfl, below_drewN hb0 _⟩


theorem same_els {b c : List Nat} : (withinB b c && withinB c b) = decide (els b = els c) := by
  rw [Bool.eq_iff_iff, Bool.and_eq_true, within_iff, within_iff, decide_eq_true_eq]
  constructor
  · rintro ⟨h1, h2⟩
    refine Asc.ext (els_asc b) (els_asc c) fun x => ?_
    simp only [mem_els]
    constructor
    · rintro ⟨m, e, hm⟩; exact ⟨m, e, h1 m hm⟩
    · rintro ⟨m, e, hm⟩; exact ⟨m, e, h2 m hm⟩
  · intro h
    have : ∀ x, hasN b x = hasN c x := fun x => by rw [hasN_of_els h x, ← hasN_of_els rfl x]
    exact ⟨fun x hx => by rw [← this]; exact hx, fun x hx => by rw [this]; exact hx⟩


set_option maxHeartbeats 3200000 in
set_option maxRecDepth 100000 in
theorem BitsTells_walk (v : Value) (a : List Nat) (u : Value) (b : List Nat) (x : Int) (w : World) (hA : Words w v a) (ha : Wds a) (hB : Words w u b) (hb : Wds b) (hx : -9223372036854775808 ≤ x ∧ x ≤ 9223372036854775807) :
    Calls Try.prog 8 #[v, u, .int .i64 x] w (TruePost w) := by
  obtain ⟨pa, ca, rfl, hm, -⟩ := hA.out1 sBits
  obtain ⟨pb, cb, rfl, hm', -⟩ := hB.out1 sBits
  have HX := Lib.hid (And.intro ha (And.intro hb hx.2))
  clear ha hb hx
  by_cases hl1 : 1100 < a.length
  · go_enter Try.func8, Try.ntmps8
    go_wp2_with fail
    refine (awake_any _).mono ?_; rintro e w5 ⟨rfl, b5⟩
    go_wp2_with fail
    go_ret
    exact ⟨rfl, b5⟩
  have hd1 : decide (1100 < a.length) = false := by simpa using hl1
  by_cases hl2 : 1100 < b.length
  · go_enter Try.func8, Try.ntmps8
    go_wp2_with fail
    refine (awake_any _).mono ?_; rintro e w5 ⟨rfl, b5⟩
    go_wp2_with fail
    go_ret
    exact ⟨rfl, b5⟩
  have hd2 : decide (1100 < b.length) = false := by simpa using hl2
  have h0 : Below w.heap.size w w := Below.refl _ _
  have es := same_els (b := a) (c := b)
  have HS := Lib.hid es
  clear es
  have hca : (chkB a == 0) = bokB a ∧ ((chkB a != 4) = false ∨ bokB a = true) := by
    unfold chkB; cases bokB a <;> simp
  cases hbk : bokB a
  · rw [hbk] at hca
    have g1 : (chkB a == 0) = false := hca.1
    have g2 : (chkB a != 4) = false := by rcases hca.2 with e | e; exact e; simp at e
    clear hca
    go_enter Try.func8, Try.ntmps8
    go_wp2_with fail
    refine (Check_any _ a _ (hA.below h0) HX.out.1).mono ?_; rintro e W1 ⟨rfl, q1⟩
    have h1 : Below w.heap.size w W1 := h0.trans (q1.below _)
    clear q1
    go_wp2_with fail
    refine (Valid_any _ a _ (hA.below h1) HX.out.1 (by omega)).mono ?_; rintro e W2 ⟨rfl, q2⟩
    have h2 : Below w.heap.size w W2 := h1.trans (q2.mono h1.size)
    clear q2
    go_wp2_with fail
    refine (Valid_any _ a _ (hA.below h2) HX.out.1 (by omega)).mono ?_; rintro e W3 ⟨rfl, q3⟩
    have h3 : Below w.heap.size w W3 := h2.trans (q3.mono h2.size)
    clear q3
    go_wp2_with fail
    refine (Check_any _ a _ (hA.below h3) HX.out.1).mono ?_; rintro e W4 ⟨rfl, q4⟩
    have h4 : Below w.heap.size w W4 := h3.trans (q4.below _)
    clear q4
    go_wp2_with fail
    refine (List_any _ a _ (hA.below h4) HX.out.1 (by omega)).mono ?_; rintro e W5 ⟨v5, rfl, o5, q5⟩
    have h5 : Below w.heap.size w W5 := h4.trans (q5.mono h4.size)
    obtain ⟨s5, c5, rfl⟩ := o5.shape rfl
    go_wp2_with fail
    refine (RList_any _ a _ (hA.below h5) HX.out.1 (by omega)).mono ?_; rintro e W6 ⟨v6, rfl, o6, q6⟩
    have h6 : Below w.heap.size w W6 := h5.trans (q6.mono h5.size)
    obtain ⟨s6, c6, rfl⟩ := o6.shape rfl
    have el : decide (els a = els a) = true := by simp
    go_wp2_with fail
    refine (EqualInts_any _ _ (els a) (els a) _ (o5.below q6).lst o6.lst).mono ?_; rintro e W7 ⟨rfl, q7⟩
    have h7 : Below w.heap.size w W7 := h6.trans (q7.below _)
    clear q7
    clear o5 o6 q5 q6
    go_wp2_with fail
    refine (Has_any _ a x _ (hA.below h7) HX.out.1 HX.out.2.2).mono ?_; rintro e W8 ⟨rfl, q8⟩
    have h8 : Below w.heap.size w W8 := h7.trans (q8.below _)
    clear q8
    go_wp2_with fail
    refine (RHas_any _ a x _ (hA.below h8) HX.out.1 (by omega)).mono ?_; rintro e W9 ⟨rfl, q9⟩
    have h9 : Below w.heap.size w W9 := h8.trans (q9.mono h8.size)
    clear q9
    go_wp2_with fail
    refine (Count_any _ a _ (hA.below h9) HX.out.1 (by omega)).mono ?_; rintro e W10 ⟨rfl, q10⟩
    have h10 : Below w.heap.size w W10 := h9.trans (q10.below _)
    clear q10
    go_wp2_with fail
    refine (RList_any _ a _ (hA.below h10) HX.out.1 (by omega)).mono ?_; rintro e W11 ⟨v11, rfl, o11, q11⟩
    have h11 : Below w.heap.size w W11 := h10.trans (q11.mono h10.size)
    obtain ⟨s11, c11, rfl⟩ := o11.shape rfl
    clear o11 q11
    go_wp2_with fail
    refine (Next_any _ a x _ (hA.below h11) HX.out.1 (by omega) HX.out.2.2).mono ?_; rintro e W12 ⟨rfl, q12⟩
    have h12 : Below w.heap.size w W12 := h11.trans (q12.below _)
    clear q12
    go_wp2_with fail
    refine (RNext_any _ a x _ (hA.below h12) HX.out.1 (by omega)).mono ?_; rintro e W13 ⟨rfl, q13⟩
    have h13 : Below w.heap.size w W13 := h12.trans (q13.mono h12.size)
    clear q13
    go_wp2_with fail
    refine (Within_any _ _ a b _ (hA.below h13) (hB.below h13) HX.out.1 HX.out.2.1).mono ?_; rintro e W14 ⟨rfl, q14⟩
    have h14 : Below w.heap.size w W14 := h13.trans (q14.below _)
    clear q14
    go_wp2_with fail
    refine (RWithin_any _ _ a b _ (hA.below h14) (hB.below h14) HX.out.1 HX.out.2.1 (by omega) (by omega)).mono ?_; rintro e W15 ⟨rfl, q15⟩
    have h15 : Below w.heap.size w W15 := h14.trans (q15.mono h14.size)
    clear q15
    go_wp2_with fail
    refine (Same_any _ _ a b _ (hA.below h15) (hB.below h15) HX.out.1 HX.out.2.1).mono ?_; rintro e W16 ⟨rfl, q16⟩
    have h16 : Below w.heap.size w W16 := h15.trans (q16.below _)
    clear q16
    go_wp2_with fail
    refine (RList_any _ a _ (hA.below h16) HX.out.1 (by omega)).mono ?_; rintro e W17 ⟨v17, rfl, o17, q17⟩
    have h17 : Below w.heap.size w W17 := h16.trans (q17.mono h16.size)
    obtain ⟨s17, c17, rfl⟩ := o17.shape rfl
    go_wp2_with fail
    refine (RList_any _ b _ (hB.below h17) HX.out.2.1 (by omega)).mono ?_; rintro e W18 ⟨v18, rfl, o18, q18⟩
    have h18 : Below w.heap.size w W18 := h17.trans (q18.mono h17.size)
    obtain ⟨s18, c18, rfl⟩ := o18.shape rfl
    go_wp2_with fail
    refine (EqualInts_any _ _ (els a) (els b) _ (o17.below q18).lst o18.lst).mono ?_; rintro e W19 ⟨rfl, q19⟩
    have h19 : Below w.heap.size w W19 := h18.trans (q19.below _)
    clear q19
    clear o17 o18 q17 q18
    have es : (withinB a b && withinB b a) = decide (els a = els b) := HS.out
    generalize (withinB a b && withinB b a) = tt at *
    subst es
    go_wp2_with fail
    refine (awake_any _).mono ?_; rintro e w5 ⟨rfl, b5⟩
    go_wp2_with fail
    go_ret
    exact ⟨rfl, h19.trans (b5.mono h19.size)⟩
  · rw [hbk] at hca
    have g1 : (chkB a == 0) = true := hca.1
    clear hca
    go_enter Try.func8, Try.ntmps8
    go_wp2_with fail
    refine (Check_any _ a _ (hA.below h0) HX.out.1).mono ?_; rintro e W1 ⟨rfl, q1⟩
    have h1 : Below w.heap.size w W1 := h0.trans (q1.below _)
    clear q1
    go_wp2_with fail
    refine (Valid_any _ a _ (hA.below h1) HX.out.1 (by omega)).mono ?_; rintro e W2 ⟨rfl, q2⟩
    have h2 : Below w.heap.size w W2 := h1.trans (q2.mono h1.size)
    clear q2
    go_wp2_with fail
    refine (Valid_any _ a _ (hA.below h2) HX.out.1 (by omega)).mono ?_; rintro e W3 ⟨rfl, q3⟩
    have h3 : Below w.heap.size w W3 := h2.trans (q3.mono h2.size)
    clear q3
    go_wp2_with fail
    refine (List_any _ a _ (hA.below h3) HX.out.1 (by omega)).mono ?_; rintro e W5 ⟨v5, rfl, o5, q5⟩
    have h5 : Below w.heap.size w W5 := h3.trans (q5.mono h3.size)
    obtain ⟨s5, c5, rfl⟩ := o5.shape rfl
    go_wp2_with fail
    refine (RList_any _ a _ (hA.below h5) HX.out.1 (by omega)).mono ?_; rintro e W6 ⟨v6, rfl, o6, q6⟩
    have h6 : Below w.heap.size w W6 := h5.trans (q6.mono h5.size)
    obtain ⟨s6, c6, rfl⟩ := o6.shape rfl
    have el : decide (els a = els a) = true := by simp
    go_wp2_with fail
    refine (EqualInts_any _ _ (els a) (els a) _ (o5.below q6).lst o6.lst).mono ?_; rintro e W7 ⟨rfl, q7⟩
    have h7 : Below w.heap.size w W7 := h6.trans (q7.below _)
    clear q7
    clear o5 o6 q5 q6
    go_wp2_with fail
    refine (Has_any _ a x _ (hA.below h7) HX.out.1 HX.out.2.2).mono ?_; rintro e W8 ⟨rfl, q8⟩
    have h8 : Below w.heap.size w W8 := h7.trans (q8.below _)
    clear q8
    go_wp2_with fail
    refine (RHas_any _ a x _ (hA.below h8) HX.out.1 (by omega)).mono ?_; rintro e W9 ⟨rfl, q9⟩
    have h9 : Below w.heap.size w W9 := h8.trans (q9.mono h8.size)
    clear q9
    go_wp2_with fail
    refine (Count_any _ a _ (hA.below h9) HX.out.1 (by omega)).mono ?_; rintro e W10 ⟨rfl, q10⟩
    have h10 : Below w.heap.size w W10 := h9.trans (q10.below _)
    clear q10
    go_wp2_with fail
    refine (RList_any _ a _ (hA.below h10) HX.out.1 (by omega)).mono ?_; rintro e W11 ⟨v11, rfl, o11, q11⟩
    have h11 : Below w.heap.size w W11 := h10.trans (q11.mono h10.size)
    obtain ⟨s11, c11, rfl⟩ := o11.shape rfl
    clear o11 q11
    go_wp2_with fail
    refine (Next_any _ a x _ (hA.below h11) HX.out.1 (by omega) HX.out.2.2).mono ?_; rintro e W12 ⟨rfl, q12⟩
    have h12 : Below w.heap.size w W12 := h11.trans (q12.below _)
    clear q12
    go_wp2_with fail
    refine (RNext_any _ a x _ (hA.below h12) HX.out.1 (by omega)).mono ?_; rintro e W13 ⟨rfl, q13⟩
    have h13 : Below w.heap.size w W13 := h12.trans (q13.mono h12.size)
    clear q13
    go_wp2_with fail
    refine (Within_any _ _ a b _ (hA.below h13) (hB.below h13) HX.out.1 HX.out.2.1).mono ?_; rintro e W14 ⟨rfl, q14⟩
    have h14 : Below w.heap.size w W14 := h13.trans (q14.below _)
    clear q14
    go_wp2_with fail
    refine (RWithin_any _ _ a b _ (hA.below h14) (hB.below h14) HX.out.1 HX.out.2.1 (by omega) (by omega)).mono ?_; rintro e W15 ⟨rfl, q15⟩
    have h15 : Below w.heap.size w W15 := h14.trans (q15.mono h14.size)
    clear q15
    go_wp2_with fail
    refine (Same_any _ _ a b _ (hA.below h15) (hB.below h15) HX.out.1 HX.out.2.1).mono ?_; rintro e W16 ⟨rfl, q16⟩
    have h16 : Below w.heap.size w W16 := h15.trans (q16.below _)
    clear q16
    go_wp2_with fail
    refine (RList_any _ a _ (hA.below h16) HX.out.1 (by omega)).mono ?_; rintro e W17 ⟨v17, rfl, o17, q17⟩
    have h17 : Below w.heap.size w W17 := h16.trans (q17.mono h16.size)
    obtain ⟨s17, c17, rfl⟩ := o17.shape rfl
    go_wp2_with fail
    refine (RList_any _ b _ (hB.below h17) HX.out.2.1 (by omega)).mono ?_; rintro e W18 ⟨v18, rfl, o18, q18⟩
    have h18 : Below w.heap.size w W18 := h17.trans (q18.mono h17.size)
    obtain ⟨s18, c18, rfl⟩ := o18.shape rfl
    go_wp2_with fail
    refine (EqualInts_any _ _ (els a) (els b) _ (o17.below q18).lst o18.lst).mono ?_; rintro e W19 ⟨rfl, q19⟩
    have h19 : Below w.heap.size w W19 := h18.trans (q19.below _)
    clear q19
    clear o17 o18 q17 q18
    have es : (withinB a b && withinB b a) = decide (els a = els b) := HS.out
    generalize (withinB a b && withinB b a) = tt at *
    subst es
    go_wp2_with fail
    refine (awake_any _).mono ?_; rintro e w5 ⟨rfl, b5⟩
    go_wp2_with fail
    go_ret
    exact ⟨rfl, h19.trans (b5.mono h19.size)⟩

set_option maxRecDepth 100000 in
theorem BitsTells_lifted (os : Os) (started : os.Started) (H : Type) (enc : TypeId × Value → H) :
    ReturnsInHanded {} Try.checked os 8 .any (Rows.bitsTellsSpec.pre6 enc Try.prog Try.f8 Rows.bitsTellsRow.domain false) (Rows.bitsTellsSpec.post enc Try.prog Try.f8 false true false false) := by
  refine returnsInHanded_of_change (C := Try.checked) own started (by kernel_rfl) Try.func8
    (ChangeSpec.witness6 (enc := enc) (C := Try.checked) false ⟨#[], #[.slice none 0 0, .slice none 0 0, .int .i64 0], []⟩ 8 (by kernel_rfl) (by kernel_rfl) (by kernel_rfl) (by kernel_rfl)) ?_
  intro W base args ds gs before hval0 hW hcnd _
  have hval : ∀ (j : Nat) t v, Try.f8.params[j]? = some t → args[j]? = some v → Value.okWide Try.prog W .any base t v := hval0
  have hW' := hW
  obtain ⟨p, q, hA0, hV, rfl, hfz, hnd⟩ := hW
  have hA : DataW.TrodAll enc Try.prog W 0 (fun _ => true) true Try.f8.params.toList args.toList ds p := hA0
  rw [Try.params8] at hA hval
  obtain ⟨v0, vs0, d0, ds0, p0, q0, hargs, rfl, rfl, h0, r0⟩ := trodAll_cons hA
  obtain ⟨v1, vs1, d1, ds1, p1, q1, rfl, rfl, rfl, h1, r1⟩ := trodAll_cons r0
  obtain ⟨v2, vs2, d2, ds2, p2, q2, rfl, rfl, rfl, h2, r2⟩ := trodAll_cons r1
  obtain ⟨rfl, rfl, rfl⟩ := trodAll_nil r2
  obtain rfl : args = #[v0, v1, v2] := by cases args; simp_all
  obtain ⟨rfl, rfl⟩ := trodVars_none hV
  obtain ⟨a0, len0, cap0, rfl⟩ := okWide_slice Try.underlying26 (hval 0 26 v0 rfl rfl)
  have k0 := h0
  have lt0 : ∀ x ∈ p0, x.block < W.heap.size := by obtain ⟨m, hm⟩ := k0; exact DataW.trod_lt m _ _ _ hm
  obtain ⟨l0, hl0, hI0, b0⟩ := words_of_trod Try.underlying26 Try.underlying54 (by kernel_rfl) h0
  obtain ⟨a1, len1, cap1, rfl⟩ := okWide_slice Try.underlying26 (hval 1 26 v1 rfl rfl)
  have k1 := h1
  have lt1 : ∀ x ∈ p1, x.block < W.heap.size := by obtain ⟨m, hm⟩ := k1; exact DataW.trod_lt m _ _ _ hm
  obtain ⟨l1, hl1, hI1, b1⟩ := words_of_trod Try.underlying26 Try.underlying54 (by kernel_rfl) h1
  obtain ⟨a2, rfl, rfl, rfl, w2⟩ := open_int Try.underlying3 (hval 2 3 v2 rfl rfl) h2
  have b2 := bounds_i64 w2
  clear hA0 hval0
  refine (BitsTells_walk _ l0 _ l1 a2 W hI0 b0 hI1 b1 b2).mono fun e W' ⟨he, bel⟩ => ?_
  subst he
  exact ⟨_, rfl, _, _, _, [], _, [], hW', trodAll_mk1 (shut_bool Try.underlying4 _), (trodAll_cons_mk (Below.trod laidOut (by kernel_rfl) (of_decide_eq_true (by kernel_rfl)) k0 bel lt0) (trodAll_cons_mk (Below.trod laidOut (by kernel_rfl) (of_decide_eq_true (by kernel_rfl)) k1 bel lt1) (trodAll_cons_mk (shut_int Try.underlying3 w2) trodAll_mk0))), rfl, bel.frame _, fun h => by cases h⟩

/-- The given statement. -/
theorem BitsTells_holds : Rows.BitsTellsSaid :=
  OpenClaim.holds_of_wide 8 Try.f8 rfl rfl rfl rfl rfl rfl rfl ⟨rfl, rfl, rfl, rfl, rfl⟩ rfl rfl rfl rfl rfl (by kernel_rfl) Try.func8 (by kernel_rfl)
    (of_decide_eq_true (by kernel_rfl)) (by unfold Func.isWrapper; first | (rw [if_pos (by decide +kernel)]; kernel_rfl) | (rw [if_neg (by decide +kernel)]; exact ⟨rfl, rfl⟩))
    (fun os started H enc _ => BitsTells_lifted os started H enc)

end Go.Proofs.Ytingmncemmipeaa
