/- BitsAlgebra: for any three sets, the laws of the algebra of sets hold between the results of package bits. Conditions: none. -/
import Derived.Test.YtingmncemmipeaaBitsL
namespace Go.Proofs.Ytingmncemmipeaa
open Go.ChangeShapes Go.WideShapes Go.ChangeAt Go.RowKit Go.Deep Go.Dfl

/-- A value that reads as a set. -/
def IsSet (w : World) (v : Value) (p : Nat → Bool) (n : Nat) : Prop := ∃ r, Words w v r ∧ Wds r ∧ r.length ≤ n ∧ ∀ x, hasN r x = p x
def NSet (w : World) (v : Value) (p : Nat → Bool) (n : Nat) : Prop := ∃ r, Words w v r ∧ Wds r ∧ Norm r ∧ r.length ≤ n ∧ ∀ x, hasN r x = p x
theorem NSet.set {w : World} {v : Value} {p : Nat → Bool} {n : Nat} (h : NSet w v p n) : IsSet w v p n := by
  obtain ⟨r, a, b, -, c, d⟩ := h; exact ⟨r, a, b, c, d⟩
theorem IsSet.below {w w' : World} {v : Value} {p : Nat → Bool} {n : Nat} (h : IsSet w v p n) (hb : Below w.heap.size w w') : IsSet w' v p n := by
  obtain ⟨r, a, b, c, d⟩ := h; exact ⟨r, a.below hb, b, c, d⟩
theorem NSet.below {w w' : World} {v : Value} {p : Nat → Bool} {n : Nat} (h : NSet w v p n) (hb : Below w.heap.size w w') : NSet w' v p n := by
  obtain ⟨r, a, b, c, d⟩ := h; exact ⟨r, a.below hb, b, c, d⟩

def SetRet (p : Nat → Bool) (n : Nat) (w : World) (e : Ending) (w' : World) : Prop := ∃ s m c, e = .returned (.slice s m c) ∧ NSet w' (.slice s m c) p n ∧ Below w.heap.size w w'
theorem setRet {p q : Nat → Bool} {n m : Nat} {w : World} {e : Ending} {w' : World} (h : SetPost q m w e w') (hm : m ≤ n) (hpq : ∀ x, q x = p x) : SetRet p n w e w' := by
  obtain ⟨v, r, rfl, hF, hW, hN, hl, hp, hb⟩ := h
  obtain ⟨s, c, rfl, -⟩ := hF.1.out1 sBits
  exact ⟨s, _, c, rfl, ⟨r, hF.1, hW, hN, by omega, fun x => (hp x).trans (hpq x)⟩, hb⟩

theorem Union_set {v u : Value} {p q : Nat → Bool} {w : World} (h : IsSet w v p 1100) (h' : IsSet w u q 1100) : Calls Try.prog 26 #[v, u] w (SetRet (fun x => p x || q x) 1100 w) := by
  obtain ⟨b, h1, h2, h3, h4⟩ := h
  obtain ⟨c, k1, k2, k3, k4⟩ := h'
  exact (Union_any v u b c w h1 k1 h2 k2 1100 (by omega) h3 k3).mono fun e w' hp => setRet hp (Nat.le_refl _) fun x => by rw [h4, k4]
theorem Both_set {v u : Value} {p q : Nat → Bool} {w : World} (h : IsSet w v p 1100) (h' : IsSet w u q 1100) : Calls Try.prog 29 #[v, u] w (SetRet (fun x => p x && q x) 1100 w) := by
  obtain ⟨b, h1, h2, h3, h4⟩ := h
  obtain ⟨c, k1, k2, k3, k4⟩ := h'
  exact (Both_any v u b c w h1 k1 h2 k2 1100 (by omega) h3).mono fun e w' hp => setRet hp (Nat.le_refl _) fun x => by rw [h4, k4]
theorem Minus_set {v u : Value} {p q : Nat → Bool} {w : World} (h : IsSet w v p 1100) (h' : IsSet w u q 1100) : Calls Try.prog 27 #[v, u] w (SetRet (fun x => p x && !q x) 1100 w) := by
  obtain ⟨b, h1, h2, h3, h4⟩ := h
  obtain ⟨c, k1, k2, k3, k4⟩ := h'
  exact (Minus_any v u b c w h1 k1 h2 k2 (by omega)).mono fun e w' hp => setRet hp h3 fun x => by rw [h4, k4]
theorem Equal_set {v u : Value} {p q : Nat → Bool} {w : World} (h : NSet w v p 1100) (h' : NSet w u q 1100) (hpq : ∀ x, p x = q x) : Calls Try.prog 13 #[v, u] w (fun e w' => e = .returned (.bool true) ∧ Below w.heap.size w w') := by
  obtain ⟨b, h1, h2, h3, h4, h5⟩ := h
  obtain ⟨c, k1, k2, k3, k4, k5⟩ := h'
  have e : b = c := norm_ext h2 k2 h3 k3 fun x => by rw [h5, k5, hpq]
  subst e
  exact (Equal_any v u b b w h1 k1).mono fun e w' ⟨he, hq⟩ => ⟨by rw [he]; simp, hq.below _⟩
/-- How many numbers below the bound are in a set. -/
def cardP (p : Nat → Bool) : Nat := ((List.range 70400).filter p).length
theorem cardP_le (p : Nat → Bool) : cardP p ≤ 70400 := by unfold cardP; exact Nat.le_trans (List.length_filter_le _ _) (by simp)
attribute [irreducible] cardP
theorem Count_set {v : Value} {p : Nat → Bool} {w : World} (h : IsSet w v p 1100) : Calls Try.prog 18 #[v] w (fun e w' => e = .returned (.int .i64 (cardP p)) ∧ Below w.heap.size w w') := by
  obtain ⟨b, h1, h2, h3, h4⟩ := h
  refine (Count_any v b w h1 h2 (by omega)).mono fun e w' ⟨he, hq⟩ => ⟨?_, hq.below _⟩
  have : (els b).length = cardP p := by
    have hf : (List.range 70400).filter (hasN b) = (List.range 70400).filter p := List.filter_congr fun x _ => h4 x
    rw [els_card b 70400 (by omega)]; unfold card cardP
    rw [hf]
  rw [he, this]
theorem cardP_union (p q : Nat → Bool) : cardP (fun x => p x || q x) + cardP (fun x => p x && q x) = cardP p + cardP q := by unfold cardP; exact card_union p q 70400
theorem cardP_minus (p q : Nat → Bool) (hp : ∀ x, 70400 ≤ x → p x = false) : cardP (fun x => p x && !q x) = 0 ↔ ∀ x, p x = true → q x = true := by
  unfold cardP
  rw [List.length_eq_zero_iff, List.filter_eq_nil_iff]
  constructor
  · intro h x hx
    by_cases e : x < 70400
    · have := h x (by simpa using e)
      simpa [hx] using this
    · rw [hp x (by omega)] at hx; simp at hx
  · intro h x _
    cases e : p x
    · simp
    · simp [h x e]


set_option maxHeartbeats 12800000 in
set_option maxRecDepth 100000 in
theorem BitsAlgebra_walk (v : Value) (a : List Nat) (u : Value) (b : List Nat) (t : Value) (c : List Nat) (w : World) (hA : Words w v a) (ha : Wds a) (hB : Words w u b) (hb : Wds b) (hC : Words w t c) (hc : Wds c) :
    Calls Try.prog 7 #[v, u, t] w (TruePost w) := by
  obtain ⟨pa, ca, rfl, hm, -⟩ := hA.out1 sBits
  obtain ⟨pb, cb, rfl, hm', -⟩ := hB.out1 sBits
  obtain ⟨pc, cc, rfl, hm'', -⟩ := hC.out1 sBits
  have HX := Lib.hid (And.intro ha (And.intro hb hc))
  clear ha hb hc
  by_cases hl1 : 1100 < a.length
  · go_enter Try.func7, Try.ntmps7
    go_wp2_with fail
    refine (awake_any _).mono ?_; rintro e w5 ⟨rfl, b5⟩
    go_wp2_with fail
    go_ret
    exact ⟨rfl, b5⟩
  have hd1 : decide (1100 < a.length) = false := by simpa using hl1
  by_cases hl2 : 1100 < b.length
  · go_enter Try.func7, Try.ntmps7
    go_wp2_with fail
    refine (awake_any _).mono ?_; rintro e w5 ⟨rfl, b5⟩
    go_wp2_with fail
    go_ret
    exact ⟨rfl, b5⟩
  have hd2 : decide (1100 < b.length) = false := by simpa using hl2
  by_cases hl3 : 1100 < c.length
  · go_enter Try.func7, Try.ntmps7
    go_wp2_with fail
    refine (awake_any _).mono ?_; rintro e w5 ⟨rfl, b5⟩
    go_wp2_with fail
    go_ret
    exact ⟨rfl, b5⟩
  have hd3 : decide (1100 < c.length) = false := by simpa using hl3
  have h0 : Below w.heap.size w w := Below.refl _ _
  have A : IsSet w (.slice pa a.length ca) (hasN a) 1100 := ⟨a, hA, HX.out.1, by omega, fun _ => rfl⟩
  have B : IsSet w (.slice pb b.length cb) (hasN b) 1100 := ⟨b, hB, HX.out.2.1, by omega, fun _ => rfl⟩
  have C : IsSet w (.slice pc c.length cc) (hasN c) 1100 := ⟨c, hC, HX.out.2.2, by omega, fun _ => rfl⟩
  have hcard := cardP_union (hasN a) (hasN b)
  have hcm : withinB a b = (cardP (fun x => hasN a x && !hasN b x) == 0) := by
    rw [Bool.eq_iff_iff, within_iff, beq_iff_eq, cardP_minus _ _ (fun x hx => hasN_out _ _ (by omega))]
  have HN := Lib.hid (And.intro hcard hcm)
  clear hcard hcm
  go_enter Try.func7, Try.ntmps7
  go_wp2_with fail
  refine (Union_set (A.below h0) (B.below h0)).mono ?_; rintro e W1 ⟨s1, m1, c1, rfl, n1, q1⟩
  have h1 : Below w.heap.size w W1 := h0.trans (q1.mono h0.size)
  go_wp2_with fail
  refine (Union_set (B.below h1) (A.below h1)).mono ?_; rintro e W2 ⟨s2, m2, c2, rfl, n2, q2⟩
  have h2 : Below w.heap.size w W2 := h1.trans (q2.mono h1.size)
  go_wp2_with fail
  refine (Equal_set (n1.below q2) n2 (fun x => Bool.or_comm _ _)).mono ?_; rintro e W3 ⟨rfl, q3⟩
  have h3 : Below w.heap.size w W3 := h2.trans (q3.mono h2.size)
  go_wp2_with fail
  refine (Both_set (A.below h3) (B.below h3)).mono ?_; rintro e W4 ⟨s4, m4, c4, rfl, n4, q4⟩
  have h4 : Below w.heap.size w W4 := h3.trans (q4.mono h3.size)
  go_wp2_with fail
  refine (Both_set (B.below h4) (A.below h4)).mono ?_; rintro e W5 ⟨s5, m5, c5, rfl, n5, q5⟩
  have h5 : Below w.heap.size w W5 := h4.trans (q5.mono h4.size)
  go_wp2_with fail
  refine (Equal_set (n4.below q5) n5 (fun x => Bool.and_comm _ _)).mono ?_; rintro e W6 ⟨rfl, q6⟩
  have h6 : Below w.heap.size w W6 := h5.trans (q6.mono h5.size)
  clear n1 n2 n4 n5 q1 q2 q3 q4 q5 q6 h0 h1 h2 h3 h4 h5
  go_wp2_with fail
  refine (Union_set (A.below h6) (B.below h6)).mono ?_; rintro e W1 ⟨s1, m1, c1, rfl, n1, q1⟩
  have h1 : Below w.heap.size w W1 := h6.trans (q1.mono h6.size)
  go_wp2_with fail
  refine (Union_set n1.set (C.below h1)).mono ?_; rintro e W2 ⟨s2, m2, c2, rfl, n2, q2⟩
  have h2 : Below w.heap.size w W2 := h1.trans (q2.mono h1.size)
  go_wp2_with fail
  refine (Union_set (B.below h2) (C.below h2)).mono ?_; rintro e W3 ⟨s3, m3, c3, rfl, n3, q3⟩
  have h3 : Below w.heap.size w W3 := h2.trans (q3.mono h2.size)
  go_wp2_with fail
  refine (Union_set (A.below h3) n3.set).mono ?_; rintro e W4 ⟨s4, m4, c4, rfl, n4, q4⟩
  have h4 : Below w.heap.size w W4 := h3.trans (q4.mono h3.size)
  go_wp2_with fail
  refine (Equal_set ((n2.below q3).below q4) n4 (fun x => Bool.or_assoc _ _ _)).mono ?_; rintro e W5 ⟨rfl, q5⟩
  have h5 : Below w.heap.size w W5 := h4.trans (q5.mono h4.size)
  clear n1 n2 n3 n4 q1 q2 q3 q4 q5 h6 h1 h2 h3 h4
  go_wp2_with fail
  refine (Both_set (A.below h5) (B.below h5)).mono ?_; rintro e W1 ⟨s1, m1, c1, rfl, n1, q1⟩
  have h1 : Below w.heap.size w W1 := h5.trans (q1.mono h5.size)
  go_wp2_with fail
  refine (Both_set n1.set (C.below h1)).mono ?_; rintro e W2 ⟨s2, m2, c2, rfl, n2, q2⟩
  have h2 : Below w.heap.size w W2 := h1.trans (q2.mono h1.size)
  go_wp2_with fail
  refine (Both_set (B.below h2) (C.below h2)).mono ?_; rintro e W3 ⟨s3, m3, c3, rfl, n3, q3⟩
  have h3 : Below w.heap.size w W3 := h2.trans (q3.mono h2.size)
  go_wp2_with fail
  refine (Both_set (A.below h3) n3.set).mono ?_; rintro e W4 ⟨s4, m4, c4, rfl, n4, q4⟩
  have h4 : Below w.heap.size w W4 := h3.trans (q4.mono h3.size)
  go_wp2_with fail
  refine (Equal_set ((n2.below q3).below q4) n4 (fun x => Bool.and_assoc _ _ _)).mono ?_; rintro e W6 ⟨rfl, q6⟩
  have h6 : Below w.heap.size w W6 := h4.trans (q6.mono h4.size)
  clear n1 n2 n3 n4 q1 q2 q3 q4 q6 h5 h1 h2 h3 h4
  go_wp2_with fail
  refine (Union_set (B.below h6) (C.below h6)).mono ?_; rintro e W1 ⟨s1, m1, c1, rfl, n1, q1⟩
  have h1 : Below w.heap.size w W1 := h6.trans (q1.mono h6.size)
  go_wp2_with fail
  refine (Both_set (A.below h1) n1.set).mono ?_; rintro e W2 ⟨s2, m2, c2, rfl, n2, q2⟩
  have h2 : Below w.heap.size w W2 := h1.trans (q2.mono h1.size)
  go_wp2_with fail
  refine (Both_set (A.below h2) (B.below h2)).mono ?_; rintro e W3 ⟨s3, m3, c3, rfl, n3, q3⟩
  have h3 : Below w.heap.size w W3 := h2.trans (q3.mono h2.size)
  go_wp2_with fail
  refine (Both_set (A.below h3) (C.below h3)).mono ?_; rintro e W4 ⟨s4, m4, c4, rfl, n4, q4⟩
  have h4 : Below w.heap.size w W4 := h3.trans (q4.mono h3.size)
  go_wp2_with fail
  refine (Union_set (n3.below q4).set n4.set).mono ?_; rintro e W5 ⟨s5, m5, c5, rfl, n5, q5⟩
  have h5 : Below w.heap.size w W5 := h4.trans (q5.mono h4.size)
  go_wp2_with fail
  refine (Equal_set (((n2.below q3).below q4).below q5) n5 (fun x => Bool.and_or_distrib_left _ _ _)).mono ?_; rintro e W7 ⟨rfl, q7⟩
  have h7 : Below w.heap.size w W7 := h5.trans (q7.mono h5.size)
  clear n1 n2 n3 n4 n5 q1 q2 q3 q4 q5 q7 h6 h1 h2 h3 h4 h5
  go_wp2_with fail
  refine (Both_set (B.below h7) (C.below h7)).mono ?_; rintro e W1 ⟨s1, m1, c1, rfl, n1, q1⟩
  have h1 : Below w.heap.size w W1 := h7.trans (q1.mono h7.size)
  go_wp2_with fail
  refine (Union_set (A.below h1) n1.set).mono ?_; rintro e W2 ⟨s2, m2, c2, rfl, n2, q2⟩
  have h2 : Below w.heap.size w W2 := h1.trans (q2.mono h1.size)
  go_wp2_with fail
  refine (Union_set (A.below h2) (B.below h2)).mono ?_; rintro e W3 ⟨s3, m3, c3, rfl, n3, q3⟩
  have h3 : Below w.heap.size w W3 := h2.trans (q3.mono h2.size)
  go_wp2_with fail
  refine (Union_set (A.below h3) (C.below h3)).mono ?_; rintro e W4 ⟨s4, m4, c4, rfl, n4, q4⟩
  have h4 : Below w.heap.size w W4 := h3.trans (q4.mono h3.size)
  go_wp2_with fail
  refine (Both_set (n3.below q4).set n4.set).mono ?_; rintro e W5 ⟨s5, m5, c5, rfl, n5, q5⟩
  have h5 : Below w.heap.size w W5 := h4.trans (q5.mono h4.size)
  go_wp2_with fail
  refine (Equal_set (((n2.below q3).below q4).below q5) n5 (fun x => Bool.or_and_distrib_left _ _ _)).mono ?_; rintro e W6 ⟨rfl, q6⟩
  have h6 : Below w.heap.size w W6 := h5.trans (q6.mono h5.size)
  clear n1 n2 n3 n4 n5 q1 q2 q3 q4 q5 q6 h7 h1 h2 h3 h4 h5
  go_wp2_with fail
  refine (Union_set (B.below h6) (C.below h6)).mono ?_; rintro e W1 ⟨s1, m1, c1, rfl, n1, q1⟩
  have h1 : Below w.heap.size w W1 := h6.trans (q1.mono h6.size)
  go_wp2_with fail
  refine (Minus_set (A.below h1) n1.set).mono ?_; rintro e W2 ⟨s2, m2, c2, rfl, n2, q2⟩
  have h2 : Below w.heap.size w W2 := h1.trans (q2.mono h1.size)
  go_wp2_with fail
  refine (Minus_set (A.below h2) (B.below h2)).mono ?_; rintro e W3 ⟨s3, m3, c3, rfl, n3, q3⟩
  have h3 : Below w.heap.size w W3 := h2.trans (q3.mono h2.size)
  go_wp2_with fail
  refine (Minus_set n3.set (C.below h3)).mono ?_; rintro e W4 ⟨s4, m4, c4, rfl, n4, q4⟩
  have h4 : Below w.heap.size w W4 := h3.trans (q4.mono h3.size)
  go_wp2_with fail
  refine (Equal_set ((n2.below q3).below q4) n4 (fun x => by cases hasN a x <;> cases hasN b x <;> cases hasN c x <;> rfl)).mono ?_; rintro e W5 ⟨rfl, q5⟩
  have h5 : Below w.heap.size w W5 := h4.trans (q5.mono h4.size)
  clear n1 n2 n3 n4 q1 q2 q3 q4 q5 h6 h1 h2 h3 h4
  have l1 := cardP_le (fun x => hasN a x || hasN b x)
  have l2 := cardP_le (fun x => hasN a x && hasN b x)
  have l3 := cardP_le (hasN a)
  have l4 := cardP_le (hasN b)
  have hceq : (((cardP (fun x => hasN a x || hasN b x) : Nat) : Int) + ((cardP (fun x => hasN a x && hasN b x) : Nat) : Int) != ((cardP (hasN a) : Nat) : Int) + ((cardP (hasN b) : Nat) : Int)) = false := by
    have := HN.out.1
    rw [bne_eq_false_iff_eq]; omega
  go_wp2_with fail
  refine (Union_set (A.below h5) (B.below h5)).mono ?_; rintro e W1 ⟨s1, m1, c1, rfl, n1, q1⟩
  have h1 : Below w.heap.size w W1 := h5.trans (q1.mono h5.size)
  go_wp2_with fail
  refine (Count_set n1.set).mono ?_; rintro e W2 ⟨rfl, q2⟩
  have h2 : Below w.heap.size w W2 := h1.trans (q2.mono h1.size)
  go_wp2_with fail
  refine (Both_set (A.below h2) (B.below h2)).mono ?_; rintro e W3 ⟨s3, m3, c3, rfl, n3, q3⟩
  have h3 : Below w.heap.size w W3 := h2.trans (q3.mono h2.size)
  go_wp2_with fail
  refine (Count_set n3.set).mono ?_; rintro e W4 ⟨rfl, q4⟩
  have h4 : Below w.heap.size w W4 := h3.trans (q4.mono h3.size)
  go_wp2_with fail
  refine (Count_set (A.below h4)).mono ?_; rintro e W6 ⟨rfl, q6⟩
  have h6 : Below w.heap.size w W6 := h4.trans (q6.mono h4.size)
  go_wp2_with fail
  refine (Count_set (B.below h6)).mono ?_; rintro e W7 ⟨rfl, q7⟩
  have h7 : Below w.heap.size w W7 := h6.trans (q7.mono h6.size)
  clear n1 n3 q1 q2 q3 q4 q6 q7 h5 h1 h2 h3 h4 h6
  have hw2 : (((cardP (fun x => hasN a x && !hasN b x) : Nat) : Int) == 0) = withinB a b := by
    rw [HN.out.2, Bool.eq_iff_iff, beq_iff_eq, beq_iff_eq]; omega
  cases hab : withinB a b
  · go_wp2_with fail
    refine (Within_any _ _ a b _ (hA.below h7) (hB.below h7) HX.out.1 HX.out.2.1).mono ?_; rintro e W1 ⟨rfl, q1⟩
    have h1 : Below w.heap.size w W1 := h7.trans (q1.below _)
    go_wp2_with fail
    refine (Same_any _ _ a b _ (hA.below h1) (hB.below h1) HX.out.1 HX.out.2.1).mono ?_; rintro e W3 ⟨rfl, q3⟩
    have h3 : Below w.heap.size w W3 := h1.trans (q3.below _)
    go_wp2_with fail
    refine (Within_any _ _ a b _ (hA.below h3) (hB.below h3) HX.out.1 HX.out.2.1).mono ?_; rintro e W4 ⟨rfl, q4⟩
    have h4 : Below w.heap.size w W4 := h3.trans (q4.below _)
    go_wp2_with fail
    refine (Minus_set (A.below h4) (B.below h4)).mono ?_; rintro e W5 ⟨s5, m5, c5, rfl, n5, q5⟩
    have h5 : Below w.heap.size w W5 := h4.trans (q5.mono h4.size)
    go_wp2_with fail
    refine (Count_set n5.set).mono ?_; rintro e W6 ⟨rfl, q6⟩
    have h6 : Below w.heap.size w W6 := h5.trans (q6.mono h5.size)
    go_wp2_with fail
    refine (awake_any _).mono ?_; rintro e w5 ⟨rfl, b5⟩
    go_wp2_with fail
    go_ret
    exact ⟨rfl, h6.trans (b5.mono h6.size)⟩
  · go_wp2_with fail
    refine (Within_any _ _ a b _ (hA.below h7) (hB.below h7) HX.out.1 HX.out.2.1).mono ?_; rintro e W1 ⟨rfl, q1⟩
    have h1 : Below w.heap.size w W1 := h7.trans (q1.below _)
    go_wp2_with fail
    refine (Within_any _ _ b a _ (hB.below h1) (hA.below h1) HX.out.2.1 HX.out.1).mono ?_; rintro e W2 ⟨rfl, q2⟩
    have h2 : Below w.heap.size w W2 := h1.trans (q2.below _)
    go_wp2_with fail
    refine (Same_any _ _ a b _ (hA.below h2) (hB.below h2) HX.out.1 HX.out.2.1).mono ?_; rintro e W3 ⟨rfl, q3⟩
    have h3 : Below w.heap.size w W3 := h2.trans (q3.below _)
    go_wp2_with fail
    refine (Within_any _ _ a b _ (hA.below h3) (hB.below h3) HX.out.1 HX.out.2.1).mono ?_; rintro e W4 ⟨rfl, q4⟩
    have h4 : Below w.heap.size w W4 := h3.trans (q4.below _)
    go_wp2_with fail
    refine (Minus_set (A.below h4) (B.below h4)).mono ?_; rintro e W5 ⟨s5, m5, c5, rfl, n5, q5⟩
    have h5 : Below w.heap.size w W5 := h4.trans (q5.mono h4.size)
    go_wp2_with fail
    refine (Count_set n5.set).mono ?_; rintro e W6 ⟨rfl, q6⟩
    have h6 : Below w.heap.size w W6 := h5.trans (q6.mono h5.size)
    go_wp2_with fail
    refine (awake_any _).mono ?_; rintro e w5 ⟨rfl, b5⟩
    go_wp2_with fail
    go_ret
    exact ⟨rfl, h6.trans (b5.mono h6.size)⟩

set_option maxRecDepth 100000 in
theorem BitsAlgebra_lifted (os : Os) (started : os.Started) (H : Type) (enc : TypeId × Value → H) :
    ReturnsInHanded {} Try.checked os 7 .any (Rows.bitsAlgebraSpec.pre6 enc Try.prog Try.f7 Rows.bitsAlgebraRow.domain false) (Rows.bitsAlgebraSpec.post enc Try.prog Try.f7 false true false false) := by
  refine returnsInHanded_of_change (C := Try.checked) own started (by kernel_rfl) Try.func7
    (ChangeSpec.witness6 (enc := enc) (C := Try.checked) false ⟨#[], #[.slice none 0 0, .slice none 0 0, .slice none 0 0], []⟩ 8 (by kernel_rfl) (by kernel_rfl) (by kernel_rfl) (by kernel_rfl)) ?_
  intro W base args ds gs before hval0 hW hcnd _
  have hval : ∀ (j : Nat) t v, Try.f7.params[j]? = some t → args[j]? = some v → Value.okWide Try.prog W .any base t v := hval0
  have hW' := hW
  obtain ⟨p, q, hA0, hV, rfl, hfz, hnd⟩ := hW
  have hA : DataW.TrodAll enc Try.prog W 0 (fun _ => true) true Try.f7.params.toList args.toList ds p := hA0
  rw [Try.params7] at hA hval
  obtain ⟨v0, vs0, d0, ds0, p0, q0, hargs, rfl, rfl, h0, r0⟩ := trodAll_cons hA
  obtain ⟨v1, vs1, d1, ds1, p1, q1, rfl, rfl, rfl, h1, r1⟩ := trodAll_cons r0
  obtain ⟨v2, vs2, d2, ds2, p2, q2, rfl, rfl, rfl, h2, r2⟩ := trodAll_cons r1
  obtain ⟨rfl, rfl, rfl⟩ := trodAll_nil r2
  obtain rfl : args = #[v0, v1, v2] := by cases args; simp_all
  obtain ⟨rfl, rfl⟩ := trodVars_none hV
  obtain ⟨a0, len0, cap0, rfl⟩ := okWide_slice Try.underlying26 (hval 0 26 v0 rfl rfl)
  have k0 := h0
  have lt0 : ∀ x ∈ p0, x.block < W.heap.size := by obtain ⟨m, hm⟩ := k0; exact DataW.trod_lt m _ _ _ hm
  obtain ⟨l0, hl0, hI0, b0⟩ := words_of_trod Try.underlying26 Try.underlying54 (by kernel_rfl) h0
  obtain ⟨a1, len1, cap1, rfl⟩ := okWide_slice Try.underlying26 (hval 1 26 v1 rfl rfl)
  have k1 := h1
  have lt1 : ∀ x ∈ p1, x.block < W.heap.size := by obtain ⟨m, hm⟩ := k1; exact DataW.trod_lt m _ _ _ hm
  obtain ⟨l1, hl1, hI1, b1⟩ := words_of_trod Try.underlying26 Try.underlying54 (by kernel_rfl) h1
  obtain ⟨a2, len2, cap2, rfl⟩ := okWide_slice Try.underlying26 (hval 2 26 v2 rfl rfl)
  have k2 := h2
  have lt2 : ∀ x ∈ p2, x.block < W.heap.size := by obtain ⟨m, hm⟩ := k2; exact DataW.trod_lt m _ _ _ hm
  obtain ⟨l2, hl2, hI2, b2⟩ := words_of_trod Try.underlying26 Try.underlying54 (by kernel_rfl) h2
  clear hA0 hval0
  refine (BitsAlgebra_walk _ l0 _ l1 _ l2 W hI0 b0 hI1 b1 hI2 b2).mono fun e W' ⟨he, bel⟩ => ?_
  subst he
  exact ⟨_, rfl, _, _, _, [], _, [], hW', trodAll_mk1 (shut_bool Try.underlying4 _), (trodAll_cons_mk (Below.trod laidOut (by kernel_rfl) (of_decide_eq_true (by kernel_rfl)) k0 bel lt0) (trodAll_cons_mk (Below.trod laidOut (by kernel_rfl) (of_decide_eq_true (by kernel_rfl)) k1 bel lt1) (trodAll_cons_mk (Below.trod laidOut (by kernel_rfl) (of_decide_eq_true (by kernel_rfl)) k2 bel lt2) trodAll_mk0))), rfl, bel.frame _, fun h => by cases h⟩

/-- The given statement. -/
theorem BitsAlgebra_holds : Rows.BitsAlgebraSaid :=
  OpenClaim.holds_of_wide 7 Try.f7 rfl rfl rfl rfl rfl rfl rfl ⟨rfl, rfl, rfl, rfl, rfl⟩ rfl rfl rfl rfl rfl (by kernel_rfl) Try.func7 (by kernel_rfl)
    (of_decide_eq_true (by kernel_rfl)) (by unfold Func.isWrapper; first | (rw [if_pos (by decide +kernel)]; kernel_rfl) | (rw [if_neg (by decide +kernel)]; exact ⟨rfl, rfl⟩))
    (fun os started H enc _ => BitsAlgebra_lifted os started H enc)

end Go.Proofs.Ytingmncemmipeaa
