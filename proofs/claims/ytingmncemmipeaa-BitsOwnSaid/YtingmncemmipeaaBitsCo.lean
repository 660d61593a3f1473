/- BitsCombines: for any two sets, Union, Minus and Both have exactly the elements that belong there, in normal form. Conditions: none. -/
import Derived.Test.YtingmncemmipeaaBitsO
import Derived.Test.YtingmncemmipeaaBitsAl
namespace Go.Proofs.Ytingmncemmipeaa
open Go.ChangeShapes Go.WideShapes Go.ChangeAt Go.RowKit Go.Deep Go.Dfl

theorem sel_has (b c : List Nat) (f s t : Bool) (y : Nat) : selB (els b) (els c) f s t (y : Int) = (if hasN b y = true then (if hasN c y = true then t else f) else (if hasN c y = true then s else false)) := by
  have h1 : ((y : Int) ∈ els b) ↔ hasN b y = true := by rw [mem_hasI]; simp [hasI]
  have h2 : ((y : Int) ∈ els c) ↔ hasN c y = true := by rw [mem_hasI]; simp [hasI]
  unfold selB
  simp only [h1, h2]

set_option maxHeartbeats 400000 in
theorem RUnion_any (v u : Value) (b c : List Nat) (w : World) (hI : Words w v b) (hI' : Words w u c) (hb : Wds b) (hc : Wds c) (hlen : b.length ≤ 65536) (hlen' : c.length ≤ 65536) :
    Calls Try.prog 25 #[v, u] w (RSetPost (fun x => (hasN b x).or (hasN c x)) w) := by
  go_enter Try.func25, Try.ntmps25
  go_wp2_with fail
  refine (Merge_any _ _ b c true true true w hI hI' hb hc hlen hlen').mono ?_
  rintro e w5 ⟨s5, m5, c5, r5, rfl, q1, q2, q3, q4, q5⟩
  go_wp2_with fail
  go_ret
  exact ⟨s5, m5, c5, r5, rfl, q1, q2, q3, fun y => by rw [q4 y, sel_has]; dsimp only; cases hasN b y <;> cases hasN c y <;> rfl, q5⟩
set_option maxHeartbeats 400000 in
theorem RMinus_any (v u : Value) (b c : List Nat) (w : World) (hI : Words w v b) (hI' : Words w u c) (hb : Wds b) (hc : Wds c) (hlen : b.length ≤ 65536) (hlen' : c.length ≤ 65536) :
    Calls Try.prog 28 #[v, u] w (RSetPost (fun x => hasN b x && !hasN c x) w) := by
  go_enter Try.func28, Try.ntmps28
  go_wp2_with fail
  refine (Merge_any _ _ b c true false false w hI hI' hb hc hlen hlen').mono ?_
  rintro e w5 ⟨s5, m5, c5, r5, rfl, q1, q2, q3, q4, q5⟩
  go_wp2_with fail
  go_ret
  exact ⟨s5, m5, c5, r5, rfl, q1, q2, q3, fun y => by rw [q4 y, sel_has]; dsimp only; cases hasN b y <;> cases hasN c y <;> rfl, q5⟩
set_option maxHeartbeats 400000 in
theorem RBoth_any (v u : Value) (b c : List Nat) (w : World) (hI : Words w v b) (hI' : Words w u c) (hb : Wds b) (hc : Wds c) (hlen : b.length ≤ 65536) (hlen' : c.length ≤ 65536) :
    Calls Try.prog 30 #[v, u] w (RSetPost (fun x => hasN b x && hasN c x) w) := by
  go_enter Try.func30, Try.ntmps30
  go_wp2_with fail
  refine (Merge_any _ _ b c false false true w hI hI' hb hc hlen hlen').mono ?_
  rintro e w5 ⟨s5, m5, c5, r5, rfl, q1, q2, q3, q4, q5⟩
  go_wp2_with fail
  go_ret
  exact ⟨s5, m5, c5, r5, rfl, q1, q2, q3, fun y => by rw [q4 y, sel_has]; dsimp only; cases hasN b y <;> cases hasN c y <;> rfl, q5⟩

theorem Equal_sets {v u : Value} {p q : Nat → Bool} {n : Nat} {w : World} (h : NSet w v p n) {r : List Nat} (h1 : Words w u r) (h2 : Wds r) (h3 : Norm r) (h4 : ∀ y, hasN r y = q y) (hpq : ∀ x, p x = q x) : Calls Try.prog 13 #[v, u] w (fun e w' => e = .returned (.bool true) ∧ Below w.heap.size w w') := by
  obtain ⟨b, k1, k2, k3, k4, k5⟩ := h
  have e : b = r := norm_ext k2 h2 k3 h3 fun x => by rw [k5, h4, hpq]
  subst e
  exact (Equal_any v u b b w k1 h1).mono fun e w' ⟨he, hq⟩ => ⟨by rw [he]; simp, hq.below _⟩


set_option maxHeartbeats 3200000 in
set_option maxRecDepth 100000 in
theorem BitsCombines_walk (v : Value) (a : List Nat) (u : Value) (b : List Nat) (w : World) (hA : Words w v a) (ha : Wds a) (hB : Words w u b) (hb : Wds b) :
    Calls Try.prog 6 #[v, u] w (TruePost w) := by
  obtain ⟨pa, ca, rfl, hm, -⟩ := hA.out1 sBits
  obtain ⟨pb, cb, rfl, hm', -⟩ := hB.out1 sBits
  have HX := Lib.hid (And.intro ha hb)
  clear ha hb
  by_cases hl1 : 1100 < a.length
  · go_enter Try.func6, Try.ntmps6
    go_wp2_with fail
    refine (awake_any _).mono ?_; rintro e w5 ⟨rfl, b5⟩
    go_wp2_with fail
    go_ret
    exact ⟨rfl, b5⟩
  have hd1 : decide (1100 < a.length) = false := by simpa using hl1
  by_cases hl2 : 1100 < b.length
  · go_enter Try.func6, Try.ntmps6
    go_wp2_with fail
    refine (awake_any _).mono ?_; rintro e w5 ⟨rfl, b5⟩
    go_wp2_with fail
    go_ret
    exact ⟨rfl, b5⟩
  have hd2 : decide (1100 < b.length) = false := by simpa using hl2
  have h0 : Below w.heap.size w w := Below.refl _ _
  have A : IsSet w (.slice pa a.length ca) (hasN a) 1100 := ⟨a, hA, HX.out.1, by omega, fun _ => rfl⟩
  have B : IsSet w (.slice pb b.length cb) (hasN b) 1100 := ⟨b, hB, HX.out.2, by omega, fun _ => rfl⟩
  go_enter Try.func6, Try.ntmps6
  go_wp2_with fail
  refine (Union_set (A.below h0) (B.below h0)).mono ?_; rintro e W1 ⟨s1, m1, c1, rfl, n1, q1⟩
  have h1 : Below w.heap.size w W1 := h0.trans (q1.mono h0.size)
  go_wp2_with fail
  refine (RUnion_any _ _ a b _ (hA.below h1) (hB.below h1) HX.out.1 HX.out.2 (by omega) (by omega)).mono ?_; rintro e W2 ⟨s2, m2, c2, r2, rfl, d1, d2, d3, d4, q2⟩
  have h2 : Below w.heap.size w W2 := h1.trans (q2.mono h1.size)
  go_wp2_with fail
  refine (Equal_sets (n1.below q2) d1 d2 d3 d4 (fun x => rfl)).mono ?_; rintro e W3 ⟨rfl, q3⟩
  have h3 : Below w.heap.size w W3 := h2.trans (q3.mono h2.size)
  clear d1 d2 d3 d4
  go_wp2_with fail
  refine (Minus_set (A.below h3) (B.below h3)).mono ?_; rintro e W4 ⟨s4, m4, c4, rfl, n4, q4⟩
  have h4 : Below w.heap.size w W4 := h3.trans (q4.mono h3.size)
  go_wp2_with fail
  refine (RMinus_any _ _ a b _ (hA.below h4) (hB.below h4) HX.out.1 HX.out.2 (by omega) (by omega)).mono ?_; rintro e W5 ⟨s5, m5, c5, r5, rfl, d1, d2, d3, d4, q5⟩
  have h5 : Below w.heap.size w W5 := h4.trans (q5.mono h4.size)
  go_wp2_with fail
  refine (Equal_sets (n4.below q5) d1 d2 d3 d4 (fun x => rfl)).mono ?_; rintro e W6 ⟨rfl, q6⟩
  have h6 : Below w.heap.size w W6 := h5.trans (q6.mono h5.size)
  clear d1 d2 d3 d4
  go_wp2_with fail
  refine (Both_set (A.below h6) (B.below h6)).mono ?_; rintro e W7 ⟨s7, m7, c7, rfl, n7, q7⟩
  have h7 : Below w.heap.size w W7 := h6.trans (q7.mono h6.size)
  go_wp2_with fail
  refine (RBoth_any _ _ a b _ (hA.below h7) (hB.below h7) HX.out.1 HX.out.2 (by omega) (by omega)).mono ?_; rintro e W8 ⟨s8, m8, c8, r8, rfl, d1, d2, d3, d4, q8⟩
  have h8 : Below w.heap.size w W8 := h7.trans (q8.mono h7.size)
  go_wp2_with fail
  refine (Equal_sets (n7.below q8) d1 d2 d3 d4 (fun x => rfl)).mono ?_; rintro e W9 ⟨rfl, q9⟩
  have h9 : Below w.heap.size w W9 := h8.trans (q9.mono h8.size)
  clear d1 d2 d3 d4
  go_wp2_with fail
  refine (awake_any _).mono ?_; rintro e w5 ⟨rfl, b5⟩
  go_wp2_with fail
  go_ret
  exact ⟨rfl, h9.trans (b5.mono h9.size)⟩

set_option maxRecDepth 100000 in
theorem BitsCombines_lifted (os : Os) (started : os.Started) (H : Type) (enc : TypeId × Value → H) :
    ReturnsInHanded {} Try.checked os 6 .any (Rows.bitsCombinesSpec.pre6 enc Try.prog Try.f6 Rows.bitsCombinesRow.domain false) (Rows.bitsCombinesSpec.post enc Try.prog Try.f6 false true false false) := by
  refine returnsInHanded_of_change (C := Try.checked) own started (by kernel_rfl) Try.func6
    (ChangeSpec.witness6 (enc := enc) (C := Try.checked) false ⟨#[], #[.slice none 0 0, .slice none 0 0], []⟩ 8 (by kernel_rfl) (by kernel_rfl) (by kernel_rfl) (by kernel_rfl)) ?_
  intro W base args ds gs before hval0 hW hcnd _
  have hval : ∀ (j : Nat) t v, Try.f6.params[j]? = some t → args[j]? = some v → Value.okWide Try.prog W .any base t v := hval0
  have hW' := hW
  obtain ⟨p, q, hA0, hV, rfl, hfz, hnd⟩ := hW
  have hA : DataW.TrodAll enc Try.prog W 0 (fun _ => true) true Try.f6.params.toList args.toList ds p := hA0
  rw [Try.params6] at hA hval
  obtain ⟨v0, vs0, d0, ds0, p0, q0, hargs, rfl, rfl, h0, r0⟩ := trodAll_cons hA
  obtain ⟨v1, vs1, d1, ds1, p1, q1, rfl, rfl, rfl, h1, r1⟩ := trodAll_cons r0
  obtain ⟨rfl, rfl, rfl⟩ := trodAll_nil r1
  obtain rfl : args = #[v0, v1] := by cases args; simp_all
  obtain ⟨rfl, rfl⟩ := trodVars_none hV
  obtain ⟨a0, len0, cap0, rfl⟩ := okWide_slice Try.underlying26 (hval 0 26 v0 rfl rfl)
  have k0 := h0
  have lt0 : ∀ x ∈ p0, x.block < W.heap.size := by obtain ⟨m, hm⟩ := k0; exact DataW.trod_lt m _ _ _ hm
  obtain ⟨l0, hl0, hI0, b0⟩ := words_of_trod Try.underlying26 Try.underlying54 (by kernel_rfl) h0
  obtain ⟨a1, len1, cap1, rfl⟩ := okWide_slice Try.underlying26 (hval 1 26 v1 rfl rfl)
  have k1 := h1
  have lt1 : ∀ x ∈ p1, x.block < W.heap.size := by obtain ⟨m, hm⟩ := k1; exact DataW.trod_lt m _ _ _ hm
  obtain ⟨l1, hl1, hI1, b1⟩ := words_of_trod Try.underlying26 Try.underlying54 (by kernel_rfl) h1
  clear hA0 hval0
  refine (BitsCombines_walk _ l0 _ l1 W hI0 b0 hI1 b1).mono fun e W' ⟨he, bel⟩ => ?_
  subst he
  exact ⟨_, rfl, _, _, _, [], _, [], hW', trodAll_mk1 (shut_bool Try.underlying4 _), (trodAll_cons_mk (Below.trod laidOut (by kernel_rfl) (of_decide_eq_true (by kernel_rfl)) k0 bel lt0) (trodAll_cons_mk (Below.trod laidOut (by kernel_rfl) (of_decide_eq_true (by kernel_rfl)) k1 bel lt1) trodAll_mk0)), rfl, bel.frame _, fun h => by cases h⟩

/-- The given statement. -/
theorem BitsCombines_holds : Rows.BitsCombinesSaid :=
  OpenClaim.holds_of_wide 6 Try.f6 rfl rfl rfl rfl rfl rfl rfl ⟨rfl, rfl, rfl, rfl, rfl⟩ rfl rfl rfl rfl rfl (by kernel_rfl) Try.func6 (by kernel_rfl)
    (of_decide_eq_true (by kernel_rfl)) (by unfold Func.isWrapper; first | (rw [if_pos (by decide +kernel)]; kernel_rfl) | (rw [if_neg (by decide +kernel)]; exact ⟨rfl, rfl⟩))
    (fun os started H enc _ => BitsCombines_lifted os started H enc)

end Go.Proofs.Ytingmncemmipeaa
