/- BitsMakes: for any numbers, Of returns the set of them, or ErrRange if one of them is out of range. Conditions: none. -/
import Derived.Test.YtingmncemmipeaaBitsS
namespace Go.Proofs.Ytingmncemmipeaa
open Go.ChangeShapes Go.WideShapes Go.ChangeAt Go.RowKit Go.Deep Go.Dfl


theorem els_of_has {b : List Nat} {L : List Int} (hL : Asc L) (h0 : ∀ y ∈ L, 0 ≤ y) (h : ∀ y : Nat, hasN b y = decide ((y : Int) ∈ L)) : els b = L := by
  refine Asc.ext (els_asc b) hL fun x => ?_
  rw [mem_els]
  constructor
  · rintro ⟨m, rfl, hm⟩
    rw [h] at hm; simpa using hm
  · intro hx
    obtain ⟨m, rfl⟩ := Int.eq_ofNat_of_zero_le (h0 x hx)
    exact ⟨m, rfl, by rw [h]; simpa using hx⟩

set_option maxHeartbeats 3200000 in
set_option maxRecDepth 100000 in
theorem BitsMakes_walk (v : Value) (l : List Int) (w : World) (hA : Ints w v l) (_hb : ∀ x ∈ l, -9223372036854775808 ≤ x ∧ x ≤ 9223372036854775807) :
    Calls Try.prog 3 #[v] w (TruePost w) := by
  obtain ⟨pa, ca, rfl, hm, hidx, hcell, -⟩ := hA.out1 sInt
  have H0 := Lib.hid hA
  have HC := Lib.hid hcell
  clear hA hcell _hb
  by_cases hl1 : 300 < l.length
  · go_enter Try.func3, Try.ntmps3
    go_wp2_with fail
    refine (awake_any _).mono ?_; rintro e w5 ⟨rfl, b5⟩
    go_wp2_with fail
    go_ret
    exact ⟨rfl, b5⟩
  have hd1 : decide (300 < l.length) = false := by simpa using hl1
  have h0 : Below w.heap.size w w := Below.refl _ _
  go_enter Try.func3, Try.ntmps3
  go_wp2_with fail
  go_loopw [3] (fun i wr => ∃ n q : Nat, n ≤ l.length ∧ i = .int .i64 n ∧ wr = w.drewN q ∧ Hid ((l.take n).all valB = true)) (fun i _ => l.length - (intOf i).toNat)
  case atStart => exact ⟨0, 0, by omega, rfl, rfl, by show _ = _; simp⟩
  case round =>
    obtain ⟨n, q, hn, rfl, rfl, hh⟩ := hrel
    by_cases hlt : n < l.length
    · have hck := HC.out n hlt
      cases hv : valB (nth l n)
      · go_wp2_with fail
        refine (Elem_any _ _).mono ?_; rintro e W1 ⟨rfl, q1⟩
        have h1 : Below w.heap.size w W1 := (below_drewN h0 _).trans (q1.below _)
        go_wp2_with fail
        refine (Of_any _ l _ (H0.out.below h1)).mono ?_
        rintro e W2 (⟨hall, rfl, q2⟩ | ⟨hall, -⟩)
        · have h2 : Below w.heap.size w W2 := h1.trans (q2.below _)
          go_wp2_with fail
          refine (awake_any _).mono ?_; rintro e w5 ⟨rfl, b5⟩
          go_wp2_with fail
          go_ret
          exact ⟨rfl, h2.trans (b5.mono h2.size)⟩
        · rw [all_bad hlt hv] at hall; simp at hall
      · go_wp2_with fail
        refine (Elem_any _ _).mono ?_; rintro e W1 ⟨rfl, n1, rfl⟩
        have HV := Lib.hid (all_snoc hlt hh.out hv)
        go_wp2_with fail
        go_roundw
        case rel => exact ⟨n + 1, _, by omega, by go_num, rfl, HV.out⟩
        case measure => simp [intOf]; omega
    · obtain rfl : n = l.length := by omega
      have hall : l.all valB = true := by have := hh.out; rwa [List.take_length] at this
      have h0' : Below w.heap.size w (w.drewN q) := below_drewN h0 _
      have HA := Lib.hid hall
      clear hall hh
      go_wp2_with fail
      refine (Of_any _ l _ (H0.out.below h0')).mono ?_
      rintro e W2 (⟨hall, -⟩ | ⟨-, v2, r2, rfl, hF2, hW2, hN2, hl2, hp2, q2⟩)
      · rw [HA.out] at hall; simp at hall
      have h2 : Below w.heap.size w W2 := h0'.trans q2
      have hv0 : ∀ y ∈ l, 0 ≤ y ∧ y < 65536 := fun y hy => by
        have := List.all_eq_true.1 HA.out y hy
        unfold valB at this; simpa using this
      have HF := Lib.hid (And.intro hF2.1 (And.intro hW2 (And.intro hN2 (And.intro hp2 hv0))))
      obtain ⟨s2, c2, rfl, -⟩ := hF2.1.out1 sBits
      clear hF2 hW2 hN2 hp2 hv0
      go_wp2_with fail
      refine (Sorted_any _ l _ (H0.out.below h2) (by omega)).mono ?_
      rintro e W3 ⟨v3, r3, rfl, o3, a3, m3, l3, q3⟩
      have h3 : Below w.heap.size w W3 := h2.trans (q3.mono h2.size)
      obtain ⟨s3, c3, rfl⟩ := o3.shape rfl
      have HS := Lib.hid (And.intro a3 m3)
      have hb3 : ∀ y ∈ r3, 0 ≤ y ∧ y < 67108864 := fun y hy => by
        have := HF.out.2.2.2.2 y ((m3 y).1 hy); omega
      have HB3 := Lib.hid hb3
      clear a3 m3 hb3
      go_wp2_with fail
      refine (Make_any _ r3 _ o3.lst HS.out.1 HB3.out (by omega)).mono ?_
      rintro e W4 ⟨v4, r4, rfl, o4, g1, g2, g3, q4⟩
      have h4 : Below w.heap.size w W4 := h3.trans (q4.mono h3.size)
      obtain ⟨s4, c4, rfl⟩ := o4.shape rfl
      obtain rfl : r2 = r4 := norm_ext HF.out.2.1 g1 HF.out.2.2.1 g2 fun y => by
        rw [HF.out.2.2.2.1 y, g3 y, decide_eq_decide]; exact (HS.out.2 _).symm
      have HE : Hid (els r2 = r3) := els_of_has HS.out.1 (fun y hy => (HB3.out y hy).1) g3
      have l4 := o4.lst
      clear g1 g2 g3 o4
      go_wp2_with fail
      refine (Equal_any _ _ r2 r2 _ ((HF.out.1.below q3).below q4) l4).mono ?_; rintro e W5 ⟨rfl, q5⟩
      have h5 : Below w.heap.size w W5 := h4.trans (q5.below _)
      simp only [decide_true]
      go_wp2_with fail
      refine (List_any _ r2 _ (((HF.out.1.below q3).below q4).below (q5.below _)) HF.out.2.1 (by omega)).mono ?_
      rintro e W6 ⟨v6, rfl, o6, q6⟩
      have h6 : Below w.heap.size w W6 := h5.trans (q6.mono h5.size)
      rw [HE.out] at o6
      obtain ⟨s6, c6, rfl⟩ := o6.shape rfl
      go_wp2_with fail
      refine (Sorted_any _ l _ (H0.out.below h6) (by omega)).mono ?_
      rintro e W7 ⟨v7, r7, rfl, o7, a7, m7, l7, q7⟩
      have h7 : Below w.heap.size w W7 := h6.trans (q7.mono h6.size)
      obtain ⟨s7, c7, rfl⟩ := o7.shape rfl
      obtain rfl : r3 = r7 := Asc.ext HS.out.1 a7 fun y => (HS.out.2 y).trans (m7 y).symm
      clear a7 m7
      go_wp2_with fail
      refine (EqualInts_any _ _ r3 r3 _ (o6.lst.below q7) o7.lst).mono ?_; rintro e W8 ⟨rfl, q8⟩
      have h8 : Below w.heap.size w W8 := h7.trans (q8.below _)
      simp only [decide_true]
      go_wp2_with fail
      refine (awake_any _).mono ?_; rintro e w5 ⟨rfl, b5⟩
      go_wp2_with fail
      go_ret
      exact ⟨rfl, h8.trans (b5.mono h8.size)⟩

set_option maxRecDepth 100000 in
theorem BitsMakes_lifted (os : Os) (started : os.Started) (H : Type) (enc : TypeId × Value → H) :
    ReturnsInHanded {} Try.checked os 3 .any (Rows.bitsMakesSpec.pre6 enc Try.prog Try.f3 Rows.bitsMakesRow.domain false) (Rows.bitsMakesSpec.post enc Try.prog Try.f3 false true false false) := by
  refine returnsInHanded_of_change (C := Try.checked) own started (by kernel_rfl) Try.func3
    (ChangeSpec.witness6 (enc := enc) (C := Try.checked) false ⟨#[], #[.slice none 0 0], []⟩ 8 (by kernel_rfl) (by kernel_rfl) (by kernel_rfl) (by kernel_rfl)) ?_
  intro W base args ds gs before hval0 hW hcnd _
  have hval : ∀ (j : Nat) t v, Try.f3.params[j]? = some t → args[j]? = some v → Value.okWide Try.prog W .any base t v := hval0
  have hW' := hW
  obtain ⟨p, q, hA0, hV, rfl, hfz, hnd⟩ := hW
  have hA : DataW.TrodAll enc Try.prog W 0 (fun _ => true) true Try.f3.params.toList args.toList ds p := hA0
  rw [Try.params3] at hA hval
  obtain ⟨v0, vs0, d0, ds0, p0, q0, hargs, rfl, rfl, h0, r0⟩ := trodAll_cons hA
  obtain ⟨rfl, rfl, rfl⟩ := trodAll_nil r0
  obtain rfl : args = #[v0] := by cases args; simp_all
  obtain ⟨rfl, rfl⟩ := trodVars_none hV
  obtain ⟨a0, len0, cap0, rfl⟩ := okWide_slice Try.underlying22 (hval 0 22 v0 rfl rfl)
  have k0 := h0
  have lt0 : ∀ x ∈ p0, x.block < W.heap.size := by obtain ⟨m, hm⟩ := k0; exact DataW.trod_lt m _ _ _ hm
  obtain ⟨l0, hl0, hI0, b0⟩ := ints_of_trod Try.underlying22 Try.underlying3 (by kernel_rfl) h0
  clear hA0 hval0
  refine (BitsMakes_walk _ l0 W hI0 b0).mono fun e W' ⟨he, bel⟩ => ?_
  subst he
  exact ⟨_, rfl, _, _, _, [], _, [], hW', trodAll_mk1 (shut_bool Try.underlying4 _), (trodAll_cons_mk (Below.trod laidOut (by kernel_rfl) (of_decide_eq_true (by kernel_rfl)) k0 bel lt0) trodAll_mk0), rfl, bel.frame _, fun h => by cases h⟩

/-- The given statement. -/
theorem BitsMakes_holds : Rows.BitsMakesSaid :=
  OpenClaim.holds_of_wide 3 Try.f3 rfl rfl rfl rfl rfl rfl rfl ⟨rfl, rfl, rfl, rfl, rfl⟩ rfl rfl rfl rfl rfl (by kernel_rfl) Try.func3 (by kernel_rfl)
    (of_decide_eq_true (by kernel_rfl)) (by unfold Func.isWrapper; first | (rw [if_pos (by decide +kernel)]; kernel_rfl) | (rw [if_neg (by decide +kernel)]; exact ⟨rfl, rfl⟩))
    (fun os started H enc _ => BitsMakes_lifted os started H enc)

end Go.Proofs.Ytingmncemmipeaa
