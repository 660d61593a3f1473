/- PartitionEquivalent: for any list of numbers and three members, Same is an equivalence. Conditions: none. -/
import Derived.Test.YtmgeadhiohlblaaLawOf
namespace Go.Proofs.Ytmgeadhiohlblaa
open Go.ChangeShapes Go.WideShapes Go.ChangeAt Go.RowKit Go.Dfl

theorem sameB_symm (l : List Int) (x y : Int) : sameB l x y = sameB l y x := by
  rw [Bool.eq_iff_iff]
  simp only [sameB, Bool.and_eq_true, beq_iff_eq]
  constructor <;> (rintro ⟨⟨⟨a, b⟩, c⟩, d⟩; exact ⟨⟨⟨a, c⟩, b⟩, d.symm⟩)
theorem sameB_trans {l : List Int} {x y z : Int} (h : sameB l x y = true) (k : sameB l y z = true) : sameB l x z = true := by
  simp only [sameB, Bool.and_eq_true, beq_iff_eq] at *
  obtain ⟨⟨⟨a, b⟩, c⟩, d⟩ := h
  obtain ⟨⟨⟨a', b'⟩, c'⟩, d'⟩ := k
  exact ⟨⟨⟨a, b⟩, c'⟩, d.trans d'⟩
theorem sameB_self (l : List Int) (x : Int) : sameB l x x = ((chk l == 0) && memB l.length x) := by
  rw [Bool.eq_iff_iff]
  simp only [sameB, Bool.and_eq_true, beq_iff_eq, and_true]
  constructor
  · rintro ⟨⟨a, b⟩, c⟩; exact ⟨a, b⟩
  · rintro ⟨a, b⟩; exact ⟨⟨a, b⟩, b⟩
theorem sameB_in {l : List Int} {x y : Int} (h : sameB l x y = true) : chk l = 0 ∧ 0 ≤ x ∧ x < l.length := by
  simp only [sameB, Bool.and_eq_true, beq_iff_eq, memB_iff] at h
  exact ⟨h.1.1.1, h.1.1.2⟩


set_option maxHeartbeats 3200000 in
theorem PartitionEquivalent_walk (v : Value) (l : List Int) (v' : Value) (m : List Int) (w : World) (h : Ints w v l) (_ : ∀ x ∈ l, -9223372036854775808 ≤ x ∧ x ≤ 9223372036854775807) (h' : Ints w v' m) (_ : ∀ x ∈ m, -9223372036854775808 ≤ x ∧ x ≤ 9223372036854775807) :
    Calls Try.prog 4 #[v, v'] w (TruePost w) := by
  have hI := h
  obtain ⟨a, cap, rfl, hm, -⟩ := h.out1 sInt
  obtain ⟨a', cap', rfl, hm', hidx, hcell, -⟩ := h'.out1 sInt
  clear h h'
  by_cases hlen : 8200 < l.length
  · go_enter Try.func4, Try.ntmps4
    go_wp2_with fail
    refine (awake_any _).mono ?_; rintro e w' ⟨rfl, hb⟩
    go_wp2_with fail
    go_ret
    exact ⟨rfl, hb⟩
  have hd : decide (8200 < l.length) = false := by simpa using hlen
  by_cases h3 : ¬ m.length = 3
  · have h3' : ((m.length : Int) != 3) = true := by simp; omega
    go_enter Try.func4, Try.ntmps4
    go_wp2_with fail
    refine (awake_any _).mono ?_; rintro e w' ⟨rfl, hb⟩
    go_wp2_with fail
    go_ret
    exact ⟨rfl, hb⟩
  have h3' : ((m.length : Int) != 3) = false := by simp; omega
  have i0 := hidx .i64 0 (by omega) (by omega)
  have i1 := hidx .i64 1 (by omega) (by omega)
  have i2 := hidx .i64 2 (by omega) (by omega)
  have c0 := hcell 0 (by omega)
  have c1 := hcell 1 (by omega)
  have c2 := hcell 2 (by omega)
  generalize nth m 0 = x at c0
  generalize nth m 1 = y at c1
  generalize nth m 2 = z at c2
  simp only [Int.toNat_zero, Int.toNat_one, Nat.add_zero, show (2 : Int).toNat = 2 from rfl] at i0 i1 i2 c0 c1 c2
  have H3 := Lib.hid h3
  clear hidx hcell h3
  cases hxy : sameB l x y
  · have hyx : sameB l y x = false := by rw [sameB_symm, hxy]
    by_cases h0 : chk l = 0
    · have h0' : (chk l == 0) = true := by simpa using h0
      by_cases hx0 : 0 ≤ x
      · by_cases hx1 : x < l.length
        · have hxx : sameB l x x = true := by rw [sameB_self, h0']; simp only [Bool.true_and, memB_iff]; exact ⟨hx0, hx1⟩
          clear h0
          go_enter Try.func4, Try.ntmps4
          go_wp2_with fail
          go_quiet (fail)
          go_wp2_with fail
          refine (Same_any _ l x y _ (hI.qt (Qt.drewN _ _))).mono ?_; rintro e w' ⟨rfl, r1, rfl⟩
          go_wp2_with fail
          refine (Same_any _ l y x _ (hI.qt (Qt.drewN _ _))).mono ?_; rintro e w' ⟨rfl, r2, rfl⟩
          go_wp2_with fail
          refine (Same_any _ l x y _ (hI.qt (Qt.drewN _ _))).mono ?_; rintro e w' ⟨rfl, r3, rfl⟩
          go_wp2_with fail
          refine (RCheck_any _ l _ (hI.qt (Qt.drewN _ _))).mono ?_; rintro e w' ⟨rfl, q1, rfl⟩
          go_wp2_with fail
          refine (Same_any _ l x x _ (hI.qt (Qt.drewN _ _))).mono ?_; rintro e w' ⟨rfl, q2, rfl⟩
          go_wp2_with fail
          refine (awake_any _).mono ?_; rintro e w5 ⟨rfl, b5⟩
          go_wp2_with fail
          go_ret
          exact ⟨rfl, (below_drewN (Below.refl _ _) _).trans (b5.mono (by simp))⟩
        · have hxx : sameB l x x = false := by rw [sameB_self, Bool.and_eq_false_iff]; right; rw [Bool.eq_false_iff, ne_eq, memB_iff]; omega
          have hx1' : decide (x < (l.length : Int)) = false := by simpa using hx1
          clear h0
          go_enter Try.func4, Try.ntmps4
          go_wp2_with fail
          go_quiet (fail)
          go_wp2_with fail
          refine (Same_any _ l x y _ (hI.qt (Qt.drewN _ _))).mono ?_; rintro e w' ⟨rfl, r1, rfl⟩
          go_wp2_with fail
          refine (Same_any _ l y x _ (hI.qt (Qt.drewN _ _))).mono ?_; rintro e w' ⟨rfl, r2, rfl⟩
          go_wp2_with fail
          refine (Same_any _ l x y _ (hI.qt (Qt.drewN _ _))).mono ?_; rintro e w' ⟨rfl, r3, rfl⟩
          go_wp2_with fail
          refine (RCheck_any _ l _ (hI.qt (Qt.drewN _ _))).mono ?_; rintro e w' ⟨rfl, q1, rfl⟩
          go_wp2_with fail
          refine (Same_any _ l x x _ (hI.qt (Qt.drewN _ _))).mono ?_; rintro e w' ⟨rfl, q2, rfl⟩
          go_wp2_with fail
          refine (awake_any _).mono ?_; rintro e w5 ⟨rfl, b5⟩
          go_wp2_with fail
          go_ret
          exact ⟨rfl, (below_drewN (Below.refl _ _) _).trans (b5.mono (by simp))⟩
      · have hxx : sameB l x x = false := by rw [sameB_self, Bool.and_eq_false_iff]; right; rw [Bool.eq_false_iff, ne_eq, memB_iff]; omega
        have hx0' : decide (0 ≤ x) = false := by simpa using hx0
        clear h0
        go_enter Try.func4, Try.ntmps4
        go_wp2_with fail
        go_quiet (fail)
        go_wp2_with fail
        refine (Same_any _ l x y _ (hI.qt (Qt.drewN _ _))).mono ?_; rintro e w' ⟨rfl, r1, rfl⟩
        go_wp2_with fail
        refine (Same_any _ l y x _ (hI.qt (Qt.drewN _ _))).mono ?_; rintro e w' ⟨rfl, r2, rfl⟩
        go_wp2_with fail
        refine (Same_any _ l x y _ (hI.qt (Qt.drewN _ _))).mono ?_; rintro e w' ⟨rfl, r3, rfl⟩
        go_wp2_with fail
        refine (RCheck_any _ l _ (hI.qt (Qt.drewN _ _))).mono ?_; rintro e w' ⟨rfl, q1, rfl⟩
        go_wp2_with fail
        refine (Same_any _ l x x _ (hI.qt (Qt.drewN _ _))).mono ?_; rintro e w' ⟨rfl, q2, rfl⟩
        go_wp2_with fail
        refine (awake_any _).mono ?_; rintro e w5 ⟨rfl, b5⟩
        go_wp2_with fail
        go_ret
        exact ⟨rfl, (below_drewN (Below.refl _ _) _).trans (b5.mono (by simp))⟩
    · have h0' : (chk l == 0) = false := by simpa using h0
      have hxx : sameB l x x = false := by rw [sameB_self, h0']; rfl
      clear h0
      go_enter Try.func4, Try.ntmps4
      go_wp2_with fail
      go_quiet (fail)
      go_wp2_with fail
      refine (Same_any _ l x y _ (hI.qt (Qt.drewN _ _))).mono ?_; rintro e w' ⟨rfl, r1, rfl⟩
      go_wp2_with fail
      refine (Same_any _ l y x _ (hI.qt (Qt.drewN _ _))).mono ?_; rintro e w' ⟨rfl, r2, rfl⟩
      go_wp2_with fail
      refine (Same_any _ l x y _ (hI.qt (Qt.drewN _ _))).mono ?_; rintro e w' ⟨rfl, r3, rfl⟩
      go_wp2_with fail
      refine (RCheck_any _ l _ (hI.qt (Qt.drewN _ _))).mono ?_; rintro e w' ⟨rfl, q1, rfl⟩
      go_wp2_with fail
      refine (Same_any _ l x x _ (hI.qt (Qt.drewN _ _))).mono ?_; rintro e w' ⟨rfl, q2, rfl⟩
      go_wp2_with fail
      refine (awake_any _).mono ?_; rintro e w5 ⟨rfl, b5⟩
      go_wp2_with fail
      go_ret
      exact ⟨rfl, (below_drewN (Below.refl _ _) _).trans (b5.mono (by simp))⟩
  · have hyx : sameB l y x = true := by rw [sameB_symm, hxy]
    obtain ⟨h0, hx0, hx1⟩ := sameB_in hxy
    have h0' : (chk l == 0) = true := by simpa using h0
    have hxx : sameB l x x = true := sameB_trans hxy hyx
    clear h0
    cases hyz : sameB l y z
    · go_enter Try.func4, Try.ntmps4
      go_wp2_with fail
      go_quiet (fail)
      go_wp2_with fail
      refine (Same_any _ l x y _ (hI.qt (Qt.drewN _ _))).mono ?_; rintro e w' ⟨rfl, r1, rfl⟩
      go_wp2_with fail
      refine (Same_any _ l y x _ (hI.qt (Qt.drewN _ _))).mono ?_; rintro e w' ⟨rfl, r2, rfl⟩
      go_wp2_with fail
      refine (Same_any _ l x y _ (hI.qt (Qt.drewN _ _))).mono ?_; rintro e w' ⟨rfl, r3, rfl⟩
      go_wp2_with fail
      refine (Same_any _ l y z _ (hI.qt (Qt.drewN _ _))).mono ?_; rintro e w' ⟨rfl, r4, rfl⟩
      go_wp2_with fail
      refine (RCheck_any _ l _ (hI.qt (Qt.drewN _ _))).mono ?_; rintro e w' ⟨rfl, q1, rfl⟩
      go_wp2_with fail
      refine (Same_any _ l x x _ (hI.qt (Qt.drewN _ _))).mono ?_; rintro e w' ⟨rfl, q2, rfl⟩
      go_wp2_with fail
      refine (awake_any _).mono ?_; rintro e w5 ⟨rfl, b5⟩
      go_wp2_with fail
      go_ret
      exact ⟨rfl, (below_drewN (Below.refl _ _) _).trans (b5.mono (by simp))⟩
    · have hxz := sameB_trans hxy hyz
      go_enter Try.func4, Try.ntmps4
      go_wp2_with fail
      go_quiet (fail)
      go_wp2_with fail
      refine (Same_any _ l x y _ (hI.qt (Qt.drewN _ _))).mono ?_; rintro e w' ⟨rfl, r1, rfl⟩
      go_wp2_with fail
      refine (Same_any _ l y x _ (hI.qt (Qt.drewN _ _))).mono ?_; rintro e w' ⟨rfl, r2, rfl⟩
      go_wp2_with fail
      refine (Same_any _ l x y _ (hI.qt (Qt.drewN _ _))).mono ?_; rintro e w' ⟨rfl, r3, rfl⟩
      go_wp2_with fail
      refine (Same_any _ l y z _ (hI.qt (Qt.drewN _ _))).mono ?_; rintro e w' ⟨rfl, r4, rfl⟩
      go_wp2_with fail
      refine (Same_any _ l x z _ (hI.qt (Qt.drewN _ _))).mono ?_; rintro e w' ⟨rfl, r5, rfl⟩
      go_wp2_with fail
      refine (RCheck_any _ l _ (hI.qt (Qt.drewN _ _))).mono ?_; rintro e w' ⟨rfl, q1, rfl⟩
      go_wp2_with fail
      refine (Same_any _ l x x _ (hI.qt (Qt.drewN _ _))).mono ?_; rintro e w' ⟨rfl, q2, rfl⟩
      go_wp2_with fail
      refine (awake_any _).mono ?_; rintro e w5 ⟨rfl, b5⟩
      go_wp2_with fail
      go_ret
      exact ⟨rfl, (below_drewN (Below.refl _ _) _).trans (b5.mono (by simp))⟩

set_option maxRecDepth 100000 in
theorem PartitionEquivalent_lifted (os : Os) (started : os.Started) (H : Type) (enc : TypeId × Value → H) :
    ReturnsInHanded {} Try.checked os 4 .any (Rows.partitionEquivalentSpec.pre6 enc Try.prog Try.f4 Rows.partitionEquivalentRow.domain false) (Rows.partitionEquivalentSpec.post enc Try.prog Try.f4 false true false false) := by
  refine returnsInHanded_of_change (C := Try.checked) own started (by kernel_rfl) Try.func4
    (ChangeSpec.witness6 (enc := enc) (C := Try.checked) false ⟨#[], #[.slice none 0 0, .slice none 0 0], []⟩ 8 (by kernel_rfl) (by kernel_rfl) (by kernel_rfl) (by kernel_rfl)) ?_
  intro W base args ds gs before hval0 hW hcnd _
  have hval : ∀ (j : Nat) t v, Try.f4.params[j]? = some t → args[j]? = some v → Value.okWide Try.prog W .any base t v := hval0
  have hW' := hW
  obtain ⟨p, q, hA0, hV, rfl, hfz, hnd⟩ := hW
  have hA : DataW.TrodAll enc Try.prog W 0 (fun _ => true) true Try.f4.params.toList args.toList ds p := hA0
  rw [Try.params4] at hA hval
  obtain ⟨v0, vs0, d0, ds0, p0, q0, hargs, rfl, rfl, h0, r0⟩ := trodAll_cons hA
  obtain ⟨v1, vs1, d1, ds1, p1, q1, rfl, rfl, rfl, h1, r1⟩ := trodAll_cons r0
  obtain ⟨rfl, rfl, rfl⟩ := trodAll_nil r1
  obtain rfl : args = #[v0, v1] := by cases args; simp_all
  obtain ⟨rfl, rfl⟩ := trodVars_none hV
  obtain ⟨a0, len0, cap0, rfl⟩ := okWide_slice Try.underlying24 (hval 0 24 v0 rfl rfl)
  have k0 := h0
  have lt0 : ∀ x ∈ p0, x.block < W.heap.size := by obtain ⟨m, hm⟩ := k0; exact DataW.trod_lt m _ _ _ hm
  obtain ⟨l0, hl0, hI0, b0⟩ := ints_of_trod Try.underlying24 Try.underlying3 (by kernel_rfl) h0
  obtain ⟨a1, len1, cap1, rfl⟩ := okWide_slice Try.underlying24 (hval 1 24 v1 rfl rfl)
  have k1 := h1
  have lt1 : ∀ x ∈ p1, x.block < W.heap.size := by obtain ⟨m, hm⟩ := k1; exact DataW.trod_lt m _ _ _ hm
  obtain ⟨l1, hl1, hI1, b1⟩ := ints_of_trod Try.underlying24 Try.underlying3 (by kernel_rfl) h1
  clear hA0 hval0
  refine (PartitionEquivalent_walk _ l0 _ l1 W hI0 b0 hI1 b1).mono fun e W' ⟨he, bel⟩ => ?_
  subst he
  exact ⟨_, rfl, _, _, _, [], _, [], hW', trodAll_mk1 (shut_bool Try.underlying4 _), (trodAll_cons_mk (Below.trod laidOut (by kernel_rfl) (of_decide_eq_true (by kernel_rfl)) k0 bel lt0) (trodAll_cons_mk (Below.trod laidOut (by kernel_rfl) (of_decide_eq_true (by kernel_rfl)) k1 bel lt1) trodAll_mk0)), rfl, bel.frame _, fun h => by cases h⟩

/-- The given statement. -/
theorem PartitionEquivalent_holds : Rows.PartitionEquivalentSaid :=
  OpenClaim.holds_of_wide 4 Try.f4 rfl rfl rfl rfl rfl rfl rfl ⟨rfl, rfl, rfl, rfl, rfl⟩ rfl rfl rfl rfl rfl (by kernel_rfl) Try.func4 (by kernel_rfl)
    (of_decide_eq_true (by kernel_rfl)) (by unfold Func.isWrapper; first | (rw [if_pos (by decide +kernel)]; kernel_rfl) | (rw [if_neg (by decide +kernel)]; exact ⟨rfl, rfl⟩))
    (fun os started H enc _ => PartitionEquivalent_lifted os started H enc)

end Go.Proofs.Ytmgeadhiohlblaa
