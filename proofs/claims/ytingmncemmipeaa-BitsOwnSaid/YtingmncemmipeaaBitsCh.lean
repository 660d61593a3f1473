/- BitsChanges: for any set and numbers, With and Without change the membership of one number alone. Conditions: none. -/
import Derived.Test.YtingmncemmipeaaBitsCo
namespace Go.Proofs.Ytingmncemmipeaa
open Go.ChangeShapes Go.WideShapes Go.ChangeAt Go.RowKit Go.Deep Go.Dfl

set_option maxHeartbeats 800000 in
theorem Drop_any (v : Value) (b : List Nat) (x : Int) (w : World) (hI : Words w v b) (hb : Wds b) (hlen : b.length ≤ 65536) :
    Calls Try.prog 23 #[v, .int .i64 x] w (RSetPost (fun y => hasN b y && !decide ((y : Int) = x)) w) := by
  go_enter Try.func23, Try.ntmps23
  go_wp2_with fail
  refine (RList_any _ b _ hI hb hlen).mono ?_; rintro e w1 ⟨v1, rfl, ho, hbw⟩
  obtain ⟨s1, c1, rfl⟩ := ho.shape rfl
  obtain ⟨a3, c3, he, hm3, hidx, hcell, hblk⟩ := ho.lst.out1 sInt
  simp at he
  obtain ⟨rfl, rfl⟩ := he
  have hXl : (els b).length ≤ 64 * b.length := elsUp_len _ _
  have HF : Hid (Asc (els b) ∧ (∀ z ∈ els b, 0 ≤ z ∧ z < 4194304) ∧ ∀ y : Nat, (y : Int) ∈ els b ↔ hasN b y = true) := ⟨els_asc b, fun z hz => els_bound hlen hz, fun y => by rw [mem_hasI]; simp [hasI]⟩
  have HC := Lib.hid (And.intro hcell hblk)
  clear ho hcell hblk hI hb hm3
  generalize els b = X at *
  go_wp2_with fail
  go_loopw [6, 7] (fun o i wr => ∃ k : Nat, k ≤ X.length ∧ i = .int .i64 k ∧ Hid (OwnI wr w1.heap.size 3 o ((X.take k).filter fun z => !decide (z = x)) ∧ Below w1.heap.size w1 wr)) (fun _ i _ => X.length - (intOf i).toNat)
  case atStart => exact ⟨0, by omega, rfl, Own.nil _ _ _ _, Below.refl _ _⟩
  case round =>
    obtain ⟨k, hk, rfl, hh⟩ := hrel
    by_cases hlt : k < X.length
    · have hck : wr.cell? ⟨blk s1, ofs s1 + k, none⟩ = some (.int .i64 (nth X k)) := by
        rw [hh.out.2.cell (p := ⟨blk s1, ofs s1 + k, none⟩) (HC.out.2 k hlt)]; exact HC.out.1 k hlt
      by_cases hx : nth X k = x
      · have hx' : (nth X k != x) = false := by simpa using hx
        have HX := Lib.hid hx
        clear hx
        go_wp2_with fail
        go_roundw
        case rel => exact ⟨k + 1, by omega, by go_num, by
          rw [take_snoc _ _ hlt, List.filter_append]; simpa [HX.out] using hh.out.1, hh.out.2⟩
        case measure => simp [intOf]; omega
      · have hx' : (nth X k != x) = true := by simpa using hx
        have HX := Lib.hid hx
        clear hx
        have hsz := hh.out.2.size
        have hll : ((X.take k).filter fun z => !decide (z = x)).length < 17592186044416 := Nat.lt_of_le_of_lt (List.length_filter_le _ _) (by simp; omega)
        have HL := Lib.hid hll
        clear hll
        go_wp2_with (at_builtin; refine wp_append1 (f := Value.int .i64) sInt rfl _ rfl _ _ rfl w1.heap.size _ ((X.take k).filter fun z => !decide (z = x)) rfl (hh.out.1.alloc _) (nth X k) ⟨wr.heap.size, 0, none⟩ rfl (cell_alloc1 _ _ _) rfl HL.out (by omega) (le_alloc _ hsz) ?_; intro v' w3 hown hgr hb3)
        go_roundw
        case rel => exact ⟨k + 1, by omega, by go_num, by
          rw [take_snoc _ _ hlt, List.filter_append]; simpa [HX.out] using hown, (hh.out.2.alloc hh.out.2.size _).trans hb3⟩
        case measure => simp [intOf]; omega
    · obtain rfl : k = X.length := by omega
      have HD := Lib.hid hh.out
      clear hh
      go_wp2_with fail
      obtain ⟨h1, h2⟩ := HD.out
      rw [List.take_length] at h1
      refine (Make_set (w0 := w) (p := fun y => hasN b y && !decide ((y : Int) = x)) h1.lst ?_ ?_ ?_ ?_ (hbw.trans (h2.mono hbw.size))).mono ?_
      · exact List.Pairwise.filter _ HF.out.1
      · intro y hy; exact HF.out.2.1 y (List.mem_filter.1 hy).1
      · exact Nat.le_trans (List.length_filter_le _ _) (by omega)
      · intro y
        rw [Bool.eq_iff_iff, decide_eq_true_eq, List.mem_filter, HF.out.2.2 y, Bool.and_eq_true]
      rintro e w5 ⟨s5, m5, c5, r5, rfl, q1, q2, q3, q4, q5⟩
      go_wp2_with fail
      go_ret
      exact ⟨s5, m5, c5, r5, rfl, q1, q2, q3, q4, q5⟩



theorem Has_set {v : Value} {p : Nat → Bool} {n : Nat} {x : Int} {w : World} (h : NSet w v p n) (hx2 : x ≤ 9223372036854775807) {b : Bool} (hb : b = (decide (0 ≤ x) && p x.toNat)) : Calls Try.prog 20 #[v, .int .i64 x] w (fun e w' => e = .returned (.bool b) ∧ Qt w w') := by
  obtain ⟨r, k1, k2, k3, k4, k5⟩ := h
  exact (Has_any v r x w k1 k2 hx2).mono fun e w' ⟨he, hq⟩ => ⟨by rw [he, hb, hasI, k5], hq⟩

theorem lit_int1 (w : World) (x : Int) (t : TypeId) : Ints (w.alloc (.cells #[.int .i64 x] t)) (.slice (some ⟨w.heap.size, 0, none⟩) 1 1) [x] := by
  refine ⟨some ⟨w.heap.size, 0, none⟩, 1, rfl, by simp, by unfold maxLen; omega, fun i hi => ⟨rfl, by simp [blk], fun j hj => ?_⟩⟩
  simp at hi
  obtain rfl : j = 0 := by omega
  obtain rfl : i = 0 := by omega
  simp only [blk, ofs]
  exact cell_alloc1 _ _ _

set_option maxHeartbeats 3200000 in
set_option maxRecDepth 100000 in
theorem BitsChanges_walk (v : Value) (a : List Nat) (x y : Int) (w : World) (hA : Words w v a) (ha : Wds a) (hx : -9223372036854775808 ≤ x ∧ x ≤ 9223372036854775807) (hy : -9223372036854775808 ≤ y ∧ y ≤ 9223372036854775807) :
    Calls Try.prog 5 #[v, .int .i64 x, .int .i64 y] w (TruePost w) := by
  obtain ⟨pa, ca, rfl, hm, -⟩ := hA.out1 sBits
  have HX := Lib.hid ha
  clear ha
  by_cases hl1 : 1100 < a.length
  · go_enter Try.func5, Try.ntmps5
    go_wp2_with fail
    refine (awake_any _).mono ?_; rintro e w5 ⟨rfl, b5⟩
    go_wp2_with fail
    go_ret
    exact ⟨rfl, b5⟩
  have hd1 : decide (1100 < a.length) = false := by simpa using hl1
  have h0 : Below w.heap.size w w := Below.refl _ _
  have H0 := Lib.hid hA
  clear hA
  go_enter Try.func5, Try.ntmps5
  go_wp2_with fail
  refine (With_any _ a x _ (H0.out.below h0) HX.out (by omega)).mono ?_
  rintro e W1 (⟨hval, rfl, q1⟩ | ⟨hval, v1, r1, rfl, hF1, hW1, hN1, hl1, hp1, q1⟩)
  · have h1 : Below w.heap.size w W1 := h0.trans (q1.below _)
    go_wp2_with fail
    refine (Without_any _ a x _ (H0.out.below h1) HX.out (by omega) hx.2).mono ?_
    rintro e W2 ⟨v2, r2, rfl, hF2, hW2, hN2, hl2, hp2, q2⟩
    have h2 : Below w.heap.size w W2 := h1.trans (q2.mono h1.size)
    have n2 : NSet W2 v2 _ _ := ⟨r2, hF2.1, hW2, hN2, hl2, hp2⟩
    obtain ⟨s2, c2, rfl, -⟩ := hF2.1.out1 sBits
    clear hF2 hW2 hN2 hp2
    go_wp2_with fail
    refine (Elem_any x _).mono ?_; rintro e W3 ⟨rfl, q3⟩
    have h3 : Below w.heap.size w W3 := h2.trans (q3.below _)
    go_wp2_with fail
    refine (Drop_any _ a x _ (H0.out.below h3) HX.out (by omega)).mono ?_; rintro e W4 ⟨s4, m4, c4, r4, rfl, d1, d2, d3, d4, q4⟩
    have h4 : Below w.heap.size w W4 := h3.trans (q4.mono h3.size)
    go_wp2_with fail
    refine (Equal_sets ((n2.below (q3.below _)).below q4) d1 d2 d3 d4 (fun x => rfl)).mono ?_; rintro e W5 ⟨rfl, q5⟩
    have h5 : Below w.heap.size w W5 := h4.trans (q5.mono h4.size)
    clear d1 d2 d3 d4
    go_wp2_with fail
    refine (awake_any _).mono ?_; rintro e w5 ⟨rfl, b5⟩
    go_wp2_with fail
    go_ret
    exact ⟨rfl, h5.trans (b5.mono h5.size)⟩
  · have h1 : Below w.heap.size w W1 := h0.trans q1
    have n1 : NSet W1 v1 _ _ := ⟨r1, hF1.1, hW1, hN1, hl1, hp1⟩
    obtain ⟨s1, c1, rfl, -⟩ := hF1.1.out1 sBits
    clear hF1 hW1 hN1 hp1
    go_wp2_with fail
    refine (Without_any _ a x _ (H0.out.below h1) HX.out (by omega) hx.2).mono ?_
    rintro e W2 ⟨v2, r2, rfl, hF2, hW2, hN2, hl2, hp2, q2⟩
    have h2 : Below w.heap.size w W2 := h1.trans (q2.mono h1.size)
    have n2 : NSet W2 v2 _ _ := ⟨r2, hF2.1, hW2, hN2, hl2, hp2⟩
    obtain ⟨s2, c2, rfl, -⟩ := hF2.1.out1 sBits
    clear hF2 hW2 hN2 hp2
    go_wp2_with fail
    refine (Elem_any x _).mono ?_; rintro e W3 ⟨rfl, q3⟩
    have h3 : Below w.heap.size w W3 := h2.trans (q3.below _)
    have hx0 : 0 ≤ x := by unfold valB at hval; simp at hval; omega
    have n1' := (n1.below q2).below (q3.below _)
    have n2' := n2.below (q3.below _)
    have hx3 : (decide (0 ≤ x) && (hasN a x.toNat || decide ((x.toNat : Int) = x))) = true := by rw [Int.toNat_of_nonneg hx0]; simp [hx0]
    have hx4 : (decide (0 ≤ x) && (hasN a x.toNat && !decide ((x.toNat : Int) = x))) = false := by rw [Int.toNat_of_nonneg hx0]; simp [hx0]
    have HV := Lib.hid (And.intro n1' (And.intro n2' (And.intro hx3 hx4)))
    clear n1 n2 n1' n2' hx3 hx4
    go_wp2_with fail
    refine (Has_set HV.out.1 hx.2 HV.out.2.2.1.symm).mono ?_; rintro e W4 ⟨rfl, q4⟩
    have h4 : Below w.heap.size w W4 := h3.trans (q4.below _)
    go_wp2_with fail
    refine (Has_set (HV.out.2.1.below (q4.below _)) hx.2 HV.out.2.2.2.symm).mono ?_; rintro e W5 ⟨rfl, q5⟩
    have h5 : Below w.heap.size w W5 := h4.trans (q5.below _)
    have HN : Hid (NSet W5 (.slice s1 r1.length c1) (fun y => hasN a y || decide ((y : Int) = x)) (a.length + 1024) ∧ NSet W5 (.slice s2 r2.length c2) (fun y => hasN a y && !decide ((y : Int) = x)) a.length) :=
      ⟨(HV.out.1.below (q4.below _)).below (q5.below _), (HV.out.2.1.below (q4.below _)).below (q5.below _)⟩
    by_cases hxy : x = y
    · have hxy' : (x != y) = false := by simpa using hxy
      clear hxy
      go_wp2_with fail
      have HB : Hid (0 ≤ x ∧ x < 65536) := by show _ ∧ _; unfold valB at hval; simpa using hval
      refine (Make_any _ [x] _ (lit_int1 _ _ _) (by simp [Asc]) (by intro z hz; simp at hz; have := HB.out; omega) (by simp)).mono ?_
      rintro e W20 ⟨v20, r20, rfl, o20, g1, g2, g3, b20⟩
      have h20 : Below w.heap.size w W20 := (h5.alloc h5.size _).trans (b20.mono (by have := h5.size; simp; omega))
      obtain ⟨s20, c20, rfl⟩ := o20.shape rfl
      have l20 := o20.lst
      have hlen20 : r20.length ≤ 1025 := by
        rcases g2 with e | e
        · omega
        · rcases Nat.lt_or_ge r20.length 1026 with h | h
          · omega
          · exfalso
            apply e
            have hz : ∀ y, 65536 ≤ y → hasN r20 y = false := by
              intro y hy; rw [g3]; simp; have := HB.out; omega
            apply Nat.eq_of_testBit_eq
            intro i
            by_cases hi : i < 64
            · have := hz ((r20.length - 1) * 64 + i) (by omega)
              rw [hasN_at _ _ _ hi] at this; rw [this]; simp
            · rw [(g1 _).bit i (by omega)]; simp
      have HG := Lib.hid (And.intro g1 (And.intro l20 g3))
      have HN3 : Hid (NSet W20 (.slice s1 r1.length c1) (fun y => hasN a y || decide ((y : Int) = x)) (a.length + 1024) ∧ NSet W20 (.slice s2 r2.length c2) (fun y => hasN a y && !decide ((y : Int) = x)) a.length) := by
        have hbb := ((Below.refl _ W5).alloc (Nat.le_refl _) (.cells #[.int .i64 x] 3)).trans (b20.mono (by simp))
        exact ⟨HN.out.1.below hbb, HN.out.2.below hbb⟩
      clear o20 g1 g2 g3 l20 HB HN
      go_wp2_with fail
      refine (RUnion_any _ _ a r20 _ (H0.out.below h20) HG.out.2.1 HX.out HG.out.1 (by omega) (by omega)).mono ?_; rintro e W21 ⟨s21, m21, c21, r21, rfl, d1, d2, d3, d4, q21⟩
      have h21 : Below w.heap.size w W21 := h20.trans (q21.mono h20.size)
      go_wp2_with fail
      refine (Equal_sets (HN3.out.1.below q21) d1 d2 d3 d4 (fun z => by rw [HG.out.2.2 z]; simp)).mono ?_; rintro e W22 ⟨rfl, q22⟩
      have h22 : Below w.heap.size w W22 := h21.trans (q22.mono h21.size)
      clear d1 d2 d3 d4
      go_wp2_with fail
      refine (Drop_any _ a x _ (H0.out.below h22) HX.out (by omega)).mono ?_; rintro e W23 ⟨s23, m23, c23, r23, rfl, d1, d2, d3, d4, q23⟩
      have h23 : Below w.heap.size w W23 := h22.trans (q23.mono h22.size)
      go_wp2_with fail
      refine (Equal_sets (((HN3.out.2.below q21).below q22).below q23) d1 d2 d3 d4 (fun z => rfl)).mono ?_; rintro e W24 ⟨rfl, q24⟩
      have h24 : Below w.heap.size w W24 := h23.trans (q24.mono h23.size)
      clear d1 d2 d3 d4
      go_wp2_with fail
      refine (awake_any _).mono ?_; rintro e w5 ⟨rfl, b5⟩
      go_wp2_with fail
      go_ret
      exact ⟨rfl, h24.trans (b5.mono h24.size)⟩
    · have hxy' : (x != y) = true := by simpa using hxy
      have hc : hasI a y = (decide (0 ≤ y) && (hasN a y.toNat || decide ((y.toNat : Int) = x))) := by
        unfold hasI
        by_cases h : 0 ≤ y
        · rw [Int.toNat_of_nonneg h]; simp [Ne.symm hxy]
        · simp [h]
      have hd : hasI a y = (decide (0 ≤ y) && (hasN a y.toNat && !decide ((y.toNat : Int) = x))) := by
        unfold hasI
        by_cases h : 0 ≤ y
        · rw [Int.toNat_of_nonneg h]; simp [Ne.symm hxy]
        · simp [h]
      have HXY := Lib.hid (And.intro hc hd)
      clear hxy hc hd
      go_wp2_with fail
      refine (Has_set HN.out.1 hy.2 HXY.out.1).mono ?_; rintro e W6 ⟨rfl, q6⟩
      have h6 : Below w.heap.size w W6 := h5.trans (q6.below _)
      go_wp2_with fail
      refine (RHas_any _ a y _ (H0.out.below h6) HX.out (by omega)).mono ?_; rintro e W7 ⟨rfl, q7⟩
      have h7 : Below w.heap.size w W7 := h6.trans (q7.mono h6.size)
      go_wp2_with fail
      refine (Has_set ((HN.out.2.below (q6.below _)).below q7) hy.2 HXY.out.2).mono ?_; rintro e W8 ⟨rfl, q8⟩
      have h8 : Below w.heap.size w W8 := h7.trans (q8.below _)
      go_wp2_with fail
      refine (RHas_any _ a y _ (H0.out.below h8) HX.out (by omega)).mono ?_; rintro e W9 ⟨rfl, q9⟩
      have h9 : Below w.heap.size w W9 := h8.trans (q9.mono h8.size)
      have HN2 := Lib.hid (And.intro ((((HN.out.1.below (q6.below _)).below q7).below (q8.below _)).below q9) ((((HN.out.2.below (q6.below _)).below q7).below (q8.below _)).below q9))
      clear HN
      have HN := HN2
      clear HN2
      go_wp2_with fail
      have HB : Hid (0 ≤ x ∧ x < 65536) := by show _ ∧ _; unfold valB at hval; simpa using hval
      refine (Make_any _ [x] _ (lit_int1 _ _ _) (by simp [Asc]) (by intro z hz; simp at hz; have := HB.out; omega) (by simp)).mono ?_
      rintro e W20 ⟨v20, r20, rfl, o20, g1, g2, g3, b20⟩
      have h20 : Below w.heap.size w W20 := (h9.alloc h9.size _).trans (b20.mono (by have := h9.size; simp; omega))
      obtain ⟨s20, c20, rfl⟩ := o20.shape rfl
      have l20 := o20.lst
      have hlen20 : r20.length ≤ 1025 := by
        rcases g2 with e | e
        · omega
        · rcases Nat.lt_or_ge r20.length 1026 with h | h
          · omega
          · exfalso
            apply e
            have hz : ∀ y, 65536 ≤ y → hasN r20 y = false := by
              intro y hy; rw [g3]; simp; have := HB.out; omega
            apply Nat.eq_of_testBit_eq
            intro i
            by_cases hi : i < 64
            · have := hz ((r20.length - 1) * 64 + i) (by omega)
              rw [hasN_at _ _ _ hi] at this; rw [this]; simp
            · rw [(g1 _).bit i (by omega)]; simp
      have HG := Lib.hid (And.intro g1 (And.intro l20 g3))
      have HN3 : Hid (NSet W20 (.slice s1 r1.length c1) (fun y => hasN a y || decide ((y : Int) = x)) (a.length + 1024) ∧ NSet W20 (.slice s2 r2.length c2) (fun y => hasN a y && !decide ((y : Int) = x)) a.length) := by
        have hbb := ((Below.refl _ W9).alloc (Nat.le_refl _) (.cells #[.int .i64 x] 3)).trans (b20.mono (by simp))
        exact ⟨HN.out.1.below hbb, HN.out.2.below hbb⟩
      clear o20 g1 g2 g3 l20 HB HN
      go_wp2_with fail
      refine (RUnion_any _ _ a r20 _ (H0.out.below h20) HG.out.2.1 HX.out HG.out.1 (by omega) (by omega)).mono ?_; rintro e W21 ⟨s21, m21, c21, r21, rfl, d1, d2, d3, d4, q21⟩
      have h21 : Below w.heap.size w W21 := h20.trans (q21.mono h20.size)
      go_wp2_with fail
      refine (Equal_sets (HN3.out.1.below q21) d1 d2 d3 d4 (fun z => by rw [HG.out.2.2 z]; simp)).mono ?_; rintro e W22 ⟨rfl, q22⟩
      have h22 : Below w.heap.size w W22 := h21.trans (q22.mono h21.size)
      clear d1 d2 d3 d4
      go_wp2_with fail
      refine (Drop_any _ a x _ (H0.out.below h22) HX.out (by omega)).mono ?_; rintro e W23 ⟨s23, m23, c23, r23, rfl, d1, d2, d3, d4, q23⟩
      have h23 : Below w.heap.size w W23 := h22.trans (q23.mono h22.size)
      go_wp2_with fail
      refine (Equal_sets (((HN3.out.2.below q21).below q22).below q23) d1 d2 d3 d4 (fun z => rfl)).mono ?_; rintro e W24 ⟨rfl, q24⟩
      have h24 : Below w.heap.size w W24 := h23.trans (q24.mono h23.size)
      clear d1 d2 d3 d4
      go_wp2_with fail
      refine (awake_any _).mono ?_; rintro e w5 ⟨rfl, b5⟩
      go_wp2_with fail
      go_ret
      exact ⟨rfl, h24.trans (b5.mono h24.size)⟩

set_option maxRecDepth 100000 in
theorem BitsChanges_lifted (os : Os) (started : os.Started) (H : Type) (enc : TypeId × Value → H) :
    ReturnsInHanded {} Try.checked os 5 .any (Rows.bitsChangesSpec.pre6 enc Try.prog Try.f5 Rows.bitsChangesRow.domain false) (Rows.bitsChangesSpec.post enc Try.prog Try.f5 false true false false) := by
  refine returnsInHanded_of_change (C := Try.checked) own started (by kernel_rfl) Try.func5
    (ChangeSpec.witness6 (enc := enc) (C := Try.checked) false ⟨#[], #[.slice none 0 0, .int .i64 0, .int .i64 0], []⟩ 8 (by kernel_rfl) (by kernel_rfl) (by kernel_rfl) (by kernel_rfl)) ?_
  intro W base args ds gs before hval0 hW hcnd _
  have hval : ∀ (j : Nat) t v, Try.f5.params[j]? = some t → args[j]? = some v → Value.okWide Try.prog W .any base t v := hval0
  have hW' := hW
  obtain ⟨p, q, hA0, hV, rfl, hfz, hnd⟩ := hW
  have hA : DataW.TrodAll enc Try.prog W 0 (fun _ => true) true Try.f5.params.toList args.toList ds p := hA0
  rw [Try.params5] at hA hval
  obtain ⟨v0, vs0, d0, ds0, p0, q0, hargs, rfl, rfl, h0, r0⟩ := trodAll_cons hA
  obtain ⟨v1, vs1, d1, ds1, p1, q1, rfl, rfl, rfl, h1, r1⟩ := trodAll_cons r0
  obtain ⟨v2, vs2, d2, ds2, p2, q2, rfl, rfl, rfl, h2, r2⟩ := trodAll_cons r1
  obtain ⟨rfl, rfl, rfl⟩ := trodAll_nil r2
  obtain rfl : args = #[v0, v1, v2] := by cases args; simp_all
  obtain ⟨rfl, rfl⟩ := trodVars_none hV
  obtain ⟨a0, len0, cap0, rfl⟩ := okWide_slice Try.underlying26 (hval 0 26 v0 rfl rfl)
  have k0 := h0
  have lt0 : ∀ x ∈ p0, x.block < W.heap.size := by obtain ⟨m, hm⟩ := k0; exact DataW.trod_lt m _ _ _ hm
  obtain ⟨l0, hl0, hI0, b0⟩ := words_of_trod Try.underlying26 Try.underlying54 (by kernel_rfl) h0
  obtain ⟨a1, rfl, rfl, rfl, w1⟩ := open_int Try.underlying3 (hval 1 3 v1 rfl rfl) h1
  have b1 := bounds_i64 w1
  obtain ⟨a2, rfl, rfl, rfl, w2⟩ := open_int Try.underlying3 (hval 2 3 v2 rfl rfl) h2
  have b2 := bounds_i64 w2
  clear hA0 hval0
  refine (BitsChanges_walk _ l0 a1 a2 W hI0 b0 b1 b2).mono fun e W' ⟨he, bel⟩ => ?_
  subst he
  exact ⟨_, rfl, _, _, _, [], _, [], hW', trodAll_mk1 (shut_bool Try.underlying4 _), (trodAll_cons_mk (Below.trod laidOut (by kernel_rfl) (of_decide_eq_true (by kernel_rfl)) k0 bel lt0) (trodAll_cons_mk (shut_int Try.underlying3 w1) (trodAll_cons_mk (shut_int Try.underlying3 w2) trodAll_mk0))), rfl, bel.frame _, fun h => by cases h⟩

/-- The given statement. -/
theorem BitsChanges_holds : Rows.BitsChangesSaid :=
  OpenClaim.holds_of_wide 5 Try.f5 rfl rfl rfl rfl rfl rfl rfl ⟨rfl, rfl, rfl, rfl, rfl⟩ rfl rfl rfl rfl rfl (by kernel_rfl) Try.func5 (by kernel_rfl)
    (of_decide_eq_true (by kernel_rfl)) (by unfold Func.isWrapper; first | (rw [if_pos (by decide +kernel)]; kernel_rfl) | (rw [if_neg (by decide +kernel)]; exact ⟨rfl, rfl⟩))
    (fun os started H enc _ => BitsChanges_lifted os started H enc)

end Go.Proofs.Ytingmncemmipeaa
