/- PartitionTells: for any list of numbers and any members, every question and Join are answered as by definition. Conditions: none. -/
import Derived.Test.YtmgeadhiohlblaaLawOf
namespace Go.Proofs.Ytmgeadhiohlblaa
open Go.ChangeShapes Go.WideShapes Go.ChangeAt Go.RowKit Go.Dfl


theorem Join_res {f : FuncId} {args : Array Value} {l : List Int} {x y : Int} {w : World} (h : Calls Try.prog f args w (JoinPost l x y w)) :
    Calls Try.prog f args w (Res (if chk l = 0 ∧ memB l.length x = true ∧ memB l.length y = true then joinOf l x y else []) (if chk l = 0 then (if memB l.length x = true ∧ memB l.length y = true then 0 else 4) else chk l) w) := by
  refine h.mono ?_
  rintro e w' (⟨h1, rfl, hb⟩ | ⟨h1, h2, rfl, hb⟩ | ⟨h1, h2, h3, v, rfl, ho, hb⟩)
  · exact ⟨.slice none 0 0, by simp [h1], by rw [if_neg (by simp [h1])]; exact Lst.nil _ _, hb.below _⟩
  · exact ⟨.slice none 0 0, by rw [if_pos h1, if_neg h2], by rw [if_neg (by simp only [h1, true_and]; exact h2)]; exact Lst.nil _ _, hb.below _⟩
  · exact ⟨v, by simp [h1, h2, h3], by rw [if_pos ⟨h1, h2, h3⟩]; exact ho.lst, hb⟩


set_option maxHeartbeats 3200000 in
set_option maxRecDepth 100000 in
theorem PartitionTells_walk (v : Value) (l : List Int) (x y : Int) (w : World) (h : Ints w v l) (_ : ∀ x ∈ l, -9223372036854775808 ≤ x ∧ x ≤ 9223372036854775807)
    (_ : -9223372036854775808 ≤ x ∧ x ≤ 9223372036854775807) (_ : -9223372036854775808 ≤ y ∧ y ≤ 9223372036854775807) :
    Calls Try.prog 8 #[v, .int .i64 x, .int .i64 y] w (TruePost w) := by
  have hI := h
  obtain ⟨a, cap, rfl, hm, hidx, hcell, hblk⟩ := h.out1 sInt
  clear h
  by_cases hl : 8200 < l.length
  · have hc : chk l = 3 := by rw [chk, if_pos (by omega)]
    have hc' : (chk l == 3) = true := by simp [hc]
    clear hc
    go_enter Try.func8, Try.ntmps8
    go_wp2_with fail
    refine (Check_any _ l _ hI).mono ?_; rintro e w' ⟨rfl, n1, rfl⟩
    go_wp2_with fail
    refine (awake_any _).mono ?_; rintro e w5 ⟨rfl, b5⟩
    go_wp2_with fail
    go_ret
    exact ⟨rfl, (below_drewN (Below.refl _ _) _).trans (b5.mono (by simp))⟩
  obtain ⟨L, E, HJ⟩ : ∃ L E, Hid ((∀ W, Ints W (.slice a l.length cap) l → Calls Try.prog 21 #[.slice a l.length cap, .int .i64 x, .int .i64 y] W (Res L E W)) ∧
      ∀ W, Ints W (.slice a l.length cap) l → Calls Try.prog 22 #[.slice a l.length cap, .int .i64 x, .int .i64 y] W (Res L E W)) :=
    ⟨_, _, fun W hW => Join_res (Join_any _ l x y W hW), fun W hW => Join_res (RJoin_any _ l x y W hW)⟩
  by_cases h0 : chk l = 0
  · have h0' : (chk l != 0) = false := by simpa using h0
    cases hx : memB l.length x
    · have hx' : x < 0 ∨ l.length ≤ x := by have := mt memB_iff.2 (by rw [hx]; simp : ¬ memB l.length x = true); omega
      have hv : findV l x = 0 := by simp [findV, hx]
      have he : findE l x = 4 := by simp [findE, h0, hx]
      have he1 : (findE l x == 4) = true := by simp [he]
      have hv1 : (findV l x == 0) = true := by simp [hv]
      clear h0 hv he hx hidx hcell
      by_cases hx0 : x < 0
      · go_enter Try.func8, Try.ntmps8
        go_wp2_with fail
        refine (Check_any _ l _ hI).mono ?_; rintro e w' ⟨rfl, n1, rfl⟩
        go_wp2_with fail
        refine (RCheck_any _ l _ (hI.qt (by first | exact Qt.refl _ | exact Qt.drewN _ _ | exact (Qt.drewN _ _).trans (Qt.drewN _ _) | exact ((Qt.drewN _ _).trans (Qt.drewN _ _)).trans (Qt.drewN _ _) | exact Qt.drew _ | exact (Qt.drewN _ _).trans (Qt.drew _)))).mono ?_; rintro e w' ⟨rfl, n2, rfl⟩
        go_wp2_with fail
        refine (Same_any _ l x y _ (hI.qt (by first | exact Qt.refl _ | exact Qt.drewN _ _ | exact (Qt.drewN _ _).trans (Qt.drewN _ _) | exact ((Qt.drewN _ _).trans (Qt.drewN _ _)).trans (Qt.drewN _ _) | exact Qt.drew _ | exact (Qt.drewN _ _).trans (Qt.drew _)))).mono ?_; rintro e w' ⟨rfl, n3, rfl⟩
        go_wp2_with fail
        refine (RSame_any _ l x y _ (hI.qt (by first | exact Qt.refl _ | exact Qt.drewN _ _ | exact (Qt.drewN _ _).trans (Qt.drewN _ _) | exact ((Qt.drewN _ _).trans (Qt.drewN _ _)).trans (Qt.drewN _ _) | exact Qt.drew _ | exact (Qt.drewN _ _).trans (Qt.drew _)))).mono ?_; rintro e w' ⟨rfl, n4, rfl⟩
        go_wp2_with fail
        refine (HJ.out.1 _ (hI.qt (by first | exact Qt.refl _ | exact Qt.drewN _ _ | exact (Qt.drewN _ _).trans (Qt.drewN _ _) | exact ((Qt.drewN _ _).trans (Qt.drewN _ _)).trans (Qt.drewN _ _) | exact Qt.drew _ | exact (Qt.drewN _ _).trans (Qt.drew _)))).mono ?_; rintro e w1 ⟨v1, rfl, h1, b1⟩
        obtain ⟨a1, c1, rfl, -⟩ := h1.out1 sInt
        go_wp2_with fail
        refine (HJ.out.2 _ ((hI.qt (Qt.drewN _ _)).below b1)).mono ?_; rintro e w2 ⟨v2, rfl, h2, b2⟩
        obtain ⟨a2, c2, rfl, -⟩ := h2.out1 sInt
        have e1 := eqB_refl L
        have hbw : Below w.heap.size w w2 := ((below_drewN (Below.refl _ _) _).trans (b1.mono (by simp))).trans (b2.mono (by simpa using b1.size))
        have g1 : Ints w2 (.slice a1 L.length c1) L := h1.below b2
        have hI2 : Ints w2 (.slice a l.length cap) l := hI.below hbw
        clear h1 b1 b2
        skip
        go_wp2_with fail
        refine (Equal_any _ _ L L _ g1 h2).mono ?_; rintro e w' ⟨rfl, n5, rfl⟩
        go_wp2_with fail
        refine (Find_any _ l x _ (hI2.qt (by first | exact Qt.refl _ | exact Qt.drewN _ _ | exact (Qt.drewN _ _).trans (Qt.drewN _ _) | exact ((Qt.drewN _ _).trans (Qt.drewN _ _)).trans (Qt.drewN _ _) | exact Qt.drew _ | exact (Qt.drewN _ _).trans (Qt.drew _)))).mono ?_; rintro e w' ⟨rfl, n6, rfl⟩
        go_wp2_with fail
        refine (RCheck_any _ l _ (hI2.qt (by first | exact Qt.refl _ | exact Qt.drewN _ _ | exact (Qt.drewN _ _).trans (Qt.drewN _ _) | exact ((Qt.drewN _ _).trans (Qt.drewN _ _)).trans (Qt.drewN _ _) | exact Qt.drew _ | exact (Qt.drewN _ _).trans (Qt.drew _)))).mono ?_; rintro e w' ⟨rfl, n7, rfl⟩
        go_wp2_with fail
        refine (awake_any _).mono ?_; rintro e w5 ⟨rfl, b5⟩
        go_wp2_with fail
        go_ret
        exact ⟨rfl, (below_drewN hbw _).trans (b5.mono (by simpa using hbw.size))⟩
      · have hx1 : l.length ≤ x := by omega
        go_enter Try.func8, Try.ntmps8
        go_wp2_with fail
        refine (Check_any _ l _ hI).mono ?_; rintro e w' ⟨rfl, n1, rfl⟩
        go_wp2_with fail
        refine (RCheck_any _ l _ (hI.qt (by first | exact Qt.refl _ | exact Qt.drewN _ _ | exact (Qt.drewN _ _).trans (Qt.drewN _ _) | exact ((Qt.drewN _ _).trans (Qt.drewN _ _)).trans (Qt.drewN _ _) | exact Qt.drew _ | exact (Qt.drewN _ _).trans (Qt.drew _)))).mono ?_; rintro e w' ⟨rfl, n2, rfl⟩
        go_wp2_with fail
        refine (Same_any _ l x y _ (hI.qt (by first | exact Qt.refl _ | exact Qt.drewN _ _ | exact (Qt.drewN _ _).trans (Qt.drewN _ _) | exact ((Qt.drewN _ _).trans (Qt.drewN _ _)).trans (Qt.drewN _ _) | exact Qt.drew _ | exact (Qt.drewN _ _).trans (Qt.drew _)))).mono ?_; rintro e w' ⟨rfl, n3, rfl⟩
        go_wp2_with fail
        refine (RSame_any _ l x y _ (hI.qt (by first | exact Qt.refl _ | exact Qt.drewN _ _ | exact (Qt.drewN _ _).trans (Qt.drewN _ _) | exact ((Qt.drewN _ _).trans (Qt.drewN _ _)).trans (Qt.drewN _ _) | exact Qt.drew _ | exact (Qt.drewN _ _).trans (Qt.drew _)))).mono ?_; rintro e w' ⟨rfl, n4, rfl⟩
        go_wp2_with fail
        refine (HJ.out.1 _ (hI.qt (by first | exact Qt.refl _ | exact Qt.drewN _ _ | exact (Qt.drewN _ _).trans (Qt.drewN _ _) | exact ((Qt.drewN _ _).trans (Qt.drewN _ _)).trans (Qt.drewN _ _) | exact Qt.drew _ | exact (Qt.drewN _ _).trans (Qt.drew _)))).mono ?_; rintro e w1 ⟨v1, rfl, h1, b1⟩
        obtain ⟨a1, c1, rfl, -⟩ := h1.out1 sInt
        go_wp2_with fail
        refine (HJ.out.2 _ ((hI.qt (Qt.drewN _ _)).below b1)).mono ?_; rintro e w2 ⟨v2, rfl, h2, b2⟩
        obtain ⟨a2, c2, rfl, -⟩ := h2.out1 sInt
        have e1 := eqB_refl L
        have hbw : Below w.heap.size w w2 := ((below_drewN (Below.refl _ _) _).trans (b1.mono (by simp))).trans (b2.mono (by simpa using b1.size))
        have g1 : Ints w2 (.slice a1 L.length c1) L := h1.below b2
        have hI2 : Ints w2 (.slice a l.length cap) l := hI.below hbw
        clear h1 b1 b2
        skip
        go_wp2_with fail
        refine (Equal_any _ _ L L _ g1 h2).mono ?_; rintro e w' ⟨rfl, n5, rfl⟩
        go_wp2_with fail
        refine (Find_any _ l x _ (hI2.qt (by first | exact Qt.refl _ | exact Qt.drewN _ _ | exact (Qt.drewN _ _).trans (Qt.drewN _ _) | exact ((Qt.drewN _ _).trans (Qt.drewN _ _)).trans (Qt.drewN _ _) | exact Qt.drew _ | exact (Qt.drewN _ _).trans (Qt.drew _)))).mono ?_; rintro e w' ⟨rfl, n6, rfl⟩
        go_wp2_with fail
        refine (RCheck_any _ l _ (hI2.qt (by first | exact Qt.refl _ | exact Qt.drewN _ _ | exact (Qt.drewN _ _).trans (Qt.drewN _ _) | exact ((Qt.drewN _ _).trans (Qt.drewN _ _)).trans (Qt.drewN _ _) | exact Qt.drew _ | exact (Qt.drewN _ _).trans (Qt.drew _)))).mono ?_; rintro e w' ⟨rfl, n7, rfl⟩
        go_wp2_with fail
        refine (awake_any _).mono ?_; rintro e w5 ⟨rfl, b5⟩
        go_wp2_with fail
        go_ret
        exact ⟨rfl, (below_drewN hbw _).trans (b5.mono (by simpa using hbw.size))⟩
    · obtain ⟨hx1, hx2⟩ := memB_iff.1 hx
      have hcx := hcell x.toNat (by omega)
      have hcx2 : ∀ W, Below w.heap.size w W → W.cell? ⟨blk a, ofs a + x.toNat, none⟩ = some (.int .i64 (nth l x.toNat)) := fun W hW => by
        rw [hW.cell (p := ⟨blk a, ofs a + x.toNat, none⟩) (hblk x.toNat (by omega))]; exact hcx
      have HX := Lib.hid hcx2
      have hv : findV l x = nth l x.toNat := by simp [findV, hx, h0]
      have he : findE l x = 0 := by simp [findE, h0, hx]
      have he1 : (findE l x == 0) = true := by simp [he]
      have hv1 : (findV l x == nth l x.toNat) = true := by simp [hv]
      clear h0 hv he hx hcell hcx hcx2
      go_enter Try.func8, Try.ntmps8
      go_wp2_with fail
      refine (Check_any _ l _ hI).mono ?_; rintro e w' ⟨rfl, n1, rfl⟩
      go_wp2_with fail
      refine (RCheck_any _ l _ (hI.qt (by first | exact Qt.refl _ | exact Qt.drewN _ _ | exact (Qt.drewN _ _).trans (Qt.drewN _ _) | exact ((Qt.drewN _ _).trans (Qt.drewN _ _)).trans (Qt.drewN _ _) | exact Qt.drew _ | exact (Qt.drewN _ _).trans (Qt.drew _)))).mono ?_; rintro e w' ⟨rfl, n2, rfl⟩
      go_wp2_with fail
      refine (Same_any _ l x y _ (hI.qt (by first | exact Qt.refl _ | exact Qt.drewN _ _ | exact (Qt.drewN _ _).trans (Qt.drewN _ _) | exact ((Qt.drewN _ _).trans (Qt.drewN _ _)).trans (Qt.drewN _ _) | exact Qt.drew _ | exact (Qt.drewN _ _).trans (Qt.drew _)))).mono ?_; rintro e w' ⟨rfl, n3, rfl⟩
      go_wp2_with fail
      refine (RSame_any _ l x y _ (hI.qt (by first | exact Qt.refl _ | exact Qt.drewN _ _ | exact (Qt.drewN _ _).trans (Qt.drewN _ _) | exact ((Qt.drewN _ _).trans (Qt.drewN _ _)).trans (Qt.drewN _ _) | exact Qt.drew _ | exact (Qt.drewN _ _).trans (Qt.drew _)))).mono ?_; rintro e w' ⟨rfl, n4, rfl⟩
      go_wp2_with fail
      refine (HJ.out.1 _ (hI.qt (by first | exact Qt.refl _ | exact Qt.drewN _ _ | exact (Qt.drewN _ _).trans (Qt.drewN _ _) | exact ((Qt.drewN _ _).trans (Qt.drewN _ _)).trans (Qt.drewN _ _) | exact Qt.drew _ | exact (Qt.drewN _ _).trans (Qt.drew _)))).mono ?_; rintro e w1 ⟨v1, rfl, h1, b1⟩
      obtain ⟨a1, c1, rfl, -⟩ := h1.out1 sInt
      go_wp2_with fail
      refine (HJ.out.2 _ ((hI.qt (Qt.drewN _ _)).below b1)).mono ?_; rintro e w2 ⟨v2, rfl, h2, b2⟩
      obtain ⟨a2, c2, rfl, -⟩ := h2.out1 sInt
      have e1 := eqB_refl L
      have hbw : Below w.heap.size w w2 := ((below_drewN (Below.refl _ _) _).trans (b1.mono (by simp))).trans (b2.mono (by simpa using b1.size))
      have g1 : Ints w2 (.slice a1 L.length c1) L := h1.below b2
      have hI2 : Ints w2 (.slice a l.length cap) l := hI.below hbw
      clear h1 b1 b2
      have hcx3 := HX.out w2 hbw
      go_wp2_with fail
      refine (Equal_any _ _ L L _ g1 h2).mono ?_; rintro e w' ⟨rfl, n5, rfl⟩
      go_wp2_with fail
      refine (Find_any _ l x _ (hI2.qt (by first | exact Qt.refl _ | exact Qt.drewN _ _ | exact (Qt.drewN _ _).trans (Qt.drewN _ _) | exact ((Qt.drewN _ _).trans (Qt.drewN _ _)).trans (Qt.drewN _ _) | exact Qt.drew _ | exact (Qt.drewN _ _).trans (Qt.drew _)))).mono ?_; rintro e w' ⟨rfl, n6, rfl⟩
      go_wp2_with fail
      refine (RCheck_any _ l _ (hI2.qt (by first | exact Qt.refl _ | exact Qt.drewN _ _ | exact (Qt.drewN _ _).trans (Qt.drewN _ _) | exact ((Qt.drewN _ _).trans (Qt.drewN _ _)).trans (Qt.drewN _ _) | exact Qt.drew _ | exact (Qt.drewN _ _).trans (Qt.drew _)))).mono ?_; rintro e w' ⟨rfl, n7, rfl⟩
      go_wp2_with fail
      refine (awake_any _).mono ?_; rintro e w5 ⟨rfl, b5⟩
      go_wp2_with fail
      go_ret
      exact ⟨rfl, (below_drewN hbw _).trans (b5.mono (by simpa using hbw.size))⟩
  · have h0' : (chk l != 0) = true := by simpa using h0
    have hv : findV l x = 0 := by simp [findV, h0]
    have he : findE l x = chk l := by simp [findE, h0]
    have he1 : (findE l x == chk l) = true := by simp [he]
    have hv1 : (findV l x == 0) = true := by simp [hv]
    clear h0 hv he hidx hcell
    go_enter Try.func8, Try.ntmps8
    go_wp2_with fail
    refine (Check_any _ l _ hI).mono ?_; rintro e w' ⟨rfl, n1, rfl⟩
    go_wp2_with fail
    refine (RCheck_any _ l _ (hI.qt (by first | exact Qt.refl _ | exact Qt.drewN _ _ | exact (Qt.drewN _ _).trans (Qt.drewN _ _) | exact ((Qt.drewN _ _).trans (Qt.drewN _ _)).trans (Qt.drewN _ _) | exact Qt.drew _ | exact (Qt.drewN _ _).trans (Qt.drew _)))).mono ?_; rintro e w' ⟨rfl, n2, rfl⟩
    go_wp2_with fail
    refine (Same_any _ l x y _ (hI.qt (by first | exact Qt.refl _ | exact Qt.drewN _ _ | exact (Qt.drewN _ _).trans (Qt.drewN _ _) | exact ((Qt.drewN _ _).trans (Qt.drewN _ _)).trans (Qt.drewN _ _) | exact Qt.drew _ | exact (Qt.drewN _ _).trans (Qt.drew _)))).mono ?_; rintro e w' ⟨rfl, n3, rfl⟩
    go_wp2_with fail
    refine (RSame_any _ l x y _ (hI.qt (by first | exact Qt.refl _ | exact Qt.drewN _ _ | exact (Qt.drewN _ _).trans (Qt.drewN _ _) | exact ((Qt.drewN _ _).trans (Qt.drewN _ _)).trans (Qt.drewN _ _) | exact Qt.drew _ | exact (Qt.drewN _ _).trans (Qt.drew _)))).mono ?_; rintro e w' ⟨rfl, n4, rfl⟩
    go_wp2_with fail
    refine (HJ.out.1 _ (hI.qt (by first | exact Qt.refl _ | exact Qt.drewN _ _ | exact (Qt.drewN _ _).trans (Qt.drewN _ _) | exact ((Qt.drewN _ _).trans (Qt.drewN _ _)).trans (Qt.drewN _ _) | exact Qt.drew _ | exact (Qt.drewN _ _).trans (Qt.drew _)))).mono ?_; rintro e w1 ⟨v1, rfl, h1, b1⟩
    obtain ⟨a1, c1, rfl, -⟩ := h1.out1 sInt
    go_wp2_with fail
    refine (HJ.out.2 _ ((hI.qt (Qt.drewN _ _)).below b1)).mono ?_; rintro e w2 ⟨v2, rfl, h2, b2⟩
    obtain ⟨a2, c2, rfl, -⟩ := h2.out1 sInt
    have e1 := eqB_refl L
    have hbw : Below w.heap.size w w2 := ((below_drewN (Below.refl _ _) _).trans (b1.mono (by simp))).trans (b2.mono (by simpa using b1.size))
    have g1 : Ints w2 (.slice a1 L.length c1) L := h1.below b2
    have hI2 : Ints w2 (.slice a l.length cap) l := hI.below hbw
    clear h1 b1 b2
    skip
    go_wp2_with fail
    refine (Equal_any _ _ L L _ g1 h2).mono ?_; rintro e w' ⟨rfl, n5, rfl⟩
    go_wp2_with fail
    refine (Find_any _ l x _ (hI2.qt (by first | exact Qt.refl _ | exact Qt.drewN _ _ | exact (Qt.drewN _ _).trans (Qt.drewN _ _) | exact ((Qt.drewN _ _).trans (Qt.drewN _ _)).trans (Qt.drewN _ _) | exact Qt.drew _ | exact (Qt.drewN _ _).trans (Qt.drew _)))).mono ?_; rintro e w' ⟨rfl, n6, rfl⟩
    go_wp2_with fail
    refine (RCheck_any _ l _ (hI2.qt (by first | exact Qt.refl _ | exact Qt.drewN _ _ | exact (Qt.drewN _ _).trans (Qt.drewN _ _) | exact ((Qt.drewN _ _).trans (Qt.drewN _ _)).trans (Qt.drewN _ _) | exact Qt.drew _ | exact (Qt.drewN _ _).trans (Qt.drew _)))).mono ?_; rintro e w' ⟨rfl, n7, rfl⟩
    go_wp2_with fail
    refine (RCheck_any _ l _ (hI2.qt (by first | exact Qt.refl _ | exact Qt.drewN _ _ | exact (Qt.drewN _ _).trans (Qt.drewN _ _) | exact ((Qt.drewN _ _).trans (Qt.drewN _ _)).trans (Qt.drewN _ _) | exact Qt.drew _ | exact (Qt.drewN _ _).trans (Qt.drew _)))).mono ?_; rintro e w' ⟨rfl, n8, rfl⟩
    go_wp2_with fail
    refine (awake_any _).mono ?_; rintro e w5 ⟨rfl, b5⟩
    go_wp2_with fail
    go_ret
    exact ⟨rfl, (below_drewN hbw _).trans (b5.mono (by simpa using hbw.size))⟩

set_option maxRecDepth 100000 in
theorem PartitionTells_lifted (os : Os) (started : os.Started) (H : Type) (enc : TypeId × Value → H) :
    ReturnsInHanded {} Try.checked os 8 .any (Rows.partitionTellsSpec.pre6 enc Try.prog Try.f8 Rows.partitionTellsRow.domain false) (Rows.partitionTellsSpec.post enc Try.prog Try.f8 false true false false) := by
  refine returnsInHanded_of_change (C := Try.checked) own started (by kernel_rfl) Try.func8
    (ChangeSpec.witness6 (enc := enc) (C := Try.checked) false ⟨#[], #[.slice none 0 0, .int .i64 0, .int .i64 0], []⟩ 8 (by kernel_rfl) (by kernel_rfl) (by kernel_rfl) (by kernel_rfl)) ?_
  intro W base args ds gs before hval0 hW hcnd _
  have hval : ∀ (j : Nat) t v, Try.f8.params[j]? = some t → args[j]? = some v → Value.okWide Try.prog W .any base t v := hval0
  have hW' := hW
  obtain ⟨p, q, hA0, hV, rfl, hfz, hnd⟩ := hW
  have hA : DataW.TrodAll enc Try.prog W 0 (fun _ => true) true Try.f8.params.toList args.toList ds p := hA0
  rw [Try.params8] at hA hval
  obtain ⟨v0, vs0, d0, ds0, p0, q0, hargs, rfl, rfl, h0, r0⟩ := trodAll_cons hA
  obtain ⟨v1, vs1, d1, ds1, p1, q1, rfl, rfl, rfl, h1, r1⟩ := trodAll_cons r0
  obtain ⟨v2, vs2, d2, ds2, p2, q2, rfl, rfl, rfl, h2, r2⟩ := trodAll_cons r1
  obtain ⟨rfl, rfl, rfl⟩ := trodAll_nil r2
  obtain rfl : args = #[v0, v1, v2] := by cases args; simp_all
  obtain ⟨rfl, rfl⟩ := trodVars_none hV
  obtain ⟨a0, len0, cap0, rfl⟩ := okWide_slice Try.underlying24 (hval 0 24 v0 rfl rfl)
  have k0 := h0
  have lt0 : ∀ x ∈ p0, x.block < W.heap.size := by obtain ⟨m, hm⟩ := k0; exact DataW.trod_lt m _ _ _ hm
  obtain ⟨l0, hl0, hI0, b0⟩ := ints_of_trod Try.underlying24 Try.underlying3 (by kernel_rfl) h0
  obtain ⟨a1, rfl, rfl, rfl, w1⟩ := open_int Try.underlying3 (hval 1 3 v1 rfl rfl) h1
  have b1 := bounds_i64 w1
  obtain ⟨a2, rfl, rfl, rfl, w2⟩ := open_int Try.underlying3 (hval 2 3 v2 rfl rfl) h2
  have b2 := bounds_i64 w2
  clear hA0 hval0
  refine (PartitionTells_walk _ l0 a1 a2 W hI0 b0 b1 b2).mono fun e W' ⟨he, bel⟩ => ?_
  subst he
  exact ⟨_, rfl, _, _, _, [], _, [], hW', trodAll_mk1 (shut_bool Try.underlying4 _), (trodAll_cons_mk (Below.trod laidOut (by kernel_rfl) (of_decide_eq_true (by kernel_rfl)) k0 bel lt0) (trodAll_cons_mk (shut_int Try.underlying3 w1) (trodAll_cons_mk (shut_int Try.underlying3 w2) trodAll_mk0))), rfl, bel.frame _, fun h => by cases h⟩

/-- The given statement. -/
theorem PartitionTells_holds : Rows.PartitionTellsSaid :=
  OpenClaim.holds_of_wide 8 Try.f8 rfl rfl rfl rfl rfl rfl rfl ⟨rfl, rfl, rfl, rfl, rfl⟩ rfl rfl rfl rfl rfl (by kernel_rfl) Try.func8 (by kernel_rfl)
    (of_decide_eq_true (by kernel_rfl)) (by unfold Func.isWrapper; first | (rw [if_pos (by decide +kernel)]; kernel_rfl) | (rw [if_neg (by decide +kernel)]; exact ⟨rfl, rfl⟩))
    (fun os started H enc _ => PartitionTells_lifted os started H enc)

end Go.Proofs.Ytmgeadhiohlblaa
