/- PartitionFinest: for any pairs and any other partition in which the ends of each pair are together, Of is finer than that one, and valid. Conditions: none. -/
import Derived.Test.YtmgeadhiohlblaaLawOf
import Derived.Test.YtmgeadhiohlblaaPlainP
namespace Go.Proofs.Ytmgeadhiohlblaa
open Go.ChangeShapes Go.WideShapes Go.ChangeAt Go.RowKit Go.Dfl


theorem same_ok {q : List Int} {d : Int × Int} (h : sameB q d.1 d.2 = true) : okB q.length d = true ∧ nth q d.1.toNat = nth q d.2.toNat := by
  simp only [sameB, Bool.and_eq_true, beq_iff_eq] at h
  simp only [okB, Bool.and_eq_true]
  exact ⟨⟨h.1.1.2, h.1.2⟩, h.2⟩

def NewLikePost (L : List Int) (w : World) (e : Ending) (w' : World) : Prop := ∃ v, e = .returned (.tuple #[v, .int .i64 0]) ∧ OwnI w' w.heap.size 3 v L ∧ Below w.heap.size w w'

set_option maxHeartbeats 3200000 in
set_option maxRecDepth 100000 in
theorem PartitionFinest_walk (v : Value) (pairs : List (Int × Int)) (u : Value) (q : List Int) (w : World) (h : Pairs w v pairs)
    (_ : ∀ x ∈ pairs, (-9223372036854775808 ≤ x.1 ∧ x.1 ≤ 9223372036854775807) ∧ -9223372036854775808 ≤ x.2 ∧ x.2 ≤ 9223372036854775807) (h' : Ints w u q) (_ : ∀ x ∈ q, -9223372036854775808 ≤ x ∧ x ≤ 9223372036854775807) :
    Calls Try.prog 5 #[v, u] w (TruePost w) := by
  have hP := h
  have hQ := h'
  obtain ⟨a, cap, rfl, hm, hidx, hcell, hblk⟩ := h.out2 sEdge
  obtain ⟨a', cap', rfl, hm', hidx', hcell', hblk'⟩ := h'.out1 sInt
  clear h h'
  by_cases hl1 : 300 < pairs.length
  · go_enter Try.func5, Try.ntmps5
    go_wp2_with fail
    refine (awake_any _).mono ?_; rintro e w5 ⟨rfl, b5⟩
    go_wp2_with fail
    go_ret
    exact ⟨rfl, b5⟩
  have hd1 : decide (300 < pairs.length) = false := by simpa using hl1
  by_cases hl2 : 300 < q.length
  · go_enter Try.func5, Try.ntmps5
    go_wp2_with fail
    refine (awake_any _).mono ?_; rintro e w5 ⟨rfl, b5⟩
    go_wp2_with fail
    go_ret
    exact ⟨rfl, b5⟩
  have hd2 : decide (300 < q.length) = false := by simpa using hl2
  by_cases h0 : chk q = 0
  · have h0' : (chk q != 0) = false := by simpa using h0
    have H0 := Lib.hid h0
    clear h0
    go_enter Try.func5, Try.ntmps5
    go_wp2_with fail
    refine (RCheck_any _ q _ hQ).mono ?_; rintro e w' ⟨rfl, n1, rfl⟩
    go_wp2_with fail
    go_loopw [5] (fun i wr => ∃ k : Nat, k ≤ pairs.length ∧ i = .int .i64 k ∧ Qt w wr ∧ Hid (∀ j, j < k → sameB q (nth pairs j).1 (nth pairs j).2 = true)) (fun i _ => pairs.length - (intOf i).toNat)
    case atStart => exact ⟨0, by omega, rfl, (by first | exact Qt.refl _ | exact Qt.drewN _ _ | exact (Qt.drewN _ _).trans (Qt.drewN _ _) | exact ((Qt.drewN _ _).trans (Qt.drewN _ _)).trans (Qt.drewN _ _) | exact Qt.drew _ | exact (Qt.drewN _ _).trans (Qt.drew _)), fun j hj => by omega⟩
    case round =>
      obtain ⟨k, hk, rfl, ⟨nw, rfl⟩, hall⟩ := hrel
      by_cases hlt : k < pairs.length
      · have c1 : w.cell? ⟨blk a, ofs a + k * 2, none⟩ = some (.int .i64 (nth pairs k).1) := by simpa using (hcell k hlt).1
        have c2 : w.cell? ⟨blk a, ofs a + k * 2 + 1, none⟩ = some (.int .i64 (nth pairs k).2) := by simpa using (hcell k hlt).2
        clear hcell hcell'
        cases hs : sameB q (nth pairs k).1 (nth pairs k).2
        · go_wp2_with fail
          go_quiet ((go_at_call 18; exact Qt.quiet2 (RSame_any _ q _ _ _ (hQ.qt (by first | exact Qt.refl _ | exact Qt.drewN _ _ | exact (Qt.drewN _ _).trans (Qt.drewN _ _) | exact ((Qt.drewN _ _).trans (Qt.drewN _ _)).trans (Qt.drewN _ _) | exact Qt.drew _ | exact (Qt.drewN _ _).trans (Qt.drew _))))))
          go_wp2_with fail
          refine (awake_any _).mono ?_; rintro e w5 ⟨rfl, b5⟩
          go_wp2_with fail
          go_ret
          exact ⟨rfl, (below_drewN (Below.refl _ _) _).trans (b5.mono (by simp))⟩
        · go_wp2_with fail
          go_quiet ((go_at_call 18; exact Qt.quiet2 (RSame_any _ q _ _ _ (hQ.qt (by first | exact Qt.refl _ | exact Qt.drewN _ _ | exact (Qt.drewN _ _).trans (Qt.drewN _ _) | exact ((Qt.drewN _ _).trans (Qt.drewN _ _)).trans (Qt.drewN _ _) | exact Qt.drew _ | exact (Qt.drewN _ _).trans (Qt.drew _))))))
          go_wp2_with fail
          go_roundw
          case rel => exact ⟨k + 1, by omega, by go_num, (by first | exact Qt.refl _ | exact Qt.drewN _ _ | exact (Qt.drewN _ _).trans (Qt.drewN _ _) | exact ((Qt.drewN _ _).trans (Qt.drewN _ _)).trans (Qt.drewN _ _) | exact Qt.drew _ | exact (Qt.drewN _ _).trans (Qt.drew _)), fun j hj => by
            by_cases e : j = k
            · subst e; exact hs
            · exact hall.out j (by omega)⟩
          case measure => simp [intOf]; omega
      · have hS : ∀ d ∈ pairs, sameB q d.1 d.2 = true := fun d hd => by
          obtain ⟨j, hj, rfl⟩ := mem_nth hd
          exact hall.out j (by omega)
        have hok : pairs.all (okB q.length) = true := List.all_eq_true.2 fun d hd => (same_ok (hS d hd)).1
        have hq2 : ∀ d ∈ pairs, nth q d.1.toNat = nth q d.2.toNat := fun d hd => (same_ok (hS d hd)).2
        have hvp := ofL_vp hok
        have hfin := ofL_finest q hok hq2
        have hsame := ofL_same hok
        have hofok : ofOk (q.length : Int) pairs = true := by simp only [ofOk, Int.toNat_natCast, hok, Bool.and_true, decide_eq_true_eq]; omega
        have hck := hvp.chk (by omega)
        have hfB : finerB (ofL q.length pairs) q = true := (finerB_iff _ _).2 ⟨hck, H0.out, hvp.len, fun i hi => (hfin i (by rw [← hvp.len]; exact hi)).symm⟩
        have hsB : ∀ d ∈ pairs, sameB (ofL q.length pairs) d.1 d.2 = true := fun d hd => by
          have g := List.all_eq_true.1 hok d hd
          simp only [okB, Bool.and_eq_true] at g
          simp only [sameB, Bool.and_eq_true, beq_iff_eq, hvp.len]
          exact ⟨⟨⟨hck, g.1⟩, g.2⟩, hsame d hd⟩
        have HC : Hid (∀ W, Pairs W (.slice a pairs.length cap) pairs → Calls Try.prog 11 #[.int .i64 q.length, .slice a pairs.length cap] W (NewLikePost (ofL q.length pairs) W)) := fun W hW => by
          refine (Of_any q.length _ pairs W hW).mono ?_
          rintro e w' (⟨h1, -⟩ | ⟨-, v, rfl, ho, hb⟩)
          · rw [hofok] at h1; simp at h1
          · exact ⟨v, rfl, by simpa using ho, hb⟩
        have HV := Lib.hid (And.intro hvp (And.intro hck (And.intro hfB (And.intro hsB hfin))))
        clear hall hS hok hq2 hvp hfin hsame hofok hck hfB hsB
        go_wp2_with fail
        refine (HC.out _ (hP.qt (by first | exact Qt.refl _ | exact Qt.drewN _ _ | exact (Qt.drewN _ _).trans (Qt.drewN _ _) | exact ((Qt.drewN _ _).trans (Qt.drewN _ _)).trans (Qt.drewN _ _) | exact Qt.drew _ | exact (Qt.drewN _ _).trans (Qt.drew _)))).mono ?_; rintro e w1 ⟨v1, rfl, ho, hb⟩
        have hpl := HV.out.1.len
        generalize hPL : ofL q.length pairs = P at *
        obtain ⟨s, c3, rfl⟩ := ho.shape hpl
        have hIP : Ints w1 (.slice s q.length c3) P := ho.lst
        have hb0 : Below w.heap.size w w1 := (below_drewN (Below.refl _ _) _).trans (hb.mono (by simp))
        have hIQ := hQ.below hb0
        have k1 : (chk P != 0) = false := by simpa using HV.out.2.1
        have k2 := HV.out.2.2.1
        clear HC ho hb hpl hPL
        go_wp2_with fail
        refine (Check_any _ P _ hIP).mono ?_; rintro e w' ⟨rfl, n2, rfl⟩
        go_wp2_with fail
        refine (Finer_any _ _ P q _ (hIP.qt (by first | exact Qt.refl _ | exact Qt.drewN _ _ | exact (Qt.drewN _ _).trans (Qt.drewN _ _) | exact ((Qt.drewN _ _).trans (Qt.drewN _ _)).trans (Qt.drewN _ _) | exact Qt.drew _ | exact (Qt.drewN _ _).trans (Qt.drew _))) (hIQ.qt (by first | exact Qt.refl _ | exact Qt.drewN _ _ | exact (Qt.drewN _ _).trans (Qt.drewN _ _) | exact ((Qt.drewN _ _).trans (Qt.drewN _ _)).trans (Qt.drewN _ _) | exact Qt.drew _ | exact (Qt.drewN _ _).trans (Qt.drew _)))).mono ?_; rintro e w' ⟨rfl, n3, rfl⟩
        go_wp2_with fail
        go_loopw [8] (fun i wr => ∃ k : Nat, k ≤ q.length ∧ i = .int .i64 k ∧ Qt w1 wr) (fun i _ => q.length - (intOf i).toNat)
        case atStart => exact ⟨0, by omega, rfl, (by first | exact Qt.refl _ | exact Qt.drewN _ _ | exact (Qt.drewN _ _).trans (Qt.drewN _ _) | exact ((Qt.drewN _ _).trans (Qt.drewN _ _)).trans (Qt.drewN _ _) | exact Qt.drew _ | exact (Qt.drewN _ _).trans (Qt.drew _))⟩
        case round =>
          obtain ⟨k, hk, rfl, ⟨nw, rfl⟩⟩ := hrel
          by_cases hlt : k < q.length
          · have hfin := HV.out.2.2.2.2 k hlt
            have hrg := HV.out.1.rng k hlt
            have hpl := HV.out.1.len
            obtain ⟨s2, c4, he, hm2, hidx2, hcell2, -⟩ := hIP.out1 sInt
            simp at he
            obtain ⟨rfl, he, rfl⟩ := he
            rw [hpl] at hidx2 hcell2
            have hc1 := hcell2 k hlt
            have r1 := hrg.1
            have r2 : nth P k < q.length := by omega
            have hcq1 : w1.cell? ⟨blk a', ofs a' + (nth P k).toNat, none⟩ = some (.int .i64 (nth q (nth P k).toNat)) := by
              rw [hb0.cell (p := ⟨blk a', ofs a' + (nth P k).toNat, none⟩) (hblk' k hlt)]; exact hcell' _ (by omega)
            have hcq2 : w1.cell? ⟨blk a', ofs a' + k, none⟩ = some (.int .i64 (nth q k)) := by
              rw [hb0.cell (p := ⟨blk a', ofs a' + k, none⟩) (hblk' k hlt)]; exact hcell' _ hlt
            rw [hfin] at hcq1
            clear hfin hrg hpl he hm2 hcell2 hcell' hcell
            go_wp2_with fail
            go_quiet (fail)
            go_wp2_with fail
            go_roundw
            case rel => exact ⟨k + 1, by omega, by go_num, (by first | exact Qt.refl _ | exact Qt.drewN _ _ | exact (Qt.drewN _ _).trans (Qt.drewN _ _) | exact ((Qt.drewN _ _).trans (Qt.drewN _ _)).trans (Qt.drewN _ _) | exact Qt.drew _ | exact (Qt.drewN _ _).trans (Qt.drew _))⟩
            case measure => simp [intOf]; omega
          · go_wp2_with fail
            go_loopw [9] (fun i wr => ∃ k : Nat, k ≤ pairs.length ∧ i = .int .i64 k ∧ Qt w1 wr) (fun i _ => pairs.length - (intOf i).toNat)
            case atStart => exact ⟨0, by omega, rfl, (by first | exact Qt.refl _ | exact Qt.drewN _ _ | exact (Qt.drewN _ _).trans (Qt.drewN _ _) | exact ((Qt.drewN _ _).trans (Qt.drewN _ _)).trans (Qt.drewN _ _) | exact Qt.drew _ | exact (Qt.drewN _ _).trans (Qt.drew _))⟩
            case round =>
              obtain ⟨k, hk, rfl, ⟨nw, rfl⟩⟩ := hrel
              by_cases hlt : k < pairs.length
              · have c1 : w1.cell? ⟨blk a, ofs a + k * 2, none⟩ = some (.int .i64 (nth pairs k).1) := by
                  rw [hb0.cell (p := ⟨blk a, ofs a + k * 2, none⟩) (hblk k hlt)]; simpa using (hcell k hlt).1
                have c2 : w1.cell? ⟨blk a, ofs a + k * 2 + 1, none⟩ = some (.int .i64 (nth pairs k).2) := by
                  rw [hb0.cell (p := ⟨blk a, ofs a + k * 2 + 1, none⟩) (hblk k hlt)]; simpa using (hcell k hlt).2
                have hs := HV.out.2.2.2.1 _ (nth_mem pairs k hlt)
                clear hcell hcell'
                go_wp2_with fail
                go_quiet ((go_at_call 16; exact Qt.quiet2 (Same_any _ P _ _ _ (hIP.qt (by first | exact Qt.refl _ | exact Qt.drewN _ _ | exact (Qt.drewN _ _).trans (Qt.drewN _ _) | exact ((Qt.drewN _ _).trans (Qt.drewN _ _)).trans (Qt.drewN _ _) | exact Qt.drew _ | exact (Qt.drewN _ _).trans (Qt.drew _))))))
                go_wp2_with fail
                go_roundw
                case rel => exact ⟨k + 1, by omega, by go_num, (by first | exact Qt.refl _ | exact Qt.drewN _ _ | exact (Qt.drewN _ _).trans (Qt.drewN _ _) | exact ((Qt.drewN _ _).trans (Qt.drewN _ _)).trans (Qt.drewN _ _) | exact Qt.drew _ | exact (Qt.drewN _ _).trans (Qt.drew _))⟩
                case measure => simp [intOf]; omega
              · go_wp2_with fail
                refine (awake_any _).mono ?_; rintro e w5 ⟨rfl, b5⟩
                go_wp2_with fail
                go_ret
                exact ⟨rfl, (below_drewN hb0 _).trans (b5.mono (by simpa using hb0.size))⟩
  · have h0' : (chk q != 0) = true := by simpa using h0
    clear h0
    go_enter Try.func5, Try.ntmps5
    go_wp2_with fail
    refine (RCheck_any _ q _ hQ).mono ?_; rintro e w' ⟨rfl, n1, rfl⟩
    go_wp2_with fail
    refine (awake_any _).mono ?_; rintro e w5 ⟨rfl, b5⟩
    go_wp2_with fail
    go_ret
    exact ⟨rfl, (below_drewN (Below.refl _ _) _).trans (b5.mono (by simp))⟩

set_option maxRecDepth 100000 in
theorem PartitionFinest_lifted (os : Os) (started : os.Started) (H : Type) (enc : TypeId × Value → H) :
    ReturnsInHanded {} Try.checked os 5 .any (Rows.partitionFinestSpec.pre6 enc Try.prog Try.f5 Rows.partitionFinestRow.domain false) (Rows.partitionFinestSpec.post enc Try.prog Try.f5 false true false false) := by
  refine returnsInHanded_of_change (C := Try.checked) own started (by kernel_rfl) Try.func5
    (ChangeSpec.witness6 (enc := enc) (C := Try.checked) false ⟨#[], #[.slice none 0 0, .slice none 0 0], []⟩ 8 (by kernel_rfl) (by kernel_rfl) (by kernel_rfl) (by kernel_rfl)) ?_
  intro W base args ds gs before hval0 hW hcnd _
  have hval : ∀ (j : Nat) t v, Try.f5.params[j]? = some t → args[j]? = some v → Value.okWide Try.prog W .any base t v := hval0
  have hW' := hW
  obtain ⟨p, q, hA0, hV, rfl, hfz, hnd⟩ := hW
  have hA : DataW.TrodAll enc Try.prog W 0 (fun _ => true) true Try.f5.params.toList args.toList ds p := hA0
  rw [Try.params5] at hA hval
  obtain ⟨v0, vs0, d0, ds0, p0, q0, hargs, rfl, rfl, h0, r0⟩ := trodAll_cons hA
  obtain ⟨v1, vs1, d1, ds1, p1, q1, rfl, rfl, rfl, h1, r1⟩ := trodAll_cons r0
  obtain ⟨rfl, rfl, rfl⟩ := trodAll_nil r1
  obtain rfl : args = #[v0, v1] := by cases args; simp_all
  obtain ⟨rfl, rfl⟩ := trodVars_none hV
  obtain ⟨a0, len0, cap0, rfl⟩ := okWide_slice Try.underlying22 (hval 0 22 v0 rfl rfl)
  have k0 := h0
  have lt0 : ∀ x ∈ p0, x.block < W.heap.size := by obtain ⟨m, hm⟩ := k0; exact DataW.trod_lt m _ _ _ hm
  obtain ⟨l0, hl0, hI0, b0⟩ := pairs_of_trod Try.underlying22 Try.underlying35 (by kernel_rfl) rfl rfl rfl rfl Try.underlying3 (by kernel_rfl) h0
  obtain ⟨a1, len1, cap1, rfl⟩ := okWide_slice Try.underlying24 (hval 1 24 v1 rfl rfl)
  have k1 := h1
  have lt1 : ∀ x ∈ p1, x.block < W.heap.size := by obtain ⟨m, hm⟩ := k1; exact DataW.trod_lt m _ _ _ hm
  obtain ⟨l1, hl1, hI1, b1⟩ := ints_of_trod Try.underlying24 Try.underlying3 (by kernel_rfl) h1
  clear hA0 hval0
  refine (PartitionFinest_walk _ l0 _ l1 W hI0 b0 hI1 b1).mono fun e W' ⟨he, bel⟩ => ?_
  subst he
  exact ⟨_, rfl, _, _, _, [], _, [], hW', trodAll_mk1 (shut_bool Try.underlying4 _), (trodAll_cons_mk (Below.trod laidOut (by kernel_rfl) (of_decide_eq_true (by kernel_rfl)) k0 bel lt0) (trodAll_cons_mk (Below.trod laidOut (by kernel_rfl) (of_decide_eq_true (by kernel_rfl)) k1 bel lt1) trodAll_mk0)), rfl, bel.frame _, fun h => by cases h⟩

/-- The given statement. -/
theorem PartitionFinest_holds : Rows.PartitionFinestSaid :=
  OpenClaim.holds_of_wide 5 Try.f5 rfl rfl rfl rfl rfl rfl rfl ⟨rfl, rfl, rfl, rfl, rfl⟩ rfl rfl rfl rfl rfl (by kernel_rfl) Try.func5 (by kernel_rfl)
    (of_decide_eq_true (by kernel_rfl)) (by unfold Func.isWrapper; first | (rw [if_pos (by decide +kernel)]; kernel_rfl) | (rw [if_neg (by decide +kernel)]; exact ⟨rfl, rfl⟩))
    (fun os started H enc _ => PartitionFinest_lifted os started H enc)

end Go.Proofs.Ytmgeadhiohlblaa
