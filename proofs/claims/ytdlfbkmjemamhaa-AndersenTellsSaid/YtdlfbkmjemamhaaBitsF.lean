/- Contract of bits.Of. -/
import Derived.Test.YtdlfbkmjemamhaaBitsE
namespace Go.Proofs.Ytdlfbkmjemamhaa
open Go.RowKit Go.Dfl

def OfPost (l : List Int) (w : World) (e : Ending) (w' : World) : Prop :=
  (l.all valB = false ∧ e = .returned (.tuple #[.slice none 0 0, .int .i64 4]) ∧ Qt w w') ∨
  (l.all valB = true ∧ ∃ v r, e = .returned (.tuple #[v, .int .i64 0]) ∧ Fresh w' w.heap.size v r ∧ Wds r ∧ Norm r ∧ r.length ≤ 1024 ∧ (∀ y, hasN r y = decide ((y : Int) ∈ l)) ∧ Below w.heap.size w w')

theorem all_snoc {l : List Int} {k : Nat} (hk : k < l.length) (h : (l.take k).all valB = true) (h2 : valB (nth l k) = true) : (l.take (k + 1)).all valB = true := by
  rw [take_snoc _ _ hk, List.all_append, h]; simp [h2]
theorem all_bad {l : List Int} {k : Nat} (hk : k < l.length) (h2 : valB (nth l k) = false) : l.all valB = false := by
  rw [Bool.eq_false_iff]; intro hh
  have := List.all_eq_true.1 hh _ (nth_mem _ _ hk)
  rw [h2] at this; simp at this
theorem mem_take {l : List Int} {j k : Nat} (hj : j < k) (hk : k ≤ l.length) : nth l j ∈ l.take k := by
  have : nth (l.take k) j = nth l j := by simp [nth, hj]
  rw [← this]; exact nth_mem _ _ (by simp; omega)

set_option maxHeartbeats 1600000 in
theorem Of_any (v : Value) (l : List Int) (w : World) (h : Ints w v l) :
    Calls Try.prog 32 #[v] w (OfPost l w) := by
  have hI := h
  obtain ⟨a, cap, rfl, hm, hidx, hcell, hblk⟩ := h.out1 sInt
  have hmx := run_mx Try.prog
  have HC := Lib.hid (And.intro hcell hblk)
  clear h hcell hblk
  go_enter Try.func32, Try.ntmps32
  go_wp2_with fail
  go_loopw [4, 6, 12] (fun d _ i wr => ∃ k wd : Nat, k ≤ l.length ∧ i = .int .i64 k ∧ d = .int .i64 (wd : Int) ∧ wd ≤ 1024 ∧ Qt w wr ∧ Hid ((l.take k).all valB = true ∧ ∀ j, j < k → (nth l j).toNat / 64 < wd)) (fun _ _ i _ => l.length - (intOf i).toNat)
  case atStart => exact ⟨0, 0, by omega, rfl, rfl, by omega, Qt.refl _, rfl, fun j hj => by omega⟩
  case round =>
    obtain ⟨k, wd, hk, rfl, rfl, hwd, ⟨nw, rfl⟩, hh⟩ := hrel
    by_cases hlt : k < l.length
    · have hck := HC.out.1 k hlt
      cases hx : valB (nth l k)
      · have HX := Lib.hid (all_bad hlt hx)
        go_wp2_with fail
        refine (valid_any _ _).mono ?_; rintro e w' ⟨rfl, n1, rfl⟩
        go_wp2_with fail
        go_ret2
        exact .inl ⟨HX.out, rfl, (by first | exact Qt.refl _ | exact Qt.drewN _ _ | exact (Qt.drewN _ _).trans (Qt.drewN _ _) | exact ((Qt.drewN _ _).trans (Qt.drewN _ _)).trans (Qt.drewN _ _) | exact Qt.drew _ | exact (Qt.drewN _ _).trans (Qt.drew _))⟩
      · obtain ⟨hx1, hx2⟩ : 0 ≤ nth l k ∧ nth l k < 65536 := by simpa [valB] using hx
        have hge := mx_ge (wd : Int) (nth l k / 64 + 1)
        obtain ⟨wn, hwn⟩ : ∃ wn : Nat, mx (wd : Int) (nth l k / 64 + 1) = wn := ⟨(mx (wd : Int) (nth l k / 64 + 1)).toNat, by omega⟩
        have HW : Hid (mx (wd : Int) (nth l k / 64 + 1) = wn ∧ wd ≤ wn ∧ (nth l k).toNat / 64 < wn ∧ wn ≤ 1024) := ⟨hwn, by omega, by omega, by omega⟩
        have HX := Lib.hid hx
        clear hge hwn
        go_wp2_with fail
        refine (valid_any _ _).mono ?_; rintro e w' ⟨rfl, n1, rfl⟩
        go_wp2_with fail
        go_roundw
        case rel => exact ⟨k + 1, wn, by omega, by go_num, by rw [HW.out.1], HW.out.2.2.2, (by first | exact Qt.refl _ | exact Qt.drewN _ _ | exact (Qt.drewN _ _).trans (Qt.drewN _ _) | exact ((Qt.drewN _ _).trans (Qt.drewN _ _)).trans (Qt.drewN _ _) | exact Qt.drew _ | exact (Qt.drewN _ _).trans (Qt.drew _)), all_snoc hlt hh.out.1 HX.out, fun j hj => by
          by_cases e : j = k
          · subst e; exact HW.out.2.2.1
          · have := hh.out.2 j (by omega); have := HW.out.2.1; omega⟩
        case measure => simp [intOf]; omega
    · have HA : Hid (l.all valB = true ∧ ∀ j, j < l.length → (nth l j).toNat / 64 < wd) := by
        have h1 := hh.out.1
        rw [List.take_of_length_le (by omega)] at h1
        exact ⟨h1, fun j hj => hh.out.2 j (by omega)⟩
      clear hh hmx
      go_wp2_with (first | (at_make; refine wp_make (f := wv) 0 sBits rfl _ rfl _ _ rfl .i64 .i64 _ _ wd rfl rfl rfl rfl ?c1 ?c2 ?_))
      case c1 => omega
      case c2 => unfold maxLen; omega
      intro s cap2 w1 hown hbw
      have hb0 : Below w.heap.size w w1 := ((Qt.drewN w _).below _).trans hbw
      clear hbw
      go_wp2_with fail
      go_loopw [9, 29] (fun _ i wr => ∃ (k : Nat) (R : List Nat), k ≤ l.length ∧ i = .int .i64 k ∧ Hid (Below w.heap.size w wr ∧ OwnW wr w.heap.size 76 (.slice s wd cap2) R ∧ R.length = wd ∧ Wds R ∧ ∀ y, hasN R y = decide ((y : Int) ∈ l.take k))) (fun _ i _ => l.length - (intOf i).toNat)
      case atStart => exact ⟨0, List.replicate wd 0, by omega, rfl, hb0, hown, by simp, fun i => by rw [nth_zeros]; exact W64.zero, fun y => by simp [hasN, nth_zeros]⟩
      case round =>
        clear hown hb0
        obtain ⟨k, R, hk, rfl, hh⟩ := hrel
        by_cases hlt : k < l.length
        · obtain ⟨hbw, ho, hRl, hRw, hRp⟩ := hh.out
          have hck : wr.cell? ⟨blk a, ofs a + k, none⟩ = some (.int .i64 (nth l k)) := by
            rw [hbw.cell (p := ⟨blk a, ofs a + k, none⟩) (HC.out.2 k hlt)]; exact HC.out.1 k hlt
          have hval := List.all_eq_true.1 HA.out.1 _ (nth_mem l k hlt)
          obtain ⟨hx1, hx2⟩ : 0 ≤ nth l k ∧ nth l k < 65536 := by simpa [valB] using hval
          have hlw := HA.out.2 k hlt
          obtain ⟨m, hm2⟩ := Int.eq_ofNat_of_zero_le hx1
          rw [hm2] at hck hlw
          simp only [Int.toNat_natCast] at hlw
          have hmm : m < 65536 := by omega
          have hfz := ho.frozen (by omega) (ofs s + m / 64)
          have hbl := ho.blkge (by omega)
          obtain ⟨a2, c2, he, hm3, hidx2, hcell2, _⟩ := ho.lst.out1 sBits
          simp at he
          obtain ⟨rfl, he, rfl⟩ := he
          rw [hRl] at hidx2 hcell2
          have hcr := hcell2 (m / 64) hlw
          unfold wv at hcr
          have hi2 := hidx2 .i64 ((m : Int) / 64) (by omega) (by omega)
          have hor : bits BinOp.or IntKind.u64 ((nth R (m / 64) : Nat) : Int) (IntKind.u64.wrap (2 ^ (m % 64))) = ((nth R (m / 64) ||| 2 ^ (m % 64) : Nat) : Int) := by
            rw [pow_wrap _ (by omega)]; exact or_eq _ _ (hRw _) (pow_w _ (by omega))
          have HM := Lib.hid hm2
          clear hbw ho hRl hRw hRp hval hx1 hx2 he hm3 hidx2 hcell2 hm2
          go_wp2_with fail
          go_roundw
          case rel =>
            obtain ⟨hbw, ho, hRl, hRw, hRp⟩ := hh.out
            refine ⟨k + 1, R.set (m / 64) (nth R (m / 64) ||| 2 ^ (m % 64)), by omega, by go_num, hbw.setCell hbl.1 _, ho.set _ _, by simpa using hRl, fun i => ?_, fun y => ?_⟩
            · rw [nth_set]; split
              · exact or_w _ _ (hRw _) (pow_w _ (by omega))
              · exact hRw i
            · rw [hasN_set _ _ _ _ (by omega), take_snoc l k hlt, HM.out]
              have hd : decide ((y : Int) ∈ l.take k ++ [(m : Int)]) = (decide ((y : Int) ∈ l.take k) || decide ((y : Int) = (m : Int))) := by
                rw [Bool.eq_iff_iff]; simp
              rw [hd, ← hRp y]
              split
              · rename_i e
                have hd2 : decide (m % 64 = y % 64) = decide ((y : Int) = (m : Int)) := by rw [decide_eq_decide]; omega
                rw [Nat.testBit_or, Nat.testBit_two_pow, hasN, e, hd2]
              · rename_i e
                have : ¬ (y : Int) = (m : Int) := by intro h; apply e; omega
                simp [this]
          case measure => simp [intOf]; omega
        · have HF : Hid (Below w.heap.size w wr ∧ OwnW wr w.heap.size 76 (.slice s wd cap2) R ∧ R.length = wd ∧ Wds R ∧ ∀ y, hasN R y = decide ((y : Int) ∈ l)) := by
            have := hh.out
            rw [List.take_of_length_le (by omega)] at this; exact this
          clear hh
          go_wp2_with fail
          refine (normal_any _ _ _ R _ HF.out.2.1.lst HF.out.2.2.1).mono ?_
          intro e w5 hnp
          obtain ⟨m5, v5, q1, q2, q3, rfl, hv5, q4⟩ := hnp
          have HV := Lib.hid (And.intro hv5 (And.intro q2 q3))
          clear hv5 q2 q3
          go_wp2_with fail
          go_ret2
          obtain ⟨v6, r, he, hF, hWr, hNr, hlr, hpr, hbr⟩ := set_of_norm (N := 1024) (p := fun y => decide ((y : Int) ∈ l)) HF.out.2.1 HF.out.2.2.1 hwd HF.out.2.2.2.1 HF.out.2.2.2.2 HF.out.1 ⟨m5, v5, q1, HV.out.2.1, HV.out.2.2, rfl, HV.out.1, q4⟩
          simp at he
          subst he
          exact .inr ⟨HA.out.1, v5, r, rfl, hF, hWr, hNr, hlr, hpr, hbr⟩

end Go.Proofs.Ytdlfbkmjemamhaa
