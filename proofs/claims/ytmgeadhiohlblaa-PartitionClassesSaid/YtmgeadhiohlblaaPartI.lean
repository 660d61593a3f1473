/- Contract of partition.Classes, and the statement PartitionClasses. -/
import Derived.Test.YtmgeadhiohlblaaPartH
import Derived.Test.YtmgeadhiohlblaaLawOf
namespace Go.Proofs.Ytmgeadhiohlblaa
open Go.ChangeShapes Go.WideShapes Go.ChangeAt Go.RowKit Go.Deep Go.Dfl

def ClassesPost (p : List Int) (w : World) (e : Ending) (w' : World) : Prop :=
  (chk p ≠ 0 ∧ e = .returned (.tuple #[.slice none 0 0, .int .i64 (chk p)]) ∧ Below w.heap.size w w') ∨
  (chk p = 0 ∧ ∃ v vs, e = .returned (.tuple #[v, .int .i64 0]) ∧ Grid (Value.int .i64) w' v vs (clsTo p p.length) ∧ Below w.heap.size w w')

structure AtInv (p : List Int) (k : Nat) (A : List Int) : Prop where
  len : A.length = p.length
  idx : ∀ h, h < k → nth p h = h → nth A h = idxOf p h

theorem hdsTo_le (p : List Int) (k : Nat) : (hdsTo p k).length ≤ k := by
  unfold hdsTo; exact Nat.le_trans (List.length_filter_le _ _) (by simp)
theorem memTo_le (p : List Int) (k h : Nat) : (memTo p k h).length ≤ k := by
  unfold memTo; rw [List.length_map]; exact Nat.le_trans (List.length_filter_le _ _) (by simp)

set_option maxHeartbeats 1600000 in
set_option maxRecDepth 100000 in
theorem Classes_any (v : Value) (p : List Int) (w : World) (h : Ints w v p) :
    Calls Try.prog 24 #[v] w (ClassesPost p w) := by
  have hI := h
  obtain ⟨a, cap, rfl, hm, hidx, hcell, hblk⟩ := h.out1 sInt
  have HC := Lib.hid (And.intro hcell hblk)
  clear h hcell hblk
  by_cases h0 : chk p = 0
  · have h0' : (chk p != 0) = false := by simpa using h0
    have H0 := Lib.hid h0
    have hvp := VP.of_chk h0
    have hp9 := (chk_ok h0).1
    have HV := Lib.hid (chk_ok h0).2
    clear h0 hvp
    go_enter Try.func24, Try.ntmps24
    go_wp2_with fail
    refine (Check_any _ p _ hI).mono ?_; rintro e w' ⟨rfl, nw, rfl⟩
    go_wp2_with (at_make; refine wp_make (0 : Int) sInt rfl _ rfl _ _ rfl .i64 .i64 _ _ p.length rfl rfl rfl rfl ?c1 ?c2 ?_)
    case c1 => omega
    case c2 => unfold maxLen; omega
    intro s2 cap2 w2 hown hb
    go_wp2_with fail
    obtain ⟨bc, hbc⟩ : ∃ bc, bc = w.heap.size := ⟨_, rfl⟩
    obtain ⟨ba, hba⟩ : ∃ ba, ba = w2.heap.size := ⟨_, rfl⟩
    have hsz : w.heap.size + 1 ≤ w2.heap.size := by have := hb.size; simpa using this
    have hbox : w2.heap[bc]? = some (.cells #[.slice none 0 0] 41 (0, 0)) := by
      rw [hb.block bc (by first | omega | (simp; omega)), hbc]; exact heap_alloc_new _ _
    have hbel : Below w.heap.size w w2 := (((below_drewN (Below.refl _ _) _).alloc (by simp) _).trans (hb.mono (by simp)))
    have hlv : ∀ k, (Value.slice s2 p.length cap2).ownBlock = some k → w.heap.size + 1 ≤ k ∧ k < w2.heap.size := fun k hk => by
      have := hown.lt k hk; simpa using this
    have hCI : CI w (w2.heap.size + 1) bc ba (.slice none 0 0) (.slice s2 p.length cap2) [] [] (List.replicate p.length 0) (w2.alloc (.cells #[.slice s2 p.length cap2] 24)) := by
      refine ⟨?_, ?_, OwnN.empty _ _ _, (hown.mono (by simp)).alloc _, hbel.alloc hbel.size _, by omega, by omega, by omega, fun k hk => ?_, by simp⟩
      · rw [Below.heap_alloc _ _ _ (by omega)]; exact hbox
      · rw [hba]; exact heap_alloc_new _ _
      · have := hlv k hk; omega
    rw [← hbc, ← hba]
    have HCI := Lib.hid hCI
    obtain ⟨B, hB⟩ : ∃ B, B = w2.heap.size + 1 := ⟨_, rfl⟩
    rw [← hB] at HCI
    clear hCI hown hb hbox hbel hlv hbc hba hsz hB
    go_loopw [21] (fun x wr => ∃ (k : Nat) (vc : Value) (vs : List Value) (A : List Int), k ≤ p.length ∧ x = .int .i64 k ∧ Hid (CI w B bc ba vc (.slice s2 p.length cap2) vs (clsTo p k) A wr ∧ AtInv p k A)) (fun x _ => p.length - (intOf x).toNat)
    case atStart => exact ⟨0, _, _, _, by omega, rfl, HCI.out, ⟨by simp, fun h hh => by omega⟩⟩
    case round =>
      clear HCI
      obtain ⟨k, vc, vs, A, hk, rfl, hh⟩ := hrel
      by_cases hlt : k < p.length
      · obtain ⟨hpa, hpb, hpc⟩ := HV.out k hlt
        obtain ⟨L, hL⟩ := Int.eq_ofNat_of_zero_le hpa
        have hck : wr.cell? ⟨blk a, ofs a + k, none⟩ = some (.int .i64 (L : Int)) := by
          rw [hh.out.1.below.cell (p := ⟨blk a, ofs a + k, none⟩) (HC.out.2 k hlt), HC.out.1 k hlt, hL]
        have hal := hh.out.2.len
        have hLk : L ≤ k := by omega
        have hcl := clsTo_len p k
        have hcl2 := hdsTo_le p k
        by_cases he : L = k
        · subst he
          have hpush := clsTo_push (p := p) (k := L) (fun j hj => (HV.out j (by omega)).2.1) hL
          have HP := Lib.hid (And.intro hpush hL)
          clear hpush hL hpa hpb hpc
          go_wp2_with fail
          refine (collect_push w B bc ba vc _ vs _ A _ hh.out.1 L (by omega) (by omega) (by omega)).mono ?_
          rintro e W' ⟨v', vc', vs', rfl, hC'⟩
          have HC' := Lib.hid hC'
          clear hC'
          go_wp2_with fail
          go_roundw
          case rel => exact ⟨L + 1, vc', vs', _, by omega, by go_num, by rw [HP.out.1]; exact HC'.out, by simp [hh.out.2.len], fun h hlt2 hph => by
            rw [nth_set]
            by_cases e2 : L = h
            · subst e2; rw [if_pos ⟨rfl, by omega⟩, clsTo_len]; rfl
            · rw [if_neg (by omega)]; exact hh.out.2.idx h (by omega) hph⟩
          case measure => simp [intOf]; omega
        · have hLL : nth p L = L := by rw [hL] at hpc; simpa using hpc
          have hadd := clsTo_add (p := p) (k := k) hL (by omega) hLL
          have hat := hdsTo_at hLL k (by omega)
          have hAL := hh.out.2.idx L (by omega) hLL
          have hin : (nth (clsTo p k) (idxOf p L)).length ≤ 8192 := by
            unfold clsTo
            rw [nth_map' _ _ _ hat.1]
            have := memTo_le p k (nth (hdsTo p k) (idxOf p L)); omega
          have HP := Lib.hid (And.intro hadd (And.intro hat.1 (And.intro hAL (And.intro hin hL))))
          clear hadd hat hAL hin hL hLL hpa hpb hpc
          go_wp2_with fail
          refine (collect_add w B bc ba vc _ vs _ A _ hh.out.1 k L (idxOf p L) (by omega) (by omega) HP.out.2.2.1 (by rw [clsTo_len]; exact HP.out.2.1) (by omega) (by omega) (by omega) HP.out.2.2.2.1).mono ?_
          rintro e W' ⟨v', vc', vs', rfl, hC'⟩
          have HC' := Lib.hid hC'
          clear hC'
          go_wp2_with fail
          go_roundw
          case rel => exact ⟨k + 1, vc', vs', A, by omega, by go_num, by rw [HP.out.1]; exact HC'.out, hh.out.2.len, fun h hlt2 hph => by
            by_cases e2 : h = k
            · subst e2; have := HP.out.2.2.2.2; omega
            · exact hh.out.2.idx h (by omega) hph⟩
          case measure => simp [intOf]; omega
      · obtain rfl : k = p.length := by omega
        have bxc := cell_of_one hh.out.1.boxc
        have HD := Lib.hid hh.out.1
        clear hh
        go_wp2_with fail
        go_ret2
        exact .inr ⟨H0.out, vc, vs, rfl, HD.out.rows.grid, HD.out.below⟩
  · have h0' : (chk p != 0) = true := by simpa using h0
    have H0 := Lib.hid h0
    clear h0
    go_enter Try.func24, Try.ntmps24
    go_wp2_with fail
    refine (Check_any _ p _ hI).mono ?_; rintro e w' ⟨rfl, nw, rfl⟩
    go_wp2_with fail
    go_ret2
    exact .inl ⟨H0.out, rfl, below_drewN (Below.refl _ _) _⟩
end Go.Proofs.Ytmgeadhiohlblaa
