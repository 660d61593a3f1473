/- Contracts of the functions of package bits and of its reference that only read. -/
import Derived.Test.YtdlfbkmjemamhaaBitsP
import Derived.Test.YtdlfbkmjemamhaaRows
namespace Go.Proofs.Ytdlfbkmjemamhaa
open Go.RowKit Go.Dfl

theorem sInt : SliceOf Try.prog 37 3 (.int .i64 0) 1 8 := ⟨Try.underlying37, info_parts (P := Try.prog) (e := 3) (by kernel_rfl)⟩
theorem sBits : SliceOf Try.prog 45 76 (.int .u64 0) 1 8 := ⟨Try.underlying45, info_parts (P := Try.prog) (e := 76) (by kernel_rfl)⟩
theorem sU64 : SliceOf Try.prog 44 76 (.int .u64 0) 1 8 := ⟨Try.underlying44, info_parts (P := Try.prog) (e := 76) (by kernel_rfl)⟩

/-- A word as a value. -/
def wv (n : Nat) : Value := .int .u64 (n : Int)
abbrev Words := Lst wv
abbrev OwnW := Own wv

set_option maxHeartbeats 400000 in
theorem word_still (v : Value) (b : List Nat) (i : Int) (w : World) (h : Words w v b) (hi : 0 ≤ i) :
    Calls Try.prog 58 #[v, .int .i64 i] w fun e w' => e = .returned (.int .u64 ((nth b i.toNat : Nat) : Int)) ∧ w' = w := by
  obtain ⟨a, cap, rfl, hm, hidx, hcell, _⟩ := h.out1 sBits
  clear h
  by_cases hlt : i < b.length
  · have hc := hcell i.toNat (by omega)
    unfold wv at hc
    clear hcell
    go_enter Try.func58, Try.ntmps58
    go_wp2
    go_ret
    exact ⟨rfl, rfl⟩
  · have h0 : nth b i.toNat = 0 := nth_out _ _ (by omega)
    rw [h0]
    clear hcell hidx h0
    go_enter Try.func58, Try.ntmps58
    go_wp2
    go_ret
    exact ⟨rfl, rfl⟩

theorem word_any (v : Value) (b : List Nat) (i : Int) (w : World) (h : Words w v b) (hi : 0 ≤ i) :
    Calls Try.prog 58 #[v, .int .i64 i] w fun e w' => e = .returned (.int .u64 ((nth b i.toNat : Nat) : Int)) ∧ Qt w w' :=
  (word_still v b i w h hi).mono fun _ _ ⟨a, b⟩ => ⟨a, b ▸ Qt.refl _⟩

def valB (x : Int) : Bool := decide (0 ≤ x ∧ x < 65536)
set_option maxHeartbeats 400000 in
theorem valid_any (x : Int) (w : World) :
    Calls Try.prog 50 #[.int .i64 x] w fun e w' => e = .returned (.bool (valB x)) ∧ Qt w w' := by
  by_cases h1 : 0 ≤ x
  · go_enter Try.func50, Try.ntmps50
    go_wp2
    go_ret
    exact ⟨ret_bool (by simp [valB, h1]), Qt.refl _⟩
  · have h1' : decide (0 ≤ x) = false := by simpa using h1
    go_enter Try.func50, Try.ntmps50
    go_wp2
    go_ret
    exact ⟨ret_bool (by simp [valB]; omega), Qt.refl _⟩
/-- The least bit of a word. -/
def low (n : Nat) : Nat := ((List.range 64).find? n.testBit).getD 0
theorem low_of {n k : Nat} (hk : k < 64) (h : n.testBit k = true) (h2 : ∀ j, j < k → n.testBit j = false) : low n = k := by
  unfold low
  have : (List.range 64).find? n.testBit = some k := by
    rw [List.find?_range_eq_some]
    exact ⟨h, by simpa using hk, fun j hj => by simp [h2 j hj]⟩
  rw [this]; rfl
theorem low_ex {n : Nat} (hn : W64 n) (h0 : n ≠ 0) : ∃ k, k < 64 ∧ n.testBit k = true ∧ ∀ j, j < k → n.testBit j = false := by
  obtain ⟨k, hk⟩ := Nat.exists_testBit_of_ne_zero h0
  have : ∃ k, n.testBit k = true ∧ ∀ j, j < k → n.testBit j = false := by
    clear h0 hn
    induction k using Nat.strongRecOn with
    | _ k ih =>
      by_cases h : ∃ j, j < k ∧ n.testBit j = true
      · obtain ⟨j, hj, hb⟩ := h; exact ih j hj hb
      · exact ⟨k, hk, fun j hj => by by_cases e : n.testBit j = true; exact absurd ⟨j, hj, e⟩ h; simpa using e⟩
  obtain ⟨k, h1, h2⟩ := this
  refine ⟨k, ?_, h1, h2⟩
  by_cases hk : k < 64
  · exact hk
  · rw [hn.bit k (by omega)] at h1; simp at h1
theorem low_spec {n : Nat} (hn : W64 n) (h0 : n ≠ 0) : low n < 64 ∧ n.testBit (low n) = true ∧ ∀ j, j < low n → n.testBit j = false := by
  obtain ⟨k, h1, h2, h3⟩ := low_ex hn h0
  rw [low_of h1 h2 h3]; exact ⟨h1, h2, h3⟩

def hasI (b : List Nat) (x : Int) : Bool := decide (0 ≤ x) && hasN b x.toNat
set_option maxHeartbeats 400000 in
theorem Has_any (v : Value) (b : List Nat) (x : Int) (w : World) (h : Words w v b) (hb : Wds b) (hx2 : x ≤ 9223372036854775807) :
    Calls Try.prog 52 #[v, .int .i64 x] w fun e w' => e = .returned (.bool (hasI b x)) ∧ Qt w w' := by
  have hI := h
  obtain ⟨a, cap, rfl, hm, -⟩ := h.out1 sBits
  have HB := Lib.hid hb
  clear h hb
  by_cases hx : 0 ≤ x
  · obtain ⟨m, rfl⟩ := Int.eq_ofNat_of_zero_le hx
    go_enter Try.func52, Try.ntmps52
    go_wp2_with fail
    refine (word_any _ b _ _ hI (by omega)).mono ?_; rintro e w' ⟨rfl, n1, rfl⟩
    go_wp2_with fail
    go_ret
    exact ⟨ret_bool (by
      rw [bit_eq _ _ (HB.out _)]
      simp [hasI, hasN]), (by first | exact Qt.refl _ | exact Qt.drewN _ _ | exact (Qt.drewN _ _).trans (Qt.drewN _ _) | exact ((Qt.drewN _ _).trans (Qt.drewN _ _)).trans (Qt.drewN _ _) | exact Qt.drew _ | exact (Qt.drewN _ _).trans (Qt.drew _))⟩
  · have hx' : decide (0 ≤ x) = false := by simpa using hx
    go_enter Try.func52, Try.ntmps52
    go_wp2
    go_ret
    exact ⟨ret_bool (by simp [hasI, hx']), Qt.refl _⟩

/-- bits.List and the reference's List. -/
def ListPost (L : List Int) (w : World) (e : Ending) (w' : World) : Prop := ∃ v, e = .returned v ∧ OwnI w' w.heap.size 3 v L ∧ Below w.heap.size w w'

set_option maxHeartbeats 1600000 in
theorem List_any (v : Value) (b : List Nat) (w : World) (h : Words w v b) (hb : Wds b) (hlen : b.length ≤ 65536) :
    Calls Try.prog 23 #[v] w (ListPost (els b) w) := by
  obtain ⟨a, cap, rfl, hm, hidx, hcell, hblk⟩ := h.out1 sBits
  have HB := Lib.hid hb
  clear h hb
  go_enter Try.func23, Try.ntmps23
  go_wp2
  go_loopw [3, 4, 9] (fun l _ i wr => ∃ k : Nat, k ≤ b.length ∧ i = .int .i64 k ∧ Hid (Below w.heap.size w wr ∧ OwnI wr w.heap.size 3 l (elsUp b (k * 64)))) (fun _ _ i _ => b.length - (intOf i).toNat)
  case atStart => exact ⟨0, by omega, rfl, Below.refl _ _, Own.nil _ _ _ _⟩
  case round =>
    obtain ⟨k, hk, rfl, hh⟩ := hrel
    by_cases hlt : k < b.length
    · have hc : wr.cell? ⟨blk a, ofs a + k, none⟩ = some (.int .u64 ((nth b k : Nat) : Int)) := by
        rw [hh.out.1.cell (p := ⟨blk a, ofs a + k, none⟩) (hblk k hlt)]; exact hcell k hlt
      by_cases h0 : nth b k = 0
      · have h0' : (((nth b k : Nat) : Int) == 0) = true := by simp [h0]
        have H0 := Lib.hid h0
        clear h0 hcell
        go_wp2
        go_roundw
        case rel => exact ⟨k + 1, by omega, by go_num, hh.out.1, by
          rw [show (k + 1) * 64 = k * 64 + 64 by omega, elsUp_skip b k H0.out 64 (by omega)]; exact hh.out.2⟩
        case measure => simp [intOf]; omega
      · have h0' : (((nth b k : Nat) : Int) == 0) = false := by simp; omega
        have hW := Lib.hid (HB.out k)
        clear h0 hcell
        generalize hn : nth b k = n at *
        have HN := Lib.hid hn
        clear hn
        go_wp2
        go_loopw [3, 6, 18] (fun l _ i wr => ∃ j : Nat, j ≤ 64 ∧ i = .int .i64 j ∧ Hid (Below w.heap.size w wr ∧ OwnI wr w.heap.size 3 l (elsUp b (k * 64 + j)))) (fun _ _ i _ => 64 - (intOf i).toNat)
        case atStart => exact ⟨0, by omega, rfl, hh.out.1, hh.out.2⟩
        case round =>
          clear hh hc
          obtain ⟨j, hj, rfl, hh⟩ := hrel
          by_cases hlj : j < 64
          · have hbit := bit_eq n j hW.out
            cases ht : n.testBit j
            · rw [ht] at hbit
              go_wp2
              go_roundw
              case rel => exact ⟨j + 1, by omega, by go_num, hh.out.1, by
                rw [← Nat.add_assoc, elsUp_no _ _ (by rw [hasN_at _ _ _ hlj, HN.out, ht])]; exact hh.out.2⟩
              case measure => simp [intOf]; omega
            · rw [ht] at hbit
              have hsz := hh.out.1.size
              have hll : (elsUp b (k * 64 + j)).length < 17592186044416 := Nat.lt_of_le_of_lt (elsUp_len _ _) (by omega)
              have HL := Lib.hid hll
              clear hll
              go_wp2_with (at_builtin; refine wp_append1 (f := Value.int .i64) sInt rfl _ rfl _ _ rfl w.heap.size _ (elsUp b (k * 64 + j)) rfl (hh.out.2.alloc _) ((k : Int) * 64 + j) ⟨wr.heap.size, 0, none⟩ rfl (by simp [go_sem]) rfl HL.out (by omega) (by simp; omega) ?_; intro v' w2 hown hgr hb2)
              go_roundw
              case rel => exact ⟨j + 1, by omega, by go_num, (hh.out.1.alloc hsz _).trans hb2, by
                rw [← Nat.add_assoc, elsUp_yes _ _ (by rw [hasN_at _ _ _ hlj, HN.out, ht])]
                simpa using hown⟩
              case measure => simp [intOf]; omega
          · obtain rfl : j = 64 := by omega
            go_wp2
            go_roundw
            case rel => exact ⟨k + 1, by omega, by go_num, hh.out.1, by
              rw [show (k + 1) * 64 = k * 64 + 64 by omega]; exact hh.out.2⟩
            case measure => simp [intOf]; omega
    · obtain rfl : k = b.length := by omega
      go_wp2
      go_ret
      exact ⟨_, rfl, by rw [els, Nat.mul_comm]; exact hh.out.2, hh.out.1⟩

end Go.Proofs.Ytdlfbkmjemamhaa
