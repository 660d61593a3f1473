/- Contracts of slices.Index and slices.Min for numbers. -/
import Derived.Test.YtchmjgjagaaomaaGrb
namespace Go.Proofs.Ytchmjgjagaaomaa
open Go.RowKit Go.Dfl Go.Gra
def IdxP (l : List Int) (x i : Int) : Prop := (i = -1 ∧ ¬ x ∈ l) ∨ ∃ k : Nat, i = (k : Int) ∧ k < l.length ∧ nth l k = x
set_option maxHeartbeats 800000 in
set_option maxRecDepth 100000 in
theorem sIndex_any (v : Value) (l : List Int) (x : Int) (W : World) (h : Ints W v l) : Calls Try.prog 63 #[v, .int .i64 x] W fun e W' => (∃ i, e = .returned (.int .i64 i) ∧ IdxP l x i) ∧ W' = W := by
  obtain ⟨a, c, rfl, hm, hi, hc, hb⟩ := h.out1 sIntG
  have HC := Lib.hid hc
  clear h hc hb
  go_enter Try.func63, Try.ntmps63
  go_wp2_with fail
  go_loopw [8] (fun s wr => ∃ k : Nat, k ≤ l.length ∧ s = .int .i64 (k : Int) ∧ wr = W ∧ Hid (∀ j, j < k → nth l j ≠ x)) (fun s _ => l.length - (intOf s).toNat)
  case atStart => exact ⟨0, by omega, rfl, rfl, fun j hj => by omega⟩
  case round =>
    obtain ⟨k, hk, rfl, rfl, hh⟩ := hrel
    by_cases hlt : k < l.length
    · have hkl : (k : Int) < (l.length : Int) := by omega
      have r1 := HC.out k hlt
      have i1 := hi .i64 (k : Int) (by omega) (by omega)
      rw [Int.toNat_natCast] at i1
      obtain ⟨y, hy⟩ : ∃ y, y = nth l k := ⟨_, rfl⟩
      rw [← hy] at r1
      by_cases he : x = y
      · have w1 : (x == y) = true := by simpa using he
        have HX : Hid (IdxP l x (k : Int)) := Lib.hid (.inr ⟨k, rfl, hlt, by rw [he, hy]⟩)
        clear he hy
        go_wp2_with fail
        go_ret
        exact ⟨⟨_, rfl, HX.out⟩, rfl⟩
      · have w1 : (x == y) = false := by simpa using he
        have HY := Lib.hid (And.intro he hy)
        clear he hy
        go_wp2_with fail
        go_roundw
        case rel => exact ⟨k + 1, by omega, by go_num, trivial, fun j hj => by
          by_cases e : j = k
          · rw [e, ← HY.out.2]; exact fun e2 => HY.out.1 e2.symm
          · exact hh.out j (by omega)⟩
        case measure => simp [intOf]; omega
    · obtain rfl : k = l.length := by omega
      have HX : Hid (IdxP l x (-1)) := Lib.hid (.inl ⟨rfl, fun hm9 => by
        obtain ⟨j, hj, he⟩ := mem_nth hm9
        exact hh.out j hj he⟩)
      go_wp2_with fail
      go_ret
      exact ⟨⟨_, rfl, HX.out⟩, rfl⟩
set_option maxHeartbeats 800000 in
set_option maxRecDepth 100000 in
theorem sMin_any (v : Value) (l : List Int) (W : World) (h : Ints W v l) (hl : 0 < l.length) : Calls Try.prog 64 #[v] W fun e W' => (∃ m, e = .returned (.int .i64 m) ∧ m ∈ l ∧ ∀ x ∈ l, m ≤ x) ∧ W' = W := by
  obtain ⟨a, c, rfl, hm, hi, hc, hb⟩ := h.out1 sIntG
  have HC := Lib.hid hc
  have q1 : ¬ (l.length : Int) < 1 := by omega
  have r0 := hc 0 hl
  have i0 : ∀ W, (Instr.indexAt 32 (.slice a l.length c) (.int .i64 0)).run Try.prog W = .ok (.pointer (some ⟨blk a, ofs a + 0, none⟩)) W := fun W => by
    have := hi .i64 0 (by omega) (by omega) W
    exact this
  rw [Nat.add_zero] at r0 i0
  clear h hc hb
  go_enter Try.func64, Try.ntmps64
  go_wp2_with fail
  clear r0 i0
  go_loopw [3, 4] (fun mv s wr => ∃ (k : Nat) (m : Int), 1 ≤ k ∧ k ≤ l.length ∧ s = .int .i64 (k : Int) ∧ mv = .int .i64 m ∧ wr = W ∧ Hid ((∃ j, j < k ∧ m = nth l j) ∧ ∀ j, j < k → m ≤ nth l j)) (fun _ s _ => l.length - (intOf s).toNat)
  case atStart => exact ⟨1, nth l 0, by omega, by omega, rfl, rfl, rfl, ⟨0, by omega, rfl⟩, fun j hj => by
    obtain rfl : j = 0 := by omega
    exact Int.le_refl _⟩
  case round =>
    obtain ⟨k, m, hk1, hk, rfl, rfl, rfl, hh⟩ := hrel
    by_cases hlt : k < l.length
    · have hkl : (k : Int) < (l.length : Int) := by omega
      have r1 := HC.out k hlt
      have i1 := hi .i64 (k : Int) (by omega) (by omega)
      rw [Int.toNat_natCast] at i1
      obtain ⟨y, hy⟩ : ∃ y, y = nth l k := ⟨_, rfl⟩
      rw [← hy] at r1
      have HY := Lib.hid hy
      clear hy
      go_wp2_with fail
      refine ⟨⟨k + 1, min m y, by omega, by omega, by go_num, rfl, trivial, ?_, fun j hj => ?_⟩, by simp [intOf]; omega⟩
      · by_cases hmy : m ≤ y
        · obtain ⟨j, hj, he⟩ := hh.out.1
          exact ⟨j, by omega, by rw [Int.min_eq_left hmy]; exact he⟩
        · exact ⟨k, by omega, by rw [Int.min_eq_right (by omega)]; exact HY.out⟩
      · by_cases e : j = k
        · rw [e, ← HY.out]; exact Int.min_le_right _ _
        · exact Int.le_trans (Int.min_le_left _ _) (hh.out.2 j (by omega))
    · obtain rfl : k = l.length := by omega
      go_wp2_with fail
      go_ret
      refine ⟨⟨m, rfl, ?_, fun x hx => ?_⟩, rfl⟩
      · obtain ⟨j, hj, he⟩ := hh.out.1
        rw [he]; exact nth_mem _ _ hj
      · obtain ⟨j, hj, rfl⟩ := mem_nth hx
        exact hh.out.2 j hj
end Go.Proofs.Ytchmjgjagaaomaa
