/- More contracts of package bits and of its reference: the reference's List, Equal, normal, Count, Next, Check, Within, Same. -/
import Derived.Test.YtingmncemmipeaaBitsA
namespace Go.Proofs.Ytingmncemmipeaa
open Go.RowKit Go.Dfl

set_option maxHeartbeats 1600000 in
theorem RList_any (v : Value) (b : List Nat) (w : World) (h : Words w v b) (hwd : Wds b) (hlen : b.length ≤ 65536) :
    Calls Try.prog 35 #[v] w (ListPost (els b) w) := by
  obtain ⟨a, cap, rfl, hm, hidx, hcell, hblk⟩ := h.out1 sU64
  have HWd := Lib.hid hwd
  clear h hwd
  go_enter Try.func35, Try.ntmps35
  go_wp2
  go_loopw [3, 4] (fun l i wr => ∃ k : Nat, k ≤ b.length ∧ i = .int .i64 k ∧ Hid (Below w.heap.size w wr ∧ OwnI wr w.heap.size 3 l (elsUp b (k * 64)))) (fun _ i _ => b.length - (intOf i).toNat)
  case atStart => exact ⟨0, by omega, rfl, Below.refl _ _, Own.nil _ _ _ _⟩
  case round =>
    obtain ⟨k, hk, rfl, hh⟩ := hrel
    by_cases hlt : k < b.length
    · have hc : wr.cell? ⟨blk a, ofs a + k, none⟩ = some (.int .u64 ((nth b k : Nat) : Int)) := by
        rw [hh.out.1.cell (p := ⟨blk a, ofs a + k, none⟩) (hblk k hlt)]; exact hcell k hlt
      clear hcell
      go_wp2
      go_loopw [3, 5, 6] (fun l x i wr => ∃ j m : Nat, j ≤ 64 ∧ i = .int .i64 j ∧ x = .int .u64 (m : Int) ∧ Hid (m = nth b k / 2 ^ j ∧ Below w.heap.size w wr ∧ OwnI wr w.heap.size 3 l (elsUp b (k * 64 + j)))) (fun _ _ i _ => 64 - (intOf i).toNat)
      case atStart => exact ⟨0, nth b k, by omega, rfl, rfl, by simp, hh.out.1, hh.out.2⟩
      case round =>
        clear hh hc
        obtain ⟨j, m, hj, rfl, rfl, hh⟩ := hrel
        by_cases hlj : j < 64
        · have hm2 : (nth b k).testBit j = decide (m % 2 = 1) := by rw [Nat.testBit_eq_decide_div_mod_eq, hh.out.1]
          have hm3 : m / 2 = nth b k / 2 ^ (j + 1) := by rw [hh.out.1, Nat.div_div_eq_div_mul]; rfl
          have hm4 : IntKind.u64.wrap ((m : Int) / 2) = ((m / 2 : Nat) : Int) := by
            have h1 := HWd.out k
            have h2 : m ≤ nth b k := by rw [hh.out.1]; exact Nat.div_le_self _ _
            rw [IntKind.wrap_u64]; unfold W64 at h1; omega
          have HM := Lib.hid (And.intro hm2 (And.intro hm3 hm4))
          clear hm2 hm3 hm4
          by_cases ht : m % 2 = 1
          · have ht' : (((m : Nat) : Int) % 2 == 1) = true := by simp; omega
            have hsz := hh.out.2.1.size
            have hll : (elsUp b (k * 64 + j)).length < 17592186044416 := Nat.lt_of_le_of_lt (elsUp_len _ _) (by omega)
            have HL := Lib.hid (And.intro hll ht)
            clear hll ht
            go_wp2_with (at_builtin; refine wp_append1 (f := Value.int .i64) sInt rfl _ rfl _ _ rfl w.heap.size _ (elsUp b (k * 64 + j)) rfl (hh.out.2.2.alloc _) (64 * (k : Int) + j) ⟨wr.heap.size, 0, none⟩ rfl (by simp [go_sem]) rfl HL.out.1 (by omega) (by simp; omega) ?_; intro v' w2 hown hgr hb2)
            go_roundw
            case rel => exact ⟨j + 1, m / 2, by omega, by go_num, congrArg (Value.int .u64) HM.out.2.2, HM.out.2.1, (hh.out.2.1.alloc hsz _).trans hb2, by
              rw [← Nat.add_assoc, elsUp_yes _ _ (by rw [hasN_at _ _ _ hlj, HM.out.1]; simpa using HL.out.2)]
              rw [show ((k * 64 + j : Nat) : Int) = 64 * (k : Int) + j by omega]; exact hown⟩
            case measure => simp [intOf]; omega
          · have ht' : (((m : Nat) : Int) % 2 == 1) = false := by simp; omega
            have HL := Lib.hid ht
            clear ht
            go_wp2
            go_roundw
            case rel => exact ⟨j + 1, m / 2, by omega, by go_num, congrArg (Value.int .u64) HM.out.2.2, HM.out.2.1, hh.out.2.1, by
              rw [← Nat.add_assoc, elsUp_no _ _ (by rw [hasN_at _ _ _ hlj, HM.out.1]; simpa using HL.out)]; exact hh.out.2.2⟩
            case measure => simp [intOf]; omega
        · obtain rfl : j = 64 := by omega
          go_wp2
          go_roundw
          case rel => exact ⟨k + 1, by omega, by go_num, hh.out.2.1, by
            rw [show (k + 1) * 64 = k * 64 + 64 by omega]; exact hh.out.2.2⟩
          case measure => simp [intOf]; omega
    · obtain rfl : k = b.length := by omega
      go_wp2
      go_ret
      exact ⟨_, rfl, by rw [els, Nat.mul_comm]; exact hh.out.2, hh.out.1⟩

set_option maxHeartbeats 400000 in
theorem Equal_any (v u : Value) (l m : List Nat) (w : World) (h : Words w v l) (h' : Words w u m) :
    Calls Try.prog 13 #[v, u] w fun e w' => e = .returned (.bool (decide (l = m))) ∧ Qt w w' := by
  obtain ⟨a, cap, rfl, hm, hidx, hcell, _⟩ := h.out1 sU64
  obtain ⟨a', cap', rfl, hm', hidx', hcell', _⟩ := h'.out1 sU64
  clear h h'
  by_cases hlen : l.length = m.length
  · have hd : ((l.length : Int) != (m.length : Int)) = false := by simp; omega
    have Hlen := Lib.hid hlen
    have hle : l.length ≤ m.length := by omega
    clear hlen
    go_enter Try.func13, Try.ntmps13
    go_wp2
    go_loopw [5] (fun i wr => ∃ k : Nat, k ≤ l.length ∧ i = .int .i64 k ∧ Qt w wr ∧ Hid (∀ j, j < k → nth l j = nth m j)) (fun i _ => l.length - (intOf i).toNat)
    case atStart => exact ⟨0, by omega, rfl, Qt.refl _, fun j hj => by omega⟩
    case round =>
      obtain ⟨k, hk, rfl, ⟨nw, rfl⟩, Hch⟩ := hrel
      by_cases hlt : k < l.length
      · have hck : w.cell? ⟨blk a, ofs a + k, none⟩ = some (.int .u64 ((nth l k : Nat) : Int)) := hcell k hlt
        have hlt' : k < m.length := by omega
        have hck' : w.cell? ⟨blk a', ofs a' + k, none⟩ = some (.int .u64 ((nth m k : Nat) : Int)) := hcell' k hlt'
        clear hcell hcell'
        by_cases h5 : nth l k = nth m k
        · have h6 : (((nth l k : Nat) : Int) != ((nth m k : Nat) : Int)) = false := by simp; omega
          have H5 := Lib.hid h5
          clear h5
          go_wp2
          go_quiet (fail)
          go_wp2
          go_roundw
          case rel => exact ⟨k + 1, by omega, by go_num, (by first | exact Qt.refl _ | exact Qt.drewN _ _ | exact (Qt.drewN _ _).trans (Qt.drewN _ _) | exact ((Qt.drewN _ _).trans (Qt.drewN _ _)).trans (Qt.drewN _ _) | exact Qt.drew _ | exact (Qt.drewN _ _).trans (Qt.drew _)), fun j hj => by
            by_cases e : j = k
            · subst e; exact H5.out
            · exact Hch.out j (by omega)⟩
          case measure => simp [intOf]; omega
        · have h6 : (((nth l k : Nat) : Int) != ((nth m k : Nat) : Int)) = true := by simp; omega
          have H5 := Lib.hid h5
          clear h5
          go_wp2
          go_quiet (fail)
          go_wp2
          go_ret
          exact ⟨ret_bool (by have := H5.out; simp; rintro rfl; simp at this), (by first | exact Qt.refl _ | exact Qt.drewN _ _ | exact (Qt.drewN _ _).trans (Qt.drewN _ _) | exact ((Qt.drewN _ _).trans (Qt.drewN _ _)).trans (Qt.drewN _ _) | exact Qt.drew _ | exact (Qt.drewN _ _).trans (Qt.drew _))⟩
      · go_wp2
        go_ret
        exact ⟨ret_bool (by simp; exact nth_ext Hlen.out (fun i hi => Hch.out i (by omega))), (by first | exact Qt.refl _ | exact Qt.drewN _ _ | exact (Qt.drewN _ _).trans (Qt.drewN _ _) | exact ((Qt.drewN _ _).trans (Qt.drewN _ _)).trans (Qt.drewN _ _) | exact Qt.drew _ | exact (Qt.drewN _ _).trans (Qt.drew _))⟩
  · have hd : ((l.length : Int) != (m.length : Int)) = true := by simp; omega
    have Hlen := Lib.hid hlen
    clear hlen
    go_enter Try.func13, Try.ntmps13
    go_wp2
    go_ret
    exact ⟨ret_bool (by have := Hlen.out; simp; rintro rfl; simp at this), Qt.refl _⟩
set_option maxHeartbeats 400000 in
theorem EqualInts_any (v u : Value) (l m : List Int) (w : World) (h : Ints w v l) (h' : Ints w u m) :
    Calls Try.prog 16 #[v, u] w fun e w' => e = .returned (.bool (decide (l = m))) ∧ Qt w w' := by
  obtain ⟨a, cap, rfl, hm, hidx, hcell, _⟩ := h.out1 sInt
  obtain ⟨a', cap', rfl, hm', hidx', hcell', _⟩ := h'.out1 sInt
  clear h h'
  by_cases hlen : l.length = m.length
  · have hd : ((l.length : Int) != (m.length : Int)) = false := by simp; omega
    have Hlen := Lib.hid hlen
    have hle : l.length ≤ m.length := by omega
    clear hlen
    go_enter Try.func16, Try.ntmps16
    go_wp2
    go_loopw [5] (fun i wr => ∃ k : Nat, k ≤ l.length ∧ i = .int .i64 k ∧ Qt w wr ∧ Hid (∀ j, j < k → nth l j = nth m j)) (fun i _ => l.length - (intOf i).toNat)
    case atStart => exact ⟨0, by omega, rfl, Qt.refl _, fun j hj => by omega⟩
    case round =>
      obtain ⟨k, hk, rfl, ⟨nw, rfl⟩, Hch⟩ := hrel
      by_cases hlt : k < l.length
      · have hck : w.cell? ⟨blk a, ofs a + k, none⟩ = some (.int .i64 (nth l k)) := hcell k hlt
        have hlt' : k < m.length := by omega
        have hck' : w.cell? ⟨blk a', ofs a' + k, none⟩ = some (.int .i64 (nth m k)) := hcell' k hlt'
        clear hcell hcell'
        by_cases h5 : nth l k = nth m k
        · have h6 : (nth l k != nth m k) = false := by simp; omega
          have H5 := Lib.hid h5
          clear h5
          go_wp2
          go_quiet (fail)
          go_wp2
          go_roundw
          case rel => exact ⟨k + 1, by omega, by go_num, (by first | exact Qt.refl _ | exact Qt.drewN _ _ | exact (Qt.drewN _ _).trans (Qt.drewN _ _) | exact ((Qt.drewN _ _).trans (Qt.drewN _ _)).trans (Qt.drewN _ _) | exact Qt.drew _ | exact (Qt.drewN _ _).trans (Qt.drew _)), fun j hj => by
            by_cases e : j = k
            · subst e; exact H5.out
            · exact Hch.out j (by omega)⟩
          case measure => simp [intOf]; omega
        · have h6 : (nth l k != nth m k) = true := by simp; omega
          have H5 := Lib.hid h5
          clear h5
          go_wp2
          go_quiet (fail)
          go_wp2
          go_ret
          exact ⟨ret_bool (by have := H5.out; simp; rintro rfl; simp at this), (by first | exact Qt.refl _ | exact Qt.drewN _ _ | exact (Qt.drewN _ _).trans (Qt.drewN _ _) | exact ((Qt.drewN _ _).trans (Qt.drewN _ _)).trans (Qt.drewN _ _) | exact Qt.drew _ | exact (Qt.drewN _ _).trans (Qt.drew _))⟩
      · go_wp2
        go_ret
        exact ⟨ret_bool (by simp; exact nth_ext Hlen.out (fun i hi => Hch.out i (by omega))), (by first | exact Qt.refl _ | exact Qt.drewN _ _ | exact (Qt.drewN _ _).trans (Qt.drewN _ _) | exact ((Qt.drewN _ _).trans (Qt.drewN _ _)).trans (Qt.drewN _ _) | exact Qt.drew _ | exact (Qt.drewN _ _).trans (Qt.drew _))⟩
  · have hd : ((l.length : Int) != (m.length : Int)) = true := by simp; omega
    have Hlen := Lib.hid hlen
    clear hlen
    go_enter Try.func16, Try.ntmps16
    go_wp2
    go_ret
    exact ⟨ret_bool (by have := Hlen.out; simp; rintro rfl; simp at this), Qt.refl _⟩

theorem run_slice3 {P : Program} {t e : TypeId} {z : Value} {by8 : Nat} (ht : SliceOf P t e z 1 by8) (a : Option Addr) (n cap : Nat) (k k' : IntKind) (m : Int) (h0 : 0 ≤ m) (h1 : m ≤ cap) (ha : a = some ⟨blk a, ofs a, none⟩) (W : World) :
    (Instr.slice t (.slice a n cap) none (some (.int k m)) (some (.int k' m))).run P W = .ok (.slice a m.toNat m.toNat) W := by
  obtain ⟨i, hi, _, hs, _⟩ := ht.info
  have hc : P.cellsOf e = 1 := by simp [Program.cellsOf, hi, hs]
  obtain ⟨M, rfl⟩ := Int.eq_ofNat_of_zero_le h0
  have h1' : M ≤ cap := by omega
  simp [Instr.slice, run_underlying ht.und, Instr.sliceBounds, Instr.sliceBound, asIntOf, h1', run_sizeOf _ hi]
  intro _
  rw [ha]; simp [Addr.add]

/-- What normal returns: the words cut behind the last one that is not zero. -/
def NormPost (b : List Nat) (s : Option Addr) (w : World) (e : Ending) (w' : World) : Prop :=
  ∃ m v, m ≤ b.length ∧ (∀ i, m ≤ i → nth b i = 0) ∧ (m = 0 ∨ nth b (m - 1) ≠ 0) ∧ e = .returned v ∧ v = (if m = 0 then .slice none 0 0 else .slice s m m) ∧ Qt w w'

set_option maxHeartbeats 400000 in
theorem normal_any (a : Option Addr) (n cap : Nat) (b : List Nat) (w : World) (h : Words w (.slice a n cap) b) (hn : b.length = n) :
    Calls Try.prog 39 #[.slice a n cap] w (NormPost b a w) := by
  have hsl := h
  obtain ⟨a2, cap2, he, hm, hidx, hcell, hblk⟩ := h.out1 sBits
  simp at he
  obtain ⟨rfl, rfl, rfl⟩ := he
  have hcap : b.length ≤ cap ∧ ∀ i, i < b.length → a = some ⟨blk a, ofs a, none⟩ := by
    obtain ⟨a3, cap3, he, g1, g2, g3⟩ := hsl
    simp at he
    obtain ⟨rfl, rfl⟩ := he
    exact ⟨g1, fun i hi => (g3 i hi).1⟩
  have HC := Lib.hid hcap
  clear h hn hsl hcap
  go_enter Try.func39, Try.ntmps39
  go_wp2
  go_loop [3] (fun x => ∃ m : Nat, m ≤ b.length ∧ x = .int .i64 m ∧ Hid (∀ i, m ≤ i → nth b i = 0)) (fun x => (intOf x).toNat)
  case atStart => exact ⟨b.length, by omega, rfl, fun i hi => nth_out _ _ hi⟩
  case round =>
    obtain ⟨m, hmb, rfl, hh⟩ := hrel
    by_cases h0 : m = 0
    · subst h0
      go_wp2
      go_ret
      exact ⟨0, _, by omega, hh.out, .inl rfl, rfl, rfl, Qt.refl _⟩
    · obtain ⟨q, rfl⟩ : ∃ q, m = q + 1 := ⟨m - 1, by omega⟩
      have hq := hcell q (by omega)
      have hqb : q < b.length := by omega
      have hpos : (0 : Int) < ((q + 1 : Nat) : Int) := by omega
      unfold wv at hq
      clear hcell h0
      by_cases hz : nth b q = 0
      · have hz' : (((nth b q : Nat) : Int) == 0) = true := by simp [hz]
        have HZ := Lib.hid hz
        clear hz
        go_wp2
        go_round
        case rel => exact ⟨q, by omega, by go_num, fun i hi => by
          by_cases e : i = q
          · subst e; exact HZ.out
          · exact hh.out i (by omega)⟩
        case measure => simp [intOf]
      · have hz' : (((nth b q : Nat) : Int) == 0) = false := by simp; omega
        have hs3 := fun W => run_slice3 sBits a b.length cap .i64 .i64 ((q + 1 : Nat) : Int) (by omega) (by have := HC.out.1; omega) (HC.out.2 q hqb) W
        have hne : (((q : Nat) : Int) + 1 == 0) = false := by simp; omega
        have HZ := Lib.hid hz
        clear hz
        simp only [Int.natCast_add, Int.natCast_one] at hs3
        go_wp2
        go_ret
        exact ⟨q + 1, _, by omega, hh.out, .inr HZ.out, rfl, by rw [if_neg (by omega)]; congr 1 <;> omega, Qt.refl _⟩

end Go.Proofs.Ytingmncemmipeaa
