/- Plain laws of sets as lists of words of 64 bits. -/
import Derived.Test.YtchmjgjagaaomaaBase
import Derived.Test.YtchmjgjagaaomaaRows
import Derived.Laws.CopyOwn
namespace Go.Dfl
open Go.RowKit

def W64 (n : Nat) : Prop := n < 18446744073709551616
theorem W64.lt {n : Nat} (h : W64 n) : n < 2 ^ 64 := by unfold W64 at h; omega
theorem W64.of {n : Nat} (h : n < 2 ^ 64) : W64 n := by unfold W64; omega
theorem W64.zero : W64 0 := by unfold W64; omega
/-- All words of the list are words. -/
def Wds (b : List Nat) : Prop := ∀ i, W64 (nth b i)

theorem W64.bit {n : Nat} (h : W64 n) (k : Nat) (hk : 64 ≤ k) : n.testBit k = false :=
  Nat.testBit_lt_two_pow (Nat.lt_of_lt_of_le h.lt (Nat.pow_le_pow_right (by omega) hk))

theorem div_nat (n k : Nat) : (n : Int) / 2 ^ k = ((n / 2 ^ k : Nat) : Int) := by
  rw [Int.natCast_ediv, Int.natCast_pow]; rfl

theorem bit_eq (n k : Nat) (h : W64 n) : (bits BinOp.and IntKind.u64 ((n : Int) / 2 ^ k) 1 == 1) = n.testBit k := by
  have h1 : n / 2 ^ k < 18446744073709551616 := Nat.lt_of_le_of_lt (Nat.div_le_self _ _) h
  have := u64_and_nat (n / 2 ^ k) 1 h1 (by omega)
  rw [div_nat, show (1 : Int) = ((1 : Nat) : Int) from rfl, this, nat_mask1, Nat.testBit_eq_decide_div_mod_eq]
  rw [Bool.eq_iff_iff, beq_iff_eq, decide_eq_true_eq]; omega

/-- Is x an element? -/
def hasN (b : List Nat) (x : Nat) : Bool := (nth b (x / 64)).testBit (x % 64)
theorem hasN_at (b : List Nat) (i k : Nat) (h : k < 64) : hasN b (i * 64 + k) = (nth b i).testBit k := by
  unfold hasN
  rw [show (i * 64 + k) / 64 = i by omega, show (i * 64 + k) % 64 = k by omega]
theorem hasN_out (b : List Nat) (x : Nat) (h : 64 * b.length ≤ x) : hasN b x = false := by
  unfold hasN
  rw [nth_out _ _ (by omega)]; simp

/-- The elements below n, ascending. -/
def elsUp (b : List Nat) (n : Nat) : List Int := ((List.range n).filter (hasN b)).map fun x : Nat => (x : Int)
def els (b : List Nat) : List Int := elsUp b (64 * b.length)

theorem elsUp_zero (b : List Nat) : elsUp b 0 = [] := rfl
theorem elsUp_succ (b : List Nat) (n : Nat) : elsUp b (n + 1) = elsUp b n ++ if hasN b n = true then [(n : Int)] else [] := by
  unfold elsUp
  rw [List.range_succ, List.filter_append, List.map_append]
  congr 1
  by_cases h : hasN b n = true <;> simp [h]
theorem elsUp_yes (b : List Nat) (n : Nat) (h : hasN b n = true) : elsUp b (n + 1) = elsUp b n ++ [(n : Int)] := by rw [elsUp_succ, if_pos h]
theorem elsUp_no (b : List Nat) (n : Nat) (h : hasN b n = false) : elsUp b (n + 1) = elsUp b n := by rw [elsUp_succ, if_neg (by simp [h])]; simp
theorem elsUp_skip (b : List Nat) (i : Nat) (h : nth b i = 0) : ∀ k, k ≤ 64 → elsUp b (i * 64 + k) = elsUp b (i * 64)
  | 0, _ => rfl
  | k+1, hk => by
    rw [← Nat.add_assoc, elsUp_no _ _ (by rw [hasN_at _ _ _ (by omega), h]; simp), elsUp_skip b i h k (by omega)]
theorem elsUp_len (b : List Nat) (n : Nat) : (elsUp b n).length ≤ n := by
  unfold elsUp; rw [List.length_map]; exact Nat.le_trans (List.length_filter_le _ _) (by simp)
theorem mem_elsUp {b : List Nat} {n : Nat} {x : Int} : x ∈ elsUp b n ↔ ∃ m : Nat, x = m ∧ m < n ∧ hasN b m = true := by
  unfold elsUp
  simp only [List.mem_map, List.mem_filter, List.mem_range]
  constructor
  · rintro ⟨m, ⟨h1, h2⟩, rfl⟩; exact ⟨m, rfl, h1, h2⟩
  · rintro ⟨m, rfl, h1, h2⟩; exact ⟨m, ⟨h1, h2⟩, rfl⟩
theorem mem_els {b : List Nat} {x : Int} : x ∈ els b ↔ ∃ m : Nat, x = m ∧ hasN b m = true := by
  unfold els
  rw [mem_elsUp]
  constructor
  · rintro ⟨m, h1, _, h3⟩; exact ⟨m, h1, h3⟩
  · rintro ⟨m, h1, h3⟩
    refine ⟨m, h1, ?_, h3⟩
    by_cases h : m < 64 * b.length
    · exact h
    · rw [hasN_out _ _ (by omega)] at h3; simp at h3

/-- Strictly ascending. -/
def Asc (l : List Int) : Prop := l.Pairwise (· < ·)
theorem elsUp_asc (b : List Nat) (n : Nat) : Asc (elsUp b n) := by
  unfold Asc elsUp
  rw [List.pairwise_map]
  refine List.Pairwise.imp ?_ ((List.pairwise_lt_range (n := n)).filter _)
  intro x y h; omega
theorem els_asc (b : List Nat) : Asc (els b) := elsUp_asc b _
theorem Asc.nth {l : List Int} (h : Asc l) {i j : Nat} (hij : i < j) (hj : j < l.length) : Go.Dfl.nth l i < Go.Dfl.nth l j := by
  rw [nth_eq _ _ (by omega), nth_eq _ _ hj]
  exact List.pairwise_iff_getElem.1 h i j (by omega) hj hij
theorem Asc.ext : ∀ {l m : List Int}, Asc l → Asc m → (∀ x, x ∈ l ↔ x ∈ m) → l = m
  | [], [], _, _, _ => rfl
  | [], y :: m, _, _, h => by have := (h y).2 (by simp); simp at this
  | x :: l, [], _, _, h => by have := (h x).1 (by simp); simp at this
  | x :: l, y :: m, hl, hm, h => by
    unfold Asc at hl hm
    rw [List.pairwise_cons] at hl hm
    have hxy : x = y := by
      have h1 := (h x).1 (by simp)
      have h2 := (h y).2 (by simp)
      simp only [List.mem_cons] at h1 h2
      rcases h1 with h1 | h1
      · exact h1
      · rcases h2 with h2 | h2
        · exact h2.symm
        · have a := hm.1 x h1
          have b := hl.1 y h2
          omega
    subst hxy
    rw [Asc.ext (l := l) (m := m) hl.2 hm.2 fun z => ?_]
    have := h z
    simp only [List.mem_cons] at this
    constructor
    · intro hz
      have a := hl.1 z hz
      rcases this.1 (.inr hz) with e | e
      · omega
      · exact e
    · intro hz
      have a := hm.1 z hz
      rcases this.2 (.inr hz) with e | e
      · omega
      · exact e

/-- Normal form: the last word is not zero. -/
def Norm (b : List Nat) : Prop := b.length = 0 ∨ nth b (b.length - 1) ≠ 0

theorem words_ext {b c : List Nat} (hb : Wds b) (hc : Wds c) (h : ∀ x, hasN b x = hasN c x) : ∀ i, nth b i = nth c i := by
  intro i
  apply Nat.eq_of_testBit_eq
  intro k
  by_cases hk : k < 64
  · have := h (i * 64 + k)
    rwa [hasN_at _ _ _ hk, hasN_at _ _ _ hk] at this
  · rw [(hb i).bit k (by omega), (hc i).bit k (by omega)]
theorem norm_len {b c : List Nat} (nb : Norm c) (h : ∀ i, nth b i = nth c i) : c.length ≤ b.length := by
  by_cases hc : c.length ≤ b.length
  · exact hc
  · exfalso
    rcases nb with h0 | h0
    · omega
    · rw [← h, nth_out _ _ (by omega)] at h0
      exact h0 rfl
theorem norm_ext {b c : List Nat} (hb : Wds b) (hc : Wds c) (nb : Norm b) (nc : Norm c) (h : ∀ x, hasN b x = hasN c x) : b = c := by
  have hw := words_ext hb hc h
  have l1 := norm_len nc hw
  have l2 := norm_len nb fun i => (hw i).symm
  exact nth_ext (by omega) fun i _ => hw i

theorem hasN_of_els {b : List Nat} {L : List Int} (h : els b = L) (x : Nat) : hasN b x = decide ((x : Int) ∈ L) := by
  rw [Bool.eq_iff_iff]
  simp only [decide_eq_true_eq, ← h, mem_els]
  constructor
  · intro hx; exact ⟨x, rfl, hx⟩
  · rintro ⟨m, e, hm⟩
    rw [show x = m by omega]; exact hm

/-- The words cut behind the last one that is not zero. -/
theorem take_has {b : List Nat} {m : Nat} (hm : m ≤ b.length) (h0 : ∀ i, m ≤ i → nth b i = 0) : ∀ i, nth (b.take m) i = nth b i := by
  intro i
  by_cases hi : i < m
  · simp [nth, hi]
  · rw [h0 i (by omega), nth_out _ _ (by simp; omega)]; rfl
theorem take_norm {b : List Nat} {m : Nat} (hm : m ≤ b.length) (h0 : ∀ i, m ≤ i → nth b i = 0) (h1 : m = 0 ∨ nth b (m - 1) ≠ 0) : Norm (b.take m) := by
  have hl : (b.take m).length = m := by simp; omega
  unfold Norm
  rw [hl, take_has hm h0]
  exact h1

theorem or_eq (a b : Nat) (ha : W64 a) (hb : W64 b) : bits BinOp.or IntKind.u64 (a : Int) (b : Int) = ((a ||| b : Nat) : Int) := u64_or_nat a b ha hb
theorem and_eq (a b : Nat) (ha : W64 a) (hb : W64 b) : bits BinOp.and IntKind.u64 (a : Int) (b : Int) = ((a &&& b : Nat) : Int) := u64_and_nat a b ha hb
/-- a and not b. -/
def anot (a b : Nat) : Nat := a &&& (18446744073709551615 - b)
theorem anot_eq (a b : Nat) (ha : W64 a) (hb : W64 b) : bits BinOp.andNot IntKind.u64 (a : Int) (b : Int) = ((anot a b : Nat) : Int) := u64_andNot_nat a b ha hb
theorem or_w (a b : Nat) (ha : W64 a) (hb : W64 b) : W64 (a ||| b) := W64.of (Nat.or_lt_two_pow ha.lt hb.lt)
theorem and_w (a b : Nat) (ha : W64 a) : W64 (a &&& b) := W64.of (Nat.lt_of_le_of_lt Nat.and_le_left ha.lt)
theorem anot_w (a b : Nat) (ha : W64 a) : W64 (anot a b) := and_w a _ ha
theorem anot_bit (a b : Nat) (ha : W64 a) (hb : W64 b) (k : Nat) : (anot a b).testBit k = (a.testBit k && !b.testBit k) := by
  unfold anot
  rw [Nat.testBit_and]
  by_cases hk : k < 64
  · have : 18446744073709551615 - b = 2 ^ 64 - (b + 1) := by unfold W64 at hb; omega
    rw [this, Nat.testBit_two_pow_sub_succ hb.lt]
    simp [hk]
  · rw [ha.bit k (by omega)]; simp
theorem anot_left (b : Nat) : anot 0 b = 0 := Nat.zero_and _
attribute [irreducible] anot
theorem shl_bit (j k : Nat) : (2 ^ j : Nat).testBit k = decide (j = k) := by
  rw [Nat.testBit_two_pow]

end Go.Dfl

/- Contracts of the functions of package bits and of its reference that only read. -/
namespace Go.Proofs.Ytchmjgjagaaomaa
open Go.RowKit Go.Dfl

theorem sInt : SliceOf Try.prog 32 3 (.int .i64 0) 1 8 := ⟨Try.underlying32, info_parts (P := Try.prog) (e := 3) (by kernel_rfl)⟩
theorem sBits : SliceOf Try.prog 78 96 (.int .u64 0) 1 8 := ⟨Try.underlying78, info_parts (P := Try.prog) (e := 96) (by kernel_rfl)⟩
theorem sU64 : SliceOf Try.prog 77 96 (.int .u64 0) 1 8 := ⟨Try.underlying77, info_parts (P := Try.prog) (e := 96) (by kernel_rfl)⟩

/-- A word as a value. -/
def wv (n : Nat) : Value := .int .u64 (n : Int)
abbrev Words := Lst wv
abbrev OwnW := Own wv

def valB (x : Int) : Bool := decide (0 ≤ x ∧ x < 65536)
set_option maxHeartbeats 400000 in
theorem valid_any (x : Int) (w : World) :
    Calls Try.prog 73 #[.int .i64 x] w fun e w' => e = .returned (.bool (valB x)) ∧ Qt w w' := by
  by_cases h1 : 0 ≤ x
  · go_enter Try.func73, Try.ntmps73
    go_wp2
    go_ret
    exact ⟨ret_bool (by simp [valB, h1]), Qt.refl _⟩
  · have h1' : decide (0 ≤ x) = false := by simpa using h1
    go_enter Try.func73, Try.ntmps73
    go_wp2
    go_ret
    exact ⟨ret_bool (by simp [valB]; omega), Qt.refl _⟩
/-- The least bit of a word. -/
def low (n : Nat) : Nat := ((List.range 64).find? n.testBit).getD 0
theorem low_of {n k : Nat} (hk : k < 64) (h : n.testBit k = true) (h2 : ∀ j, j < k → n.testBit j = false) : low n = k := by
  unfold low
  have : (List.range 64).find? n.testBit = some k := by
    rw [List.find?_range_eq_some]
    exact ⟨h, by simpa using hk, fun j hj => by simp [h2 j hj]⟩
  rw [this]; rfl
theorem low_ex {n : Nat} (hn : W64 n) (h0 : n ≠ 0) : ∃ k, k < 64 ∧ n.testBit k = true ∧ ∀ j, j < k → n.testBit j = false := by
  obtain ⟨k, hk⟩ := Nat.exists_testBit_of_ne_zero h0
  have : ∃ k, n.testBit k = true ∧ ∀ j, j < k → n.testBit j = false := by
    clear h0 hn
    induction k using Nat.strongRecOn with
    | _ k ih =>
      by_cases h : ∃ j, j < k ∧ n.testBit j = true
      · obtain ⟨j, hj, hb⟩ := h; exact ih j hj hb
      · exact ⟨k, hk, fun j hj => by by_cases e : n.testBit j = true; exact absurd ⟨j, hj, e⟩ h; simpa using e⟩
  obtain ⟨k, h1, h2⟩ := this
  refine ⟨k, ?_, h1, h2⟩
  by_cases hk : k < 64
  · exact hk
  · rw [hn.bit k (by omega)] at h1; simp at h1
theorem low_spec {n : Nat} (hn : W64 n) (h0 : n ≠ 0) : low n < 64 ∧ n.testBit (low n) = true ∧ ∀ j, j < low n → n.testBit j = false := by
  obtain ⟨k, h1, h2, h3⟩ := low_ex hn h0
  rw [low_of h1 h2 h3]; exact ⟨h1, h2, h3⟩

def hasI (b : List Nat) (x : Int) : Bool := decide (0 ≤ x) && hasN b x.toNat
/-- bits.List and the reference's List. -/
def ListPost (L : List Int) (w : World) (e : Ending) (w' : World) : Prop := ∃ v, e = .returned v ∧ OwnI w' w.heap.size 3 v L ∧ Below w.heap.size w w'

set_option maxHeartbeats 1600000 in
theorem List_any (v : Value) (b : List Nat) (w : World) (h : Words w v b) (hb : Wds b) (hlen : b.length ≤ 65536) :
    Calls Try.prog 58 #[v] w (ListPost (els b) w) := by
  obtain ⟨a, cap, rfl, hm, hidx, hcell, hblk⟩ := h.out1 sBits
  have HB := Lib.hid hb
  clear h hb
  go_enter Try.func58, Try.ntmps58
  go_wp2
  go_loopw [3, 4, 9] (fun l _ i wr => ∃ k : Nat, k ≤ b.length ∧ i = .int .i64 k ∧ Hid (Below w.heap.size w wr ∧ OwnI wr w.heap.size 3 l (elsUp b (k * 64)))) (fun _ _ i _ => b.length - (intOf i).toNat)
  case atStart => exact ⟨0, by omega, rfl, Below.refl _ _, Own.nil _ _ _ _⟩
  case round =>
    obtain ⟨k, hk, rfl, hh⟩ := hrel
    by_cases hlt : k < b.length
    · have hc : wr.cell? ⟨blk a, ofs a + k, none⟩ = some (.int .u64 ((nth b k : Nat) : Int)) := by
        rw [hh.out.1.cell (p := ⟨blk a, ofs a + k, none⟩) (hblk k hlt)]; exact hcell k hlt
      by_cases h0 : nth b k = 0
      · have h0' : (((nth b k : Nat) : Int) == 0) = true := by simp [h0]
        have H0 := Lib.hid h0
        clear h0 hcell
        go_wp2
        go_roundw
        case rel => exact ⟨k + 1, by omega, by go_num, hh.out.1, by
          rw [show (k + 1) * 64 = k * 64 + 64 by omega, elsUp_skip b k H0.out 64 (by omega)]; exact hh.out.2⟩
        case measure => simp [intOf]; omega
      · have h0' : (((nth b k : Nat) : Int) == 0) = false := by simp; omega
        have hW := Lib.hid (HB.out k)
        clear h0 hcell
        generalize hn : nth b k = n at *
        have HN := Lib.hid hn
        clear hn
        go_wp2
        go_loopw [3, 6, 18] (fun l _ i wr => ∃ j : Nat, j ≤ 64 ∧ i = .int .i64 j ∧ Hid (Below w.heap.size w wr ∧ OwnI wr w.heap.size 3 l (elsUp b (k * 64 + j)))) (fun _ _ i _ => 64 - (intOf i).toNat)
        case atStart => exact ⟨0, by omega, rfl, hh.out.1, hh.out.2⟩
        case round =>
          clear hh hc
          obtain ⟨j, hj, rfl, hh⟩ := hrel
          by_cases hlj : j < 64
          · have hbit := bit_eq n j hW.out
            cases ht : n.testBit j
            · rw [ht] at hbit
              go_wp2
              go_roundw
              case rel => exact ⟨j + 1, by omega, by go_num, hh.out.1, by
                rw [← Nat.add_assoc, elsUp_no _ _ (by rw [hasN_at _ _ _ hlj, HN.out, ht])]; exact hh.out.2⟩
              case measure => simp [intOf]; omega
            · rw [ht] at hbit
              have hsz := hh.out.1.size
              have hll : (elsUp b (k * 64 + j)).length < 17592186044416 := Nat.lt_of_le_of_lt (elsUp_len _ _) (by omega)
              have HL := Lib.hid hll
              clear hll
              go_wp2_with (at_builtin; refine wp_append1 (f := Value.int .i64) sInt rfl _ rfl _ _ rfl w.heap.size _ (elsUp b (k * 64 + j)) rfl (hh.out.2.alloc _) ((k : Int) * 64 + j) ⟨wr.heap.size, 0, none⟩ rfl (by simp [go_sem]) rfl HL.out (by omega) (by simp; omega) ?_; intro v' w2 hown hgr hb2)
              go_roundw
              case rel => exact ⟨j + 1, by omega, by go_num, (hh.out.1.alloc hsz _).trans hb2, by
                rw [← Nat.add_assoc, elsUp_yes _ _ (by rw [hasN_at _ _ _ hlj, HN.out, ht])]
                simpa using hown⟩
              case measure => simp [intOf]; omega
          · obtain rfl : j = 64 := by omega
            go_wp2
            go_roundw
            case rel => exact ⟨k + 1, by omega, by go_num, hh.out.1, by
              rw [show (k + 1) * 64 = k * 64 + 64 by omega]; exact hh.out.2⟩
            case measure => simp [intOf]; omega
    · obtain rfl : k = b.length := by omega
      go_wp2
      go_ret
      exact ⟨_, rfl, by rw [els, Nat.mul_comm]; exact hh.out.2, hh.out.1⟩

end Go.Proofs.Ytchmjgjagaaomaa

/- More contracts of package bits and of its reference: the reference's List, Equal, normal, Count, Next, Check, Within, Same. -/
namespace Go.Proofs.Ytchmjgjagaaomaa
open Go.RowKit Go.Dfl

theorem run_slice3 {P : Program} {t e : TypeId} {z : Value} {by8 : Nat} (ht : SliceOf P t e z 1 by8) (a : Option Addr) (n cap : Nat) (k k' : IntKind) (m : Int) (h0 : 0 ≤ m) (h1 : m ≤ cap) (ha : a = some ⟨blk a, ofs a, none⟩) (W : World) :
    (Instr.slice t (.slice a n cap) none (some (.int k m)) (some (.int k' m))).run P W = .ok (.slice a m.toNat m.toNat) W := by
  obtain ⟨i, hi, _, hs, _⟩ := ht.info
  have hc : P.cellsOf e = 1 := by simp [Program.cellsOf, hi, hs]
  obtain ⟨M, rfl⟩ := Int.eq_ofNat_of_zero_le h0
  have h1' : M ≤ cap := by omega
  simp [Instr.slice, run_underlying ht.und, Instr.sliceBounds, Instr.sliceBound, asIntOf, h1', run_sizeOf _ hi]
  intro _
  rw [ha]; simp [Addr.add]

/-- What normal returns: the words cut behind the last one that is not zero. -/
def NormPost (b : List Nat) (s : Option Addr) (w : World) (e : Ending) (w' : World) : Prop :=
  ∃ m v, m ≤ b.length ∧ (∀ i, m ≤ i → nth b i = 0) ∧ (m = 0 ∨ nth b (m - 1) ≠ 0) ∧ e = .returned v ∧ v = (if m = 0 then .slice none 0 0 else .slice s m m) ∧ Qt w w'

set_option maxHeartbeats 400000 in
theorem normal_any (a : Option Addr) (n cap : Nat) (b : List Nat) (w : World) (h : Words w (.slice a n cap) b) (hn : b.length = n) :
    Calls Try.prog 74 #[.slice a n cap] w (NormPost b a w) := by
  have hsl := h
  obtain ⟨a2, cap2, he, hm, hidx, hcell, hblk⟩ := h.out1 sBits
  simp at he
  obtain ⟨rfl, rfl, rfl⟩ := he
  have hcap : b.length ≤ cap ∧ ∀ i, i < b.length → a = some ⟨blk a, ofs a, none⟩ := by
    obtain ⟨a3, cap3, he, g1, g2, g3⟩ := hsl
    simp at he
    obtain ⟨rfl, rfl⟩ := he
    exact ⟨g1, fun i hi => (g3 i hi).1⟩
  have HC := Lib.hid hcap
  clear h hn hsl hcap
  go_enter Try.func74, Try.ntmps74
  go_wp2
  go_loop [3] (fun x => ∃ m : Nat, m ≤ b.length ∧ x = .int .i64 m ∧ Hid (∀ i, m ≤ i → nth b i = 0)) (fun x => (intOf x).toNat)
  case atStart => exact ⟨b.length, by omega, rfl, fun i hi => nth_out _ _ hi⟩
  case round =>
    obtain ⟨m, hmb, rfl, hh⟩ := hrel
    by_cases h0 : m = 0
    · subst h0
      go_wp2
      go_ret
      exact ⟨0, _, by omega, hh.out, .inl rfl, rfl, rfl, Qt.refl _⟩
    · obtain ⟨q, rfl⟩ : ∃ q, m = q + 1 := ⟨m - 1, by omega⟩
      have hq := hcell q (by omega)
      have hqb : q < b.length := by omega
      have hpos : (0 : Int) < ((q + 1 : Nat) : Int) := by omega
      unfold wv at hq
      clear hcell h0
      by_cases hz : nth b q = 0
      · have hz' : (((nth b q : Nat) : Int) == 0) = true := by simp [hz]
        have HZ := Lib.hid hz
        clear hz
        go_wp2
        go_round
        case rel => exact ⟨q, by omega, by go_num, fun i hi => by
          by_cases e : i = q
          · subst e; exact HZ.out
          · exact hh.out i (by omega)⟩
        case measure => simp [intOf]
      · have hz' : (((nth b q : Nat) : Int) == 0) = false := by simp; omega
        have hs3 := fun W => run_slice3 sBits a b.length cap .i64 .i64 ((q + 1 : Nat) : Int) (by omega) (by have := HC.out.1; omega) (HC.out.2 q hqb) W
        have hne : (((q : Nat) : Int) + 1 == 0) = false := by simp; omega
        have HZ := Lib.hid hz
        clear hz
        simp only [Int.natCast_add, Int.natCast_one] at hs3
        go_wp2
        go_ret
        exact ⟨q + 1, _, by omega, hh.out, .inr HZ.out, rfl, by rw [if_neg (by omega)]; congr 1 <;> omega, Qt.refl _⟩

end Go.Proofs.Ytchmjgjagaaomaa

/- Plain laws of bit sets: counting. -/
namespace Go.Proofs.Ytchmjgjagaaomaa
open Go.RowKit Go.Dfl

theorem low_mod {n k : Nat} (h : n.testBit k = true) (h2 : ∀ j, j < k → n.testBit j = false) : n % 2 ^ (k + 1) = 2 ^ k := by
  apply Nat.eq_of_testBit_eq
  intro j
  rw [Nat.testBit_mod_two_pow, Nat.testBit_two_pow]
  by_cases h1 : j < k
  · simp [h2 j h1]; omega
  · by_cases h3 : j = k
    · subst h3; simp [h]
    · have : ¬ j < k + 1 := by omega
      simp [this]; omega
theorem clear_bit {n k : Nat} (h : n.testBit k = true) (h2 : ∀ j, j < k → n.testBit j = false) (j : Nat) : (n &&& (n - 1)).testBit j = (n.testBit j && !decide (j = k)) := by
  have hm := low_mod h h2
  have hn : n = 2 ^ (k + 1) * (n / 2 ^ (k + 1)) + 2 ^ k := by
    have := Nat.div_add_mod n (2 ^ (k + 1)); rw [hm] at this; exact this.symm
  generalize n / 2 ^ (k + 1) = q at hn
  have hp : 0 < 2 ^ k := Nat.pow_pos (by omega)
  have hpk : 2 ^ (k + 1) = 2 * 2 ^ k := by rw [Nat.pow_succ]; omega
  have hn1 : n - 1 = 2 ^ (k + 1) * q + (2 ^ k - 1) := by omega
  rw [Nat.testBit_and, hn1]
  by_cases h1 : j < k
  · rw [h2 j h1]; simp
  · by_cases h3 : j = k
    · subst h3
      rw [Nat.testBit_two_pow_mul_add _ (by omega), if_pos (by omega), Nat.testBit_two_pow_sub_one]; simp
    · rw [Nat.testBit_two_pow_mul_add _ (by omega), if_neg (by omega)]
      rw [hn, Nat.testBit_two_pow_mul_add _ (by omega), if_neg (by omega)]
      simp [h3]

theorem filter_one {p : Nat → Bool} {k : Nat} (hp : p k = true) : ∀ (l : List Nat), l.Nodup → k ∈ l → (l.filter fun j => p j && !decide (j = k)).length + 1 = (l.filter p).length
  | [], _, h => by simp at h
  | x :: l, hn, hm => by
    rw [List.nodup_cons] at hn
    by_cases e : x = k
    · subst e
      have : (l.filter fun j => p j && !decide (j = x)) = l.filter p := by
        apply List.filter_congr
        intro y hy
        have : y ≠ x := fun e => hn.1 (e ▸ hy)
        simp [this]
      simp [hp, this]
    · have hm' : k ∈ l := by simpa [Ne.symm e] using hm
      have ih := filter_one hp l hn.2 hm'
      by_cases hx : p x = true <;> simp [hx, e] <;> omega

/-- How many bits of a word are set. -/
def cntW (n : Nat) : Nat := ((List.range 64).filter n.testBit).length
theorem cntW_zero : cntW 0 = 0 := by simp [cntW]
theorem cntW_clear {n : Nat} (hn : W64 n) (h0 : n ≠ 0) : cntW (n &&& (n - 1)) + 1 = cntW n := by
  obtain ⟨k, h1, h2, h3⟩ := low_ex hn h0
  unfold cntW
  rw [← filter_one h2 (List.range 64) List.nodup_range (by simpa using h1)]
  congr 2
  apply List.filter_congr
  intro j _
  exact clear_bit h2 h3 j
theorem clear_lt {n : Nat} (h0 : n ≠ 0) : n &&& (n - 1) < n := Nat.lt_of_le_of_lt Nat.and_le_right (by omega)
theorem elsUp_cnt (b : List Nat) (i : Nat) : ∀ k, k ≤ 64 → (elsUp b (i * 64 + k)).length = (elsUp b (i * 64)).length + ((List.range k).filter (nth b i).testBit).length
  | 0, _ => by simp
  | k+1, hk => by
    rw [← Nat.add_assoc, elsUp_succ, List.length_append, elsUp_cnt b i k (by omega), List.range_succ, List.filter_append, List.length_append, hasN_at _ _ _ (by omega)]
    by_cases h : (nth b i).testBit k = true <;> simp [h] <;> omega
theorem elsUp_word (b : List Nat) (i : Nat) : (elsUp b ((i + 1) * 64)).length = (elsUp b (i * 64)).length + cntW (nth b i) := by
  rw [show (i + 1) * 64 = i * 64 + 64 by omega, elsUp_cnt b i 64 (by omega)]; rfl

/-- Elements counted below a bound that covers the set. -/
def card (b : List Nat) (n : Nat) : Nat := ((List.range n).filter (hasN b)).length
theorem els_card (b : List Nat) (n : Nat) (h : 64 * b.length ≤ n) : (els b).length = card b n := by
  unfold els elsUp card
  rw [List.length_map]
  induction n with
  | zero => rw [show 64 * b.length = 0 by omega]
  | succ n ih =>
    by_cases e : 64 * b.length = n + 1
    · rw [e]
    · rw [ih (by omega), List.range_succ, List.filter_append]
      simp [hasN_out b n (by omega)]
theorem card_union (p q : Nat → Bool) (n : Nat) : ((List.range n).filter fun x => p x || q x).length + ((List.range n).filter fun x => p x && q x).length = ((List.range n).filter p).length + ((List.range n).filter q).length := by
  induction n with
  | zero => simp
  | succ n ih =>
    simp only [List.range_succ, List.filter_append, List.length_append]
    by_cases h1 : p n = true <;> by_cases h2 : q n = true <;> simp [h1, h2] <;> omega

end Go.Proofs.Ytchmjgjagaaomaa

/- Contracts of bits.Count, Check, Within, Same, Next. -/
namespace Go.Proofs.Ytchmjgjagaaomaa
open Go.RowKit Go.Dfl

/-- All elements are small. -/
def bokB (b : List Nat) : Bool := (els b).all fun x => decide (x < 65536)
theorem bok_true {b : List Nat} (_hb : Wds b) (h : ∀ i, 1024 ≤ i → nth b i = 0) : bokB b = true := by
  unfold bokB
  rw [List.all_eq_true]
  intro x hx
  obtain ⟨m, rfl, hm⟩ := mem_els.1 hx
  simp only [decide_eq_true_eq]
  by_cases e : m < 65536
  · omega
  · rw [hasN, h (m / 64) (by omega)] at hm; simp at hm
theorem bok_false {b : List Nat} (hb : Wds b) {i : Nat} (hi : 1024 ≤ i) (h : nth b i ≠ 0) : bokB b = false := by
  obtain ⟨k, h1, h2, -⟩ := low_ex (hb i) h
  rw [Bool.eq_false_iff]
  intro hh
  unfold bokB at hh
  rw [List.all_eq_true] at hh
  have := hh ((i * 64 + k : Nat) : Int) (mem_els.2 ⟨_, rfl, by rw [hasN_at _ _ _ h1, h2]⟩)
  simp only [decide_eq_true_eq] at this
  omega

def chkB (b : List Nat) : Int := if bokB b = true then 0 else 4
def withinB (a b : List Nat) : Bool := (els a).all fun x => decide (x ∈ els b)
theorem within_iff {a b : List Nat} : withinB a b = true ↔ ∀ x, hasN a x = true → hasN b x = true := by
  unfold withinB
  rw [List.all_eq_true]
  constructor
  · intro h x hx
    have := h x (mem_els.2 ⟨x, rfl, hx⟩)
    simp only [decide_eq_true_eq, mem_els] at this
    obtain ⟨m, e, hm⟩ := this
    rw [show x = m by omega]; exact hm
  · intro h x hx
    obtain ⟨m, rfl, hm⟩ := mem_els.1 hx
    simp only [decide_eq_true_eq, mem_els]
    exact ⟨m, rfl, h m hm⟩
theorem anot_zero {a b : Nat} (ha : W64 a) (hb : W64 b) : anot a b = 0 ↔ ∀ k, a.testBit k = true → b.testBit k = true := by
  constructor
  · intro h k hk
    have := anot_bit a b ha hb k
    rw [h, hk] at this
    simpa using this
  · intro h
    apply Nat.eq_of_testBit_eq
    intro k
    rw [anot_bit a b ha hb k]
    by_cases e : a.testBit k = true
    · simp [e, h k e]
    · simp [e]
theorem within_true {a b : List Nat} (ha : Wds a) (hb : Wds b) (h : ∀ i, i < a.length → anot (nth a i) (nth b i) = 0) : withinB a b = true := by
  rw [within_iff]
  intro x hx
  by_cases e : x / 64 < a.length
  · exact (anot_zero (ha _) (hb _)).1 (h _ e) _ hx
  · rw [hasN_out a x (by omega)] at hx; simp at hx
theorem within_false {a b : List Nat} (ha : Wds a) (hb : Wds b) {i : Nat} (h : anot (nth a i) (nth b i) ≠ 0) : withinB a b = false := by
  rw [Bool.eq_false_iff, ne_eq, within_iff]
  intro hh
  apply h
  rw [anot_zero (ha _) (hb _)]
  intro k hk
  have hk64 : k < 64 := by
    by_cases e : k < 64
    · exact e
    · rw [(ha i).bit k (by omega)] at hk; simp at hk
  have := hh (i * 64 + k) (by rw [hasN_at _ _ _ hk64, hk])
  rwa [hasN_at _ _ _ hk64] at this

/-- The least element that is at least x, or -1. -/
def nextI (b : List Nat) (x : Int) : Int := ((els b).find? fun y => decide (x ≤ y)).getD (-1)
theorem find_asc {l : List Int} (hl : Asc l) {x r : Int} (hr : r ∈ l) (hx : x ≤ r) (hn : ∀ y ∈ l, x ≤ y → r ≤ y) : l.find? (fun y => decide (x ≤ y)) = some r := by
  induction l with
  | nil => simp at hr
  | cons z l ih =>
    unfold Asc at hl
    rw [List.pairwise_cons] at hl
    by_cases h : x ≤ z
    · have : r ≤ z := hn z (by simp) h
      have : r = z := by
        rcases List.mem_cons.1 hr with e | e
        · exact e
        · have := hl.1 r e; omega
      subst this
      simp [h]
    · rw [List.find?_cons_of_neg (by simpa using h)]
      refine ih hl.2 ?_ fun y hy => hn y (by simp [hy])
      rcases List.mem_cons.1 hr with e | e
      · omega
      · exact e
theorem next_of {b : List Nat} {x : Int} {r : Nat} (hr : hasN b r = true) (hx : x ≤ r) (hn : ∀ y : Nat, x ≤ y → y < r → hasN b y = false) : nextI b x = r := by
  unfold nextI
  rw [find_asc (els_asc b) (r := (r : Int)) (mem_els.2 ⟨r, rfl, hr⟩) hx]
  · rfl
  · intro y hy hxy
    obtain ⟨m, rfl, hm⟩ := mem_els.1 hy
    by_cases e : m < r
    · rw [hn m hxy e] at hm; simp at hm
    · omega
theorem next_none {b : List Nat} {x : Int} (hn : ∀ y : Nat, x ≤ y → hasN b y = false) : nextI b x = -1 := by
  unfold nextI
  have : (els b).find? (fun y => decide (x ≤ y)) = none := by
    rw [List.find?_eq_none]
    intro y hy
    obtain ⟨m, rfl, hm⟩ := mem_els.1 hy
    simp only [decide_eq_true_eq]
    intro h
    rw [hn m h] at hm; simp at hm
  rw [this]; rfl
theorem next_neg {b : List Nat} {x : Int} (h : x < 0) : nextI b x = nextI b 0 := by
  unfold nextI
  have : ∀ l : List Int, (∀ y ∈ l, 0 ≤ y) → l.find? (fun y => decide (x ≤ y)) = l.find? fun y => decide (0 ≤ y) := by
    intro l hl
    cases l with
    | nil => rfl
    | cons z l => have := hl z (by simp); simp [this, show x ≤ z by omega]
  rw [this]
  intro y hy
  obtain ⟨m, rfl, -⟩ := mem_els.1 hy
  omega

theorem shr_bit (n j k : Nat) : (n / 2 ^ j).testBit k = n.testBit (j + k) := by
  rw [← Nat.shiftRight_eq_div_pow, Nat.testBit_shiftRight]

end Go.Proofs.Ytchmjgjagaaomaa

/- Contracts of the functions of package bits that make sets: Union, Minus, Both, With, Without, Of. -/
namespace Go.Proofs.Ytchmjgjagaaomaa
open Go.RowKit Go.Dfl

/-- A slice in new memory that may be written. -/
def Fresh (w : World) (base : Nat) (v : Value) (r : List Nat) : Prop :=
  Words w v r ∧ ∀ a n cap, v = .slice a n cap → 0 < n → base ≤ blk a ∧ ∀ i, w.frozen? ⟨blk a, i, none⟩ = false

def SetPost (p : Nat → Bool) (n : Nat) (w : World) (e : Ending) (w' : World) : Prop :=
  ∃ v r, e = .returned v ∧ Fresh w' w.heap.size v r ∧ Wds r ∧ Norm r ∧ r.length ≤ n ∧ (∀ x, hasN r x = p x) ∧ Below w.heap.size w w'

theorem fresh_cut {W : World} {B n cap : Nat} {s : Option Addr} {R : List Nat} (ho : OwnW W B 96 (.slice s n cap) R) (hn : R.length = n) (m : Nat) (hm : m ≤ R.length) :
    Fresh W B (if m = 0 then .slice none 0 0 else .slice s m m) (R.take m) := by
  by_cases h0 : m = 0
  · subst h0
    rw [if_pos rfl]
    refine ⟨?_, fun a n cap he hp => ?_⟩
    · rw [List.take_zero]; exact Lst.nil _ _
    · simp at he; omega
  · rw [if_neg h0]
    have hl := ho.lst
    have hb := ho.blkge (by omega)
    have hf := ho.frozen (by omega)
    refine ⟨?_, fun a n cap he hp => ?_⟩
    · obtain ⟨a2, cap2, he, g1, g2, g3⟩ := hl
      simp at he
      obtain ⟨rfl, he2, rfl⟩ := he
      refine ⟨s, m, by simp; omega, by simp; omega, by omega, fun i hi => ?_⟩
      simp at hi
      obtain ⟨q1, q2, q3⟩ := g3 i (by omega)
      refine ⟨q1, q2, fun j hj => ?_⟩
      rw [q3 j hj]
      simp [nth, List.getElem?_take]
      rw [if_pos (by omega)]
    · simp at he
      obtain ⟨rfl, rfl, rfl⟩ := he
      exact ⟨hb.1, hf⟩

theorem set_of_norm {p : Nat → Bool} {N : Nat} {w W W' : World} {n cap : Nat} {s : Option Addr} {R : List Nat} {e : Ending} (ho : OwnW W w.heap.size 96 (.slice s n cap) R) (hn : R.length = n) (hN : n ≤ N) (hW : Wds R)
    (hp : ∀ x, hasN R x = p x) (hb : Below w.heap.size w W) (h : NormPost R s W e W') : SetPost p N w e W' := by
  obtain ⟨m, v, h1, h2, h3, rfl, rfl, nw, rfl⟩ := h
  have hf := fresh_cut ho hn m h1
  have ht := take_has h1 h2
  refine ⟨_, R.take m, rfl, ⟨hf.1.qt (Qt.drewN _ _), hf.2⟩, fun i => by rw [ht]; exact hW i, take_norm h1 h2 h3, by simp; omega, fun x => ?_, below_drewN hb _⟩
  rw [← hp x]; unfold hasN; rw [ht]

/-- A row that is being filled. -/
def fillTo (f : Nat → Nat) (k n : Nat) : List Nat := (List.range n).map fun i => if i < k then f i else 0
theorem fillTo_len (f : Nat → Nat) (k n : Nat) : (fillTo f k n).length = n := by simp [fillTo]
theorem fillTo_nth (f : Nat → Nat) (k n i : Nat) : nth (fillTo f k n) i = if i < n ∧ i < k then f i else 0 := by
  by_cases h : i < n
  · simp [fillTo, nth, h]
  · rw [nth_out _ _ (by rw [fillTo_len]; omega), if_neg (by omega)]; rfl
theorem fillTo_zero (f : Nat → Nat) (n : Nat) : fillTo f 0 n = List.replicate n 0 := by
  apply nth_ext
  · simp [fillTo]
  · intro i hi
    rw [fillTo_len] at hi
    rw [fillTo_nth, if_neg (by omega)]; simp [nth, hi]
theorem fillTo_set (f : Nat → Nat) (k n : Nat) : (fillTo f k n).set k (f k) = fillTo f (k + 1) n := by
  apply nth_ext
  · simp [fillTo_len]
  · intro i hi
    simp [fillTo_len] at hi
    rw [nth_set, fillTo_nth, fillTo_nth, fillTo_len]
    by_cases e : k = i
    · subst e; rw [if_pos ⟨rfl, hi⟩, if_pos ⟨hi, by omega⟩]
    · rw [if_neg (by omega)]
      by_cases e2 : i < k
      · rw [if_pos ⟨hi, e2⟩, if_pos ⟨hi, by omega⟩]
      · rw [if_neg (by omega), if_neg (by omega)]
theorem fill_all {f : Nat → Nat} {n : Nat} (h : ∀ i, n ≤ i → f i = 0) (i : Nat) : nth (fillTo f n n) i = f i := by
  rw [fillTo_nth]
  by_cases e : i < n
  · rw [if_pos ⟨e, e⟩]
  · rw [if_neg (by omega), h i (by omega)]


def orF (b c : List Nat) (i : Nat) : Nat := nth b i ||| nth c i
def anotF (b c : List Nat) (i : Nat) : Nat := anot (nth b i) (nth c i)
def andF (b c : List Nat) (i : Nat) : Nat := nth b i &&& nth c i


end Go.Proofs.Ytchmjgjagaaomaa

/- Contracts of bits.With, Without, Of. -/
namespace Go.Proofs.Ytchmjgjagaaomaa
open Go.RowKit Go.Dfl

/-- 'copy(dst, src)' into a row of the call's own. -/
theorem wp_copy {α : Type} [Inhabited α] {f : α → Value} (hf1 : ∀ x, (f x).oneCell' = true) {P : Program} {dT e : TypeId} {z : Value} {by8 : Nat} (ht : SliceOf P dT e z 1 by8) {w : World} {ops : Array Oper} {rest : List Oper} {o : Oper} {a : Act} {Q : Exit → Act → World → Prop}
    (hg : o.guard = none) (d s : Operand) (sT : TypeId) (hop : o.op = .call { callee := .builtin .copy, args := #[d, s], argTypes := #[dT, sT] })
    (B : Nat) (sd : Option Addr) (n cap : Nat) (R : List α) (hd : a.eval d = .slice sd n cap) (hown : Own f w B e (.slice sd n cap) R) (hR : R.length = n) (src : Value) (l : List α) (hs : a.eval s = src) (hsrc : Lst f w src l) (hl : l.length ≤ n)
    (hK : ∀ w' u, Own f w' B e (.slice sd n cap) (l ++ R.drop l.length) → Below B w w' → wpList P ops Q rest (a.put o.dst u) w') : wpList P ops Q (o :: rest) a w := by
  obtain ⟨i, hi, _, hs1, _⟩ := ht.info
  have hsz : (P.info? e).map (·.size) = some 1 := by rw [hi]; simp [hs1]
  obtain ⟨sp, scap, rfl, hlc, hm, hcell⟩ := hsrc
  obtain ⟨h1, ⟨h2, h3⟩ | ⟨g, cap2, cur, hv, hg2, hh, hc, hm2, hsz2, ht2⟩⟩ := hown
  · simp at h2
    obtain ⟨rfl, rfl, rfl⟩ := h2
    have hl0 : l = [] := List.eq_nil_of_length_eq_zero (by omega)
    subst hl0
    refine wpList_copy_nothing hg d s dT sT hop e ht.und hsz none sp 0 0 0 scap hd hs rfl ?_
    exact hK w _ (by simp; exact ⟨h1, .inl ⟨rfl, h3⟩⟩) (Below.refl _ _)
  · simp at hv
    obtain ⟨rfl, rfl, rfl⟩ := hv
    have hcl : cur.toList.length = cap := by simpa using hsz2
    refine wpList_copy_splice hg d s dT sT hop e ht.und hsz (some ⟨g, 0, none⟩) sp R.length cap l.length scap hd hs g 0 cur.toList e (by simpa using hh) (l.map f) ?_ ?_ (by simp; omega) ?_ B w (Below.refl _ _) hg2 ?_
    · rw [List.length_map]; exact (Nat.min_eq_left hl).symm
    · intro hp
      simp at hp
      obtain ⟨q1, q2, q3⟩ := hcell 0 hp
      refine ⟨rfl, ⟨blk sp, ofs sp, none⟩, q1, fun j v hj => ?_⟩
      have hjl : j < l.length := by
        have := (List.getElem?_eq_some_iff.1 hj).1; simpa using this
      obtain ⟨-, -, q4⟩ := hcell j hjl
      have := q4 0 (by omega)
      rw [nth_map f l j hjl] at hj
      simp at hj this
      rw [← hj]
      simp only [Addr.add]
      split
      · rename_i hj0; subst hj0; simpa using this
      · exact this
    · intro v hv; simp at hv; obtain ⟨x, _, rfl⟩ := hv; exact hf1 x
    · intro w' hw' hb'
      refine hK w' _ ⟨by simp, .inr ⟨g, cap, (splice cur.toList 0 (l.map f)).toArray, by simp; omega, hg2, hw'.out, by simp; omega, hm2, by simp [splice]; omega, ?_⟩⟩ hb'
      have hRt : cur.toList.take R.length = R.map f := by simpa using ht2
      simp only [splice, List.take_zero, List.nil_append, Nat.zero_add, List.length_map, List.length_append, List.length_drop, Nat.mul_one, List.map_append, List.map_drop, ← hRt]
      rw [show l.length + (R.length - l.length) = R.length by omega]
      rw [List.take_append]
      simp only [List.length_map]
      rw [List.take_of_length_le (by simp; omega), List.take_drop, show l.length + (R.length - l.length) = R.length by omega]

theorem nth_zeros (k j : Nat) : nth (List.replicate k (0 : Nat)) j = 0 := by
  unfold nth
  simp only [List.getD_eq_getElem?_getD, List.getElem?_replicate]
  split <;> rfl
theorem nth_pad (b : List Nat) (k i : Nat) : nth (b ++ List.replicate k 0) i = nth b i := by
  rw [nth_append]
  split
  · rfl
  · rw [nth_out b i (by omega), nth_zeros]; rfl
theorem pow_wrap (j : Nat) (hj : j < 64) : IntKind.u64.wrap ((2 : Int) ^ j) = ((2 ^ j : Nat) : Int) := by
  have h : (2 : Nat) ^ j < 2 ^ 64 := Nat.pow_lt_pow_right (by omega) hj
  have e : ((2 : Int) ^ j) = ((2 ^ j : Nat) : Int) := by rw [Int.natCast_pow]; rfl
  rw [IntKind.wrap_u64, e]
  generalize (2 : Nat) ^ j = p at *
  omega
theorem pow_w (j : Nat) (hj : j < 64) : W64 (2 ^ j) := W64.of (Nat.pow_lt_pow_right (by omega) hj)
/-- One word of a set is changed. -/
theorem hasN_set (R : List Nat) (i v x : Nat) (hi : i < R.length) : hasN (R.set i v) x = if x / 64 = i then v.testBit (x % 64) else hasN R x := by
  unfold hasN
  rw [nth_set]
  by_cases e : i = x / 64
  · rw [if_pos ⟨e, hi⟩, if_pos e.symm]
  · rw [if_neg (by omega), if_neg (by omega)]
theorem bitpos (m y : Nat) : (y / 64 = m / 64 ∧ m % 64 = y % 64) ↔ y = m := by omega

def WithPost (b : List Nat) (x : Int) (w : World) (e : Ending) (w' : World) : Prop :=
  (valB x = false ∧ e = .returned (.tuple #[.slice none 0 0, .int .i64 4]) ∧ Qt w w') ∨
  (valB x = true ∧ ∃ v r, e = .returned (.tuple #[v, .int .i64 0]) ∧ Fresh w' w.heap.size v r ∧ Wds r ∧ Norm r ∧ r.length ≤ b.length + 1024 ∧ (∀ y, hasN r y = (hasN b y || decide ((y : Int) = x))) ∧ Below w.heap.size w w')

end Go.Proofs.Ytchmjgjagaaomaa

/- Contract of bits.Of. -/
namespace Go.Proofs.Ytchmjgjagaaomaa
open Go.RowKit Go.Dfl

def OfPost (l : List Int) (w : World) (e : Ending) (w' : World) : Prop :=
  (l.all valB = false ∧ e = .returned (.tuple #[.slice none 0 0, .int .i64 4]) ∧ Qt w w') ∨
  (l.all valB = true ∧ ∃ v r, e = .returned (.tuple #[v, .int .i64 0]) ∧ Fresh w' w.heap.size v r ∧ Wds r ∧ Norm r ∧ r.length ≤ 1024 ∧ (∀ y, hasN r y = decide ((y : Int) ∈ l)) ∧ Below w.heap.size w w')

theorem all_snoc {l : List Int} {k : Nat} (hk : k < l.length) (h : (l.take k).all valB = true) (h2 : valB (nth l k) = true) : (l.take (k + 1)).all valB = true := by
  rw [take_snoc _ _ hk, List.all_append, h]; simp [h2]
theorem all_bad {l : List Int} {k : Nat} (hk : k < l.length) (h2 : valB (nth l k) = false) : l.all valB = false := by
  rw [Bool.eq_false_iff]; intro hh
  have := List.all_eq_true.1 hh _ (nth_mem _ _ hk)
  rw [h2] at this; simp at this
theorem mem_take {l : List Int} {j k : Nat} (hj : j < k) (hk : k ≤ l.length) : nth l j ∈ l.take k := by
  have : nth (l.take k) j = nth l j := by simp [nth, hj]
  rw [← this]; exact nth_mem _ _ (by simp; omega)

set_option maxHeartbeats 1600000 in
theorem Of_any (v : Value) (l : List Int) (w : World) (h : Ints w v l) :
    Calls Try.prog 57 #[v] w (OfPost l w) := by
  have hI := h
  obtain ⟨a, cap, rfl, hm, hidx, hcell, hblk⟩ := h.out1 sInt
  have hmx := run_mx Try.prog
  have HC := Lib.hid (And.intro hcell hblk)
  clear h hcell hblk
  go_enter Try.func57, Try.ntmps57
  go_wp2_with fail
  go_loopw [4, 6, 12] (fun d _ i wr => ∃ k wd : Nat, k ≤ l.length ∧ i = .int .i64 k ∧ d = .int .i64 (wd : Int) ∧ wd ≤ 1024 ∧ Qt w wr ∧ Hid ((l.take k).all valB = true ∧ ∀ j, j < k → (nth l j).toNat / 64 < wd)) (fun _ _ i _ => l.length - (intOf i).toNat)
  case atStart => exact ⟨0, 0, by omega, rfl, rfl, by omega, Qt.refl _, rfl, fun j hj => by omega⟩
  case round =>
    obtain ⟨k, wd, hk, rfl, rfl, hwd, ⟨nw, rfl⟩, hh⟩ := hrel
    by_cases hlt : k < l.length
    · have hck := HC.out.1 k hlt
      cases hx : valB (nth l k)
      · have HX := Lib.hid (all_bad hlt hx)
        go_wp2_with fail
        refine (valid_any _ _).mono ?_; rintro e w' ⟨rfl, n1, rfl⟩
        go_wp2_with fail
        go_ret2
        exact .inl ⟨HX.out, rfl, (by first | exact Qt.refl _ | exact Qt.drewN _ _ | exact (Qt.drewN _ _).trans (Qt.drewN _ _) | exact ((Qt.drewN _ _).trans (Qt.drewN _ _)).trans (Qt.drewN _ _) | exact Qt.drew _ | exact (Qt.drewN _ _).trans (Qt.drew _))⟩
      · obtain ⟨hx1, hx2⟩ : 0 ≤ nth l k ∧ nth l k < 65536 := by simpa [valB] using hx
        have hge := mx_ge (wd : Int) (nth l k / 64 + 1)
        obtain ⟨wn, hwn⟩ : ∃ wn : Nat, mx (wd : Int) (nth l k / 64 + 1) = wn := ⟨(mx (wd : Int) (nth l k / 64 + 1)).toNat, by omega⟩
        have HW : Hid (mx (wd : Int) (nth l k / 64 + 1) = wn ∧ wd ≤ wn ∧ (nth l k).toNat / 64 < wn ∧ wn ≤ 1024) := ⟨hwn, by omega, by omega, by omega⟩
        have HX := Lib.hid hx
        clear hge hwn
        go_wp2_with fail
        refine (valid_any _ _).mono ?_; rintro e w' ⟨rfl, n1, rfl⟩
        go_wp2_with fail
        go_roundw
        case rel => exact ⟨k + 1, wn, by omega, by go_num, by rw [HW.out.1], HW.out.2.2.2, (by first | exact Qt.refl _ | exact Qt.drewN _ _ | exact (Qt.drewN _ _).trans (Qt.drewN _ _) | exact ((Qt.drewN _ _).trans (Qt.drewN _ _)).trans (Qt.drewN _ _) | exact Qt.drew _ | exact (Qt.drewN _ _).trans (Qt.drew _)), all_snoc hlt hh.out.1 HX.out, fun j hj => by
          by_cases e : j = k
          · subst e; exact HW.out.2.2.1
          · have := hh.out.2 j (by omega); have := HW.out.2.1; omega⟩
        case measure => simp [intOf]; omega
    · have HA : Hid (l.all valB = true ∧ ∀ j, j < l.length → (nth l j).toNat / 64 < wd) := by
        have h1 := hh.out.1
        rw [List.take_of_length_le (by omega)] at h1
        exact ⟨h1, fun j hj => hh.out.2 j (by omega)⟩
      clear hh hmx
      go_wp2_with (first | (at_make; refine wp_make (f := wv) 0 sBits rfl _ rfl _ _ rfl .i64 .i64 _ _ wd rfl rfl rfl rfl ?c1 ?c2 ?_))
      case c1 => omega
      case c2 => unfold maxLen; omega
      intro s cap2 w1 hown hbw
      have hb0 : Below w.heap.size w w1 := ((Qt.drewN w _).below _).trans hbw
      clear hbw
      go_wp2_with fail
      go_loopw [9, 29] (fun _ i wr => ∃ (k : Nat) (R : List Nat), k ≤ l.length ∧ i = .int .i64 k ∧ Hid (Below w.heap.size w wr ∧ OwnW wr w.heap.size 96 (.slice s wd cap2) R ∧ R.length = wd ∧ Wds R ∧ ∀ y, hasN R y = decide ((y : Int) ∈ l.take k))) (fun _ i _ => l.length - (intOf i).toNat)
      case atStart => exact ⟨0, List.replicate wd 0, by omega, rfl, hb0, hown, by simp, fun i => by rw [nth_zeros]; exact W64.zero, fun y => by simp [hasN, nth_zeros]⟩
      case round =>
        clear hown hb0
        obtain ⟨k, R, hk, rfl, hh⟩ := hrel
        by_cases hlt : k < l.length
        · obtain ⟨hbw, ho, hRl, hRw, hRp⟩ := hh.out
          have hck : wr.cell? ⟨blk a, ofs a + k, none⟩ = some (.int .i64 (nth l k)) := by
            rw [hbw.cell (p := ⟨blk a, ofs a + k, none⟩) (HC.out.2 k hlt)]; exact HC.out.1 k hlt
          have hval := List.all_eq_true.1 HA.out.1 _ (nth_mem l k hlt)
          obtain ⟨hx1, hx2⟩ : 0 ≤ nth l k ∧ nth l k < 65536 := by simpa [valB] using hval
          have hlw := HA.out.2 k hlt
          obtain ⟨m, hm2⟩ := Int.eq_ofNat_of_zero_le hx1
          rw [hm2] at hck hlw
          simp only [Int.toNat_natCast] at hlw
          have hmm : m < 65536 := by omega
          have hfz := ho.frozen (by omega) (ofs s + m / 64)
          have hbl := ho.blkge (by omega)
          obtain ⟨a2, c2, he, hm3, hidx2, hcell2, _⟩ := ho.lst.out1 sBits
          simp at he
          obtain ⟨rfl, he, rfl⟩ := he
          rw [hRl] at hidx2 hcell2
          have hcr := hcell2 (m / 64) hlw
          unfold wv at hcr
          have hi2 := hidx2 .i64 ((m : Int) / 64) (by omega) (by omega)
          have hor : bits BinOp.or IntKind.u64 ((nth R (m / 64) : Nat) : Int) (IntKind.u64.wrap (2 ^ (m % 64))) = ((nth R (m / 64) ||| 2 ^ (m % 64) : Nat) : Int) := by
            rw [pow_wrap _ (by omega)]; exact or_eq _ _ (hRw _) (pow_w _ (by omega))
          have HM := Lib.hid hm2
          clear hbw ho hRl hRw hRp hval hx1 hx2 he hm3 hidx2 hcell2 hm2
          go_wp2_with fail
          go_roundw
          case rel =>
            obtain ⟨hbw, ho, hRl, hRw, hRp⟩ := hh.out
            refine ⟨k + 1, R.set (m / 64) (nth R (m / 64) ||| 2 ^ (m % 64)), by omega, by go_num, hbw.setCell hbl.1 _, ho.set _ _, by simpa using hRl, fun i => ?_, fun y => ?_⟩
            · rw [nth_set]; split
              · exact or_w _ _ (hRw _) (pow_w _ (by omega))
              · exact hRw i
            · rw [hasN_set _ _ _ _ (by omega), take_snoc l k hlt, HM.out]
              have hd : decide ((y : Int) ∈ l.take k ++ [(m : Int)]) = (decide ((y : Int) ∈ l.take k) || decide ((y : Int) = (m : Int))) := by
                rw [Bool.eq_iff_iff]; simp
              rw [hd, ← hRp y]
              split
              · rename_i e
                have hd2 : decide (m % 64 = y % 64) = decide ((y : Int) = (m : Int)) := by rw [decide_eq_decide]; omega
                rw [Nat.testBit_or, Nat.testBit_two_pow, hasN, e, hd2]
              · rename_i e
                have : ¬ (y : Int) = (m : Int) := by intro h; apply e; omega
                simp [this]
          case measure => simp [intOf]; omega
        · have HF : Hid (Below w.heap.size w wr ∧ OwnW wr w.heap.size 96 (.slice s wd cap2) R ∧ R.length = wd ∧ Wds R ∧ ∀ y, hasN R y = decide ((y : Int) ∈ l)) := by
            have := hh.out
            rw [List.take_of_length_le (by omega)] at this; exact this
          clear hh
          go_wp2_with fail
          refine (normal_any _ _ _ R _ HF.out.2.1.lst HF.out.2.2.1).mono ?_
          intro e w5 hnp
          obtain ⟨m5, v5, q1, q2, q3, rfl, hv5, q4⟩ := hnp
          have HV := Lib.hid (And.intro hv5 (And.intro q2 q3))
          clear hv5 q2 q3
          go_wp2_with fail
          go_ret2
          obtain ⟨v6, r, he, hF, hWr, hNr, hlr, hpr, hbr⟩ := set_of_norm (N := 1024) (p := fun y => decide ((y : Int) ∈ l)) HF.out.2.1 HF.out.2.2.1 hwd HF.out.2.2.2.1 HF.out.2.2.2.2 HF.out.1 ⟨m5, v5, q1, HV.out.2.1, HV.out.2.2, rfl, HV.out.1, q4⟩
          simp at he
          subst he
          exact .inr ⟨HA.out.1, v5, r, rfl, hF, hWr, hNr, hlr, hpr, hbr⟩

end Go.Proofs.Ytchmjgjagaaomaa
