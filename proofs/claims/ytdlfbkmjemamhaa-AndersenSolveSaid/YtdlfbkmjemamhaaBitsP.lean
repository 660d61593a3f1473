/- Plain laws of sets as lists of words of 64 bits. -/
import Derived.Test.YtdlfbkmjemamhaaBase
namespace Go.Dfl
open Go.RowKit

def W64 (n : Nat) : Prop := n < 18446744073709551616
theorem W64.lt {n : Nat} (h : W64 n) : n < 2 ^ 64 := by unfold W64 at h; omega
theorem W64.of {n : Nat} (h : n < 2 ^ 64) : W64 n := by unfold W64; omega
theorem W64.zero : W64 0 := by unfold W64; omega
/-- All words of the list are words. -/
def Wds (b : List Nat) : Prop := ∀ i, W64 (nth b i)

theorem W64.bit {n : Nat} (h : W64 n) (k : Nat) (hk : 64 ≤ k) : n.testBit k = false :=
  Nat.testBit_lt_two_pow (Nat.lt_of_lt_of_le h.lt (Nat.pow_le_pow_right (by omega) hk))

theorem div_nat (n k : Nat) : (n : Int) / 2 ^ k = ((n / 2 ^ k : Nat) : Int) := by
  rw [Int.natCast_ediv, Int.natCast_pow]; rfl

theorem bit_eq (n k : Nat) (h : W64 n) : (bits BinOp.and IntKind.u64 ((n : Int) / 2 ^ k) 1 == 1) = n.testBit k := by
  have h1 : n / 2 ^ k < 18446744073709551616 := Nat.lt_of_le_of_lt (Nat.div_le_self _ _) h
  have := u64_and_nat (n / 2 ^ k) 1 h1 (by omega)
  rw [div_nat, show (1 : Int) = ((1 : Nat) : Int) from rfl, this, nat_mask1, Nat.testBit_eq_decide_div_mod_eq]
  rw [Bool.eq_iff_iff, beq_iff_eq, decide_eq_true_eq]; omega

/-- Is x an element? -/
def hasN (b : List Nat) (x : Nat) : Bool := (nth b (x / 64)).testBit (x % 64)
theorem hasN_at (b : List Nat) (i k : Nat) (h : k < 64) : hasN b (i * 64 + k) = (nth b i).testBit k := by
  unfold hasN
  rw [show (i * 64 + k) / 64 = i by omega, show (i * 64 + k) % 64 = k by omega]
theorem hasN_out (b : List Nat) (x : Nat) (h : 64 * b.length ≤ x) : hasN b x = false := by
  unfold hasN
  rw [nth_out _ _ (by omega)]; simp

/-- The elements below n, ascending. -/
def elsUp (b : List Nat) (n : Nat) : List Int := ((List.range n).filter (hasN b)).map fun x : Nat => (x : Int)
def els (b : List Nat) : List Int := elsUp b (64 * b.length)

theorem elsUp_zero (b : List Nat) : elsUp b 0 = [] := rfl
theorem elsUp_succ (b : List Nat) (n : Nat) : elsUp b (n + 1) = elsUp b n ++ if hasN b n = true then [(n : Int)] else [] := by
  unfold elsUp
  rw [List.range_succ, List.filter_append, List.map_append]
  congr 1
  by_cases h : hasN b n = true <;> simp [h]
theorem elsUp_yes (b : List Nat) (n : Nat) (h : hasN b n = true) : elsUp b (n + 1) = elsUp b n ++ [(n : Int)] := by rw [elsUp_succ, if_pos h]
theorem elsUp_no (b : List Nat) (n : Nat) (h : hasN b n = false) : elsUp b (n + 1) = elsUp b n := by rw [elsUp_succ, if_neg (by simp [h])]; simp
theorem elsUp_skip (b : List Nat) (i : Nat) (h : nth b i = 0) : ∀ k, k ≤ 64 → elsUp b (i * 64 + k) = elsUp b (i * 64)
  | 0, _ => rfl
  | k+1, hk => by
    rw [← Nat.add_assoc, elsUp_no _ _ (by rw [hasN_at _ _ _ (by omega), h]; simp), elsUp_skip b i h k (by omega)]
theorem elsUp_len (b : List Nat) (n : Nat) : (elsUp b n).length ≤ n := by
  unfold elsUp; rw [List.length_map]; exact Nat.le_trans (List.length_filter_le _ _) (by simp)
theorem mem_elsUp {b : List Nat} {n : Nat} {x : Int} : x ∈ elsUp b n ↔ ∃ m : Nat, x = m ∧ m < n ∧ hasN b m = true := by
  unfold elsUp
  simp only [List.mem_map, List.mem_filter, List.mem_range]
  constructor
  · rintro ⟨m, ⟨h1, h2⟩, rfl⟩; exact ⟨m, rfl, h1, h2⟩
  · rintro ⟨m, rfl, h1, h2⟩; exact ⟨m, ⟨h1, h2⟩, rfl⟩
theorem mem_els {b : List Nat} {x : Int} : x ∈ els b ↔ ∃ m : Nat, x = m ∧ hasN b m = true := by
  unfold els
  rw [mem_elsUp]
  constructor
  · rintro ⟨m, h1, _, h3⟩; exact ⟨m, h1, h3⟩
  · rintro ⟨m, h1, h3⟩
    refine ⟨m, h1, ?_, h3⟩
    by_cases h : m < 64 * b.length
    · exact h
    · rw [hasN_out _ _ (by omega)] at h3; simp at h3

/-- Strictly ascending. -/
def Asc (l : List Int) : Prop := l.Pairwise (· < ·)
theorem elsUp_asc (b : List Nat) (n : Nat) : Asc (elsUp b n) := by
  unfold Asc elsUp
  rw [List.pairwise_map]
  refine List.Pairwise.imp ?_ ((List.pairwise_lt_range (n := n)).filter _)
  intro x y h; omega
theorem els_asc (b : List Nat) : Asc (els b) := elsUp_asc b _
theorem Asc.nth {l : List Int} (h : Asc l) {i j : Nat} (hij : i < j) (hj : j < l.length) : Go.Dfl.nth l i < Go.Dfl.nth l j := by
  rw [nth_eq _ _ (by omega), nth_eq _ _ hj]
  exact List.pairwise_iff_getElem.1 h i j (by omega) hj hij
theorem Asc.ext : ∀ {l m : List Int}, Asc l → Asc m → (∀ x, x ∈ l ↔ x ∈ m) → l = m
  | [], [], _, _, _ => rfl
  | [], y :: m, _, _, h => by have := (h y).2 (by simp); simp at this
  | x :: l, [], _, _, h => by have := (h x).1 (by simp); simp at this
  | x :: l, y :: m, hl, hm, h => by
    unfold Asc at hl hm
    rw [List.pairwise_cons] at hl hm
    have hxy : x = y := by
      have h1 := (h x).1 (by simp)
      have h2 := (h y).2 (by simp)
      simp only [List.mem_cons] at h1 h2
      rcases h1 with h1 | h1
      · exact h1
      · rcases h2 with h2 | h2
        · exact h2.symm
        · have a := hm.1 x h1
          have b := hl.1 y h2
          omega
    subst hxy
    rw [Asc.ext (l := l) (m := m) hl.2 hm.2 fun z => ?_]
    have := h z
    simp only [List.mem_cons] at this
    constructor
    · intro hz
      have a := hl.1 z hz
      rcases this.1 (.inr hz) with e | e
      · omega
      · exact e
    · intro hz
      have a := hm.1 z hz
      rcases this.2 (.inr hz) with e | e
      · omega
      · exact e

/-- Normal form: the last word is not zero. -/
def Norm (b : List Nat) : Prop := b.length = 0 ∨ nth b (b.length - 1) ≠ 0

theorem words_ext {b c : List Nat} (hb : Wds b) (hc : Wds c) (h : ∀ x, hasN b x = hasN c x) : ∀ i, nth b i = nth c i := by
  intro i
  apply Nat.eq_of_testBit_eq
  intro k
  by_cases hk : k < 64
  · have := h (i * 64 + k)
    rwa [hasN_at _ _ _ hk, hasN_at _ _ _ hk] at this
  · rw [(hb i).bit k (by omega), (hc i).bit k (by omega)]
theorem norm_len {b c : List Nat} (nb : Norm c) (h : ∀ i, nth b i = nth c i) : c.length ≤ b.length := by
  by_cases hc : c.length ≤ b.length
  · exact hc
  · exfalso
    rcases nb with h0 | h0
    · omega
    · rw [← h, nth_out _ _ (by omega)] at h0
      exact h0 rfl
theorem norm_ext {b c : List Nat} (hb : Wds b) (hc : Wds c) (nb : Norm b) (nc : Norm c) (h : ∀ x, hasN b x = hasN c x) : b = c := by
  have hw := words_ext hb hc h
  have l1 := norm_len nc hw
  have l2 := norm_len nb fun i => (hw i).symm
  exact nth_ext (by omega) fun i _ => hw i

theorem hasN_of_els {b : List Nat} {L : List Int} (h : els b = L) (x : Nat) : hasN b x = decide ((x : Int) ∈ L) := by
  rw [Bool.eq_iff_iff]
  simp only [decide_eq_true_eq, ← h, mem_els]
  constructor
  · intro hx; exact ⟨x, rfl, hx⟩
  · rintro ⟨m, e, hm⟩
    rw [show x = m by omega]; exact hm

/-- The words cut behind the last one that is not zero. -/
theorem take_has {b : List Nat} {m : Nat} (hm : m ≤ b.length) (h0 : ∀ i, m ≤ i → nth b i = 0) : ∀ i, nth (b.take m) i = nth b i := by
  intro i
  by_cases hi : i < m
  · simp [nth, hi]
  · rw [h0 i (by omega), nth_out _ _ (by simp; omega)]; rfl
theorem take_norm {b : List Nat} {m : Nat} (hm : m ≤ b.length) (h0 : ∀ i, m ≤ i → nth b i = 0) (h1 : m = 0 ∨ nth b (m - 1) ≠ 0) : Norm (b.take m) := by
  have hl : (b.take m).length = m := by simp; omega
  unfold Norm
  rw [hl, take_has hm h0]
  exact h1

theorem or_eq (a b : Nat) (ha : W64 a) (hb : W64 b) : bits BinOp.or IntKind.u64 (a : Int) (b : Int) = ((a ||| b : Nat) : Int) := u64_or_nat a b ha hb
theorem and_eq (a b : Nat) (ha : W64 a) (hb : W64 b) : bits BinOp.and IntKind.u64 (a : Int) (b : Int) = ((a &&& b : Nat) : Int) := u64_and_nat a b ha hb
/-- a and not b. -/
def anot (a b : Nat) : Nat := a &&& (18446744073709551615 - b)
theorem anot_eq (a b : Nat) (ha : W64 a) (hb : W64 b) : bits BinOp.andNot IntKind.u64 (a : Int) (b : Int) = ((anot a b : Nat) : Int) := u64_andNot_nat a b ha hb
theorem or_w (a b : Nat) (ha : W64 a) (hb : W64 b) : W64 (a ||| b) := W64.of (Nat.or_lt_two_pow ha.lt hb.lt)
theorem and_w (a b : Nat) (ha : W64 a) : W64 (a &&& b) := W64.of (Nat.lt_of_le_of_lt Nat.and_le_left ha.lt)
theorem anot_w (a b : Nat) (ha : W64 a) : W64 (anot a b) := and_w a _ ha
theorem anot_bit (a b : Nat) (ha : W64 a) (hb : W64 b) (k : Nat) : (anot a b).testBit k = (a.testBit k && !b.testBit k) := by
  unfold anot
  rw [Nat.testBit_and]
  by_cases hk : k < 64
  · have : 18446744073709551615 - b = 2 ^ 64 - (b + 1) := by unfold W64 at hb; omega
    rw [this, Nat.testBit_two_pow_sub_succ hb.lt]
    simp [hk]
  · rw [ha.bit k (by omega)]; simp
theorem anot_left (b : Nat) : anot 0 b = 0 := Nat.zero_and _
attribute [irreducible] anot
theorem shl_bit (j k : Nat) : (2 ^ j : Nat).testBit k = decide (j = k) := by
  rw [Nat.testBit_two_pow]

end Go.Dfl
