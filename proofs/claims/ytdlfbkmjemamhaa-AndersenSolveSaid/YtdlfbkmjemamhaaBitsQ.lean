/- Plain laws of bit sets: counting. -/
import Derived.Test.YtdlfbkmjemamhaaBitsA
namespace Go.Proofs.Ytdlfbkmjemamhaa
open Go.RowKit Go.Dfl

theorem low_mod {n k : Nat} (h : n.testBit k = true) (h2 : ∀ j, j < k → n.testBit j = false) : n % 2 ^ (k + 1) = 2 ^ k := by
  apply Nat.eq_of_testBit_eq
  intro j
  rw [Nat.testBit_mod_two_pow, Nat.testBit_two_pow]
  by_cases h1 : j < k
  · simp [h2 j h1]; omega
  · by_cases h3 : j = k
    · subst h3; simp [h]
    · have : ¬ j < k + 1 := by omega
      simp [this]; omega
theorem clear_bit {n k : Nat} (h : n.testBit k = true) (h2 : ∀ j, j < k → n.testBit j = false) (j : Nat) : (n &&& (n - 1)).testBit j = (n.testBit j && !decide (j = k)) := by
  have hm := low_mod h h2
  have hn : n = 2 ^ (k + 1) * (n / 2 ^ (k + 1)) + 2 ^ k := by
    have := Nat.div_add_mod n (2 ^ (k + 1)); rw [hm] at this; exact this.symm
  generalize n / 2 ^ (k + 1) = q at hn
  have hp : 0 < 2 ^ k := Nat.pow_pos (by omega)
  have hpk : 2 ^ (k + 1) = 2 * 2 ^ k := by rw [Nat.pow_succ]; omega
  have hn1 : n - 1 = 2 ^ (k + 1) * q + (2 ^ k - 1) := by omega
  rw [Nat.testBit_and, hn1]
  by_cases h1 : j < k
  · rw [h2 j h1]; simp
  · by_cases h3 : j = k
    · subst h3
      rw [Nat.testBit_two_pow_mul_add _ (by omega), if_pos (by omega), Nat.testBit_two_pow_sub_one]; simp
    · rw [Nat.testBit_two_pow_mul_add _ (by omega), if_neg (by omega)]
      rw [hn, Nat.testBit_two_pow_mul_add _ (by omega), if_neg (by omega)]
      simp [h3]

theorem filter_one {p : Nat → Bool} {k : Nat} (hp : p k = true) : ∀ (l : List Nat), l.Nodup → k ∈ l → (l.filter fun j => p j && !decide (j = k)).length + 1 = (l.filter p).length
  | [], _, h => by simp at h
  | x :: l, hn, hm => by
    rw [List.nodup_cons] at hn
    by_cases e : x = k
    · subst e
      have : (l.filter fun j => p j && !decide (j = x)) = l.filter p := by
        apply List.filter_congr
        intro y hy
        have : y ≠ x := fun e => hn.1 (e ▸ hy)
        simp [this]
      simp [hp, this]
    · have hm' : k ∈ l := by simpa [Ne.symm e] using hm
      have ih := filter_one hp l hn.2 hm'
      by_cases hx : p x = true <;> simp [hx, e] <;> omega

/-- How many bits of a word are set. -/
def cntW (n : Nat) : Nat := ((List.range 64).filter n.testBit).length
theorem cntW_zero : cntW 0 = 0 := by simp [cntW]
theorem cntW_clear {n : Nat} (hn : W64 n) (h0 : n ≠ 0) : cntW (n &&& (n - 1)) + 1 = cntW n := by
  obtain ⟨k, h1, h2, h3⟩ := low_ex hn h0
  unfold cntW
  rw [← filter_one h2 (List.range 64) List.nodup_range (by simpa using h1)]
  congr 2
  apply List.filter_congr
  intro j _
  exact clear_bit h2 h3 j
theorem clear_lt {n : Nat} (h0 : n ≠ 0) : n &&& (n - 1) < n := Nat.lt_of_le_of_lt Nat.and_le_right (by omega)
theorem elsUp_cnt (b : List Nat) (i : Nat) : ∀ k, k ≤ 64 → (elsUp b (i * 64 + k)).length = (elsUp b (i * 64)).length + ((List.range k).filter (nth b i).testBit).length
  | 0, _ => by simp
  | k+1, hk => by
    rw [← Nat.add_assoc, elsUp_succ, List.length_append, elsUp_cnt b i k (by omega), List.range_succ, List.filter_append, List.length_append, hasN_at _ _ _ (by omega)]
    by_cases h : (nth b i).testBit k = true <;> simp [h] <;> omega
theorem elsUp_word (b : List Nat) (i : Nat) : (elsUp b ((i + 1) * 64)).length = (elsUp b (i * 64)).length + cntW (nth b i) := by
  rw [show (i + 1) * 64 = i * 64 + 64 by omega, elsUp_cnt b i 64 (by omega)]; rfl

/-- Elements counted below a bound that covers the set. -/
def card (b : List Nat) (n : Nat) : Nat := ((List.range n).filter (hasN b)).length
theorem els_card (b : List Nat) (n : Nat) (h : 64 * b.length ≤ n) : (els b).length = card b n := by
  unfold els elsUp card
  rw [List.length_map]
  induction n with
  | zero => rw [show 64 * b.length = 0 by omega]
  | succ n ih =>
    by_cases e : 64 * b.length = n + 1
    · rw [e]
    · rw [ih (by omega), List.range_succ, List.filter_append]
      simp [hasN_out b n (by omega)]
theorem card_union (p q : Nat → Bool) (n : Nat) : ((List.range n).filter fun x => p x || q x).length + ((List.range n).filter fun x => p x && q x).length = ((List.range n).filter p).length + ((List.range n).filter q).length := by
  induction n with
  | zero => simp
  | succ n ih =>
    simp only [List.range_succ, List.filter_append, List.length_append]
    by_cases h1 : p n = true <;> by_cases h2 : q n = true <;> simp [h1, h2] <;> omega

end Go.Proofs.Ytdlfbkmjemamhaa
