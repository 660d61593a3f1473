/- Contracts of bits.With, Without, Of. -/
import Derived.Test.YtdlfbkmjemamhaaBitsD
namespace Go.Proofs.Ytdlfbkmjemamhaa
open Go.RowKit Go.Dfl

/-- 'copy(dst, src)' into a row of the call's own. -/
theorem wp_copy {α : Type} [Inhabited α] {f : α → Value} (hf1 : ∀ x, (f x).oneCell' = true) {P : Program} {dT e : TypeId} {z : Value} {by8 : Nat} (ht : SliceOf P dT e z 1 by8) {w : World} {ops : Array Oper} {rest : List Oper} {o : Oper} {a : Act} {Q : Exit → Act → World → Prop}
    (hg : o.guard = none) (d s : Operand) (sT : TypeId) (hop : o.op = .call { callee := .builtin .copy, args := #[d, s], argTypes := #[dT, sT] })
    (B : Nat) (sd : Option Addr) (n cap : Nat) (R : List α) (hd : a.eval d = .slice sd n cap) (hown : Own f w B e (.slice sd n cap) R) (hR : R.length = n) (src : Value) (l : List α) (hs : a.eval s = src) (hsrc : Lst f w src l) (hl : l.length ≤ n)
    (hK : ∀ w' u, Own f w' B e (.slice sd n cap) (l ++ R.drop l.length) → Below B w w' → wpList P ops Q rest (a.put o.dst u) w') : wpList P ops Q (o :: rest) a w := by
  obtain ⟨i, hi, _, hs1, _⟩ := ht.info
  have hsz : (P.info? e).map (·.size) = some 1 := by rw [hi]; simp [hs1]
  obtain ⟨sp, scap, rfl, hlc, hm, hcell⟩ := hsrc
  obtain ⟨h1, ⟨h2, h3⟩ | ⟨g, cap2, cur, hv, hg2, hh, hc, hm2, hsz2, ht2⟩⟩ := hown
  · simp at h2
    obtain ⟨rfl, rfl, rfl⟩ := h2
    have hl0 : l = [] := List.eq_nil_of_length_eq_zero (by omega)
    subst hl0
    refine wpList_copy_nothing hg d s dT sT hop e ht.und hsz none sp 0 0 0 scap hd hs rfl ?_
    exact hK w _ (by simp; exact ⟨h1, .inl ⟨rfl, h3⟩⟩) (Below.refl _ _)
  · simp at hv
    obtain ⟨rfl, rfl, rfl⟩ := hv
    have hcl : cur.toList.length = cap := by simpa using hsz2
    refine wpList_copy_splice hg d s dT sT hop e ht.und hsz (some ⟨g, 0, none⟩) sp R.length cap l.length scap hd hs g 0 cur.toList e (by simpa using hh) (l.map f) ?_ ?_ (by simp; omega) ?_ B w (Below.refl _ _) hg2 ?_
    · rw [List.length_map]; exact (Nat.min_eq_left hl).symm
    · intro hp
      simp at hp
      obtain ⟨q1, q2, q3⟩ := hcell 0 hp
      refine ⟨rfl, ⟨blk sp, ofs sp, none⟩, q1, fun j v hj => ?_⟩
      have hjl : j < l.length := by
        have := (List.getElem?_eq_some_iff.1 hj).1; simpa using this
      obtain ⟨-, -, q4⟩ := hcell j hjl
      have := q4 0 (by omega)
      rw [nth_map f l j hjl] at hj
      simp at hj this
      rw [← hj]
      simp only [Addr.add]
      split
      · rename_i hj0; subst hj0; simpa using this
      · exact this
    · intro v hv; simp at hv; obtain ⟨x, _, rfl⟩ := hv; exact hf1 x
    · intro w' hw' hb'
      refine hK w' _ ⟨by simp, .inr ⟨g, cap, (splice cur.toList 0 (l.map f)).toArray, by simp; omega, hg2, hw'.out, by simp; omega, hm2, by simp [splice]; omega, ?_⟩⟩ hb'
      have hRt : cur.toList.take R.length = R.map f := by simpa using ht2
      simp only [splice, List.take_zero, List.nil_append, Nat.zero_add, List.length_map, List.length_append, List.length_drop, Nat.mul_one, List.map_append, List.map_drop, ← hRt]
      rw [show l.length + (R.length - l.length) = R.length by omega]
      rw [List.take_append]
      simp only [List.length_map]
      rw [List.take_of_length_le (by simp; omega), List.take_drop, show l.length + (R.length - l.length) = R.length by omega]

theorem nth_zeros (k j : Nat) : nth (List.replicate k (0 : Nat)) j = 0 := by
  unfold nth
  simp only [List.getD_eq_getElem?_getD, List.getElem?_replicate]
  split <;> rfl
theorem nth_pad (b : List Nat) (k i : Nat) : nth (b ++ List.replicate k 0) i = nth b i := by
  rw [nth_append]
  split
  · rfl
  · rw [nth_out b i (by omega), nth_zeros]; rfl
theorem pow_wrap (j : Nat) (hj : j < 64) : IntKind.u64.wrap ((2 : Int) ^ j) = ((2 ^ j : Nat) : Int) := by
  have h : (2 : Nat) ^ j < 2 ^ 64 := Nat.pow_lt_pow_right (by omega) hj
  have e : ((2 : Int) ^ j) = ((2 ^ j : Nat) : Int) := by rw [Int.natCast_pow]; rfl
  rw [IntKind.wrap_u64, e]
  generalize (2 : Nat) ^ j = p at *
  omega
theorem pow_w (j : Nat) (hj : j < 64) : W64 (2 ^ j) := W64.of (Nat.pow_lt_pow_right (by omega) hj)
/-- One word of a set is changed. -/
theorem hasN_set (R : List Nat) (i v x : Nat) (hi : i < R.length) : hasN (R.set i v) x = if x / 64 = i then v.testBit (x % 64) else hasN R x := by
  unfold hasN
  rw [nth_set]
  by_cases e : i = x / 64
  · rw [if_pos ⟨e, hi⟩, if_pos e.symm]
  · rw [if_neg (by omega), if_neg (by omega)]
theorem bitpos (m y : Nat) : (y / 64 = m / 64 ∧ m % 64 = y % 64) ↔ y = m := by omega

def WithPost (b : List Nat) (x : Int) (w : World) (e : Ending) (w' : World) : Prop :=
  (valB x = false ∧ e = .returned (.tuple #[.slice none 0 0, .int .i64 4]) ∧ Qt w w') ∨
  (valB x = true ∧ ∃ v r, e = .returned (.tuple #[v, .int .i64 0]) ∧ Fresh w' w.heap.size v r ∧ Wds r ∧ Norm r ∧ r.length ≤ b.length + 1024 ∧ (∀ y, hasN r y = (hasN b y || decide ((y : Int) = x))) ∧ Below w.heap.size w w')

end Go.Proofs.Ytdlfbkmjemamhaa
