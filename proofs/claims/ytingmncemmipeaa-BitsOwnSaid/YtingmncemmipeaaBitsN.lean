/- Merging two ascending lists: the plain law. -/
import Derived.Test.YtingmncemmipeaaBitsM
namespace Go.Proofs.Ytingmncemmipeaa
open Go.RowKit Go.Dfl

/-- Which numbers are chosen. -/
def selB (X Y : List Int) (f s t : Bool) (z : Int) : Bool := if z ∈ X then (if z ∈ Y then t else f) else (if z ∈ Y then s else false)

structure MgInv (X Y : List Int) (f s t : Bool) (i k : Nat) (out : List Int) : Prop where
  mem : ∀ z, z ∈ out ↔ selB X Y f s t z = true ∧ (z ∈ X.take i ∨ z ∈ Y.take k)
  lo : ∀ z, z ∈ X.take i ∨ z ∈ Y.take k → (i < X.length → z < nth X i) ∧ (k < Y.length → z < nth Y k)
  asc : Asc out
  len : out.length ≤ i + k

theorem take_mem_idx {l : List Int} {i : Nat} {z : Int} : z ∈ l.take i ↔ ∃ j, j < i ∧ j < l.length ∧ nth l j = z := by
  constructor
  · intro h
    obtain ⟨j, hj, rfl⟩ := mem_nth h
    simp at hj
    exact ⟨j, by omega, by omega, by simp [nth, List.getElem?_take, show j < i by omega]⟩
  · rintro ⟨j, h1, h2, rfl⟩
    have : nth (l.take i) j = nth l j := by simp [nth, List.getElem?_take, h1]
    rw [← this]; exact nth_mem _ _ (by simp; omega)
theorem take_succ_mem {l : List Int} {i : Nat} (h : i < l.length) {z : Int} : z ∈ l.take (i + 1) ↔ z ∈ l.take i ∨ z = nth l i := by
  rw [take_snoc _ _ h]; simp
theorem asc_snoc {l : List Int} (h : Asc l) {z : Int} (hz : ∀ y ∈ l, y < z) : Asc (l ++ [z]) := by
  unfold Asc
  rw [List.pairwise_append]
  exact ⟨h, by simp, by simpa using hz⟩
theorem not_mem_between {l : List Int} (hl : Asc l) {k : Nat} {z : Int} (h1 : ∀ y ∈ l.take k, y < z) (h2 : k < l.length → z < nth l k) : z ∉ l := by
  intro h
  obtain ⟨j, hj, rfl⟩ := mem_nth h
  by_cases e : j < k
  · have := h1 _ (take_mem_idx.2 ⟨j, e, hj, rfl⟩); omega
  · have hk : k < l.length := by omega
    have := h2 hk
    by_cases e2 : j = k
    · subst e2; omega
    · have := hl.nth (by omega : k < j) hj; omega

theorem MgInv.start (X Y : List Int) (f s t : Bool) : MgInv X Y f s t 0 0 [] := ⟨by simp, by simp, by simp [Asc], by simp⟩

theorem MgInv.takeX {X Y : List Int} {f s t : Bool} {i k : Nat} {out : List Int} (hX : Asc X) (hY : Asc Y) (h : MgInv X Y f s t i k out) (hi : i < X.length) (hlt : k < Y.length → nth X i < nth Y k) :
    MgInv X Y f s t (i + 1) k (if f = true then out ++ [nth X i] else out) := by
  have hn : nth X i ∉ Y := not_mem_between hY (fun y hy => (h.lo y (.inr hy)).1 hi) hlt
  have hs : selB X Y f s t (nth X i) = f := by simp [selB, nth_mem X i hi, hn]
  refine ⟨fun z => ?_, fun z hz => ?_, ?_, ?_⟩
  · rw [take_succ_mem hi]
    cases f
    · simp only [Bool.false_eq_true, if_false]
      rw [h.mem]
      constructor
      · rintro ⟨a, b⟩; exact ⟨a, by rcases b with b | b; exact .inl (.inl b); exact .inr b⟩
      · rintro ⟨a, (b | b) | b⟩
        · exact ⟨a, .inl b⟩
        · subst b; rw [hs] at a; simp at a
        · exact ⟨a, .inr b⟩
    · simp only [if_true, List.mem_append, List.mem_singleton]
      rw [h.mem]
      constructor
      · rintro (⟨a, b⟩ | b)
        · exact ⟨a, by rcases b with b | b; exact .inl (.inl b); exact .inr b⟩
        · subst b; exact ⟨hs, .inl (.inr rfl)⟩
      · rintro ⟨a, (b | b) | b⟩
        · exact .inl ⟨a, .inl b⟩
        · exact .inr b
        · exact .inl ⟨a, .inr b⟩
  · have hz' : z ≤ nth X i ∧ (k < Y.length → z < nth Y k) := by
      rcases hz with hz | hz
      · rcases (take_succ_mem hi).1 hz with b | b
        · have := h.lo z (.inl b); exact ⟨by have := this.1 hi; omega, this.2⟩
        · subst b; exact ⟨Int.le_refl _, hlt⟩
      · have := h.lo z (.inr hz); exact ⟨by have := this.1 hi; omega, this.2⟩
    exact ⟨fun h2 => by have := hX.nth (by omega : i < i + 1) h2; omega, hz'.2⟩
  · split
    · exact asc_snoc h.asc fun y hy => (h.lo y ((h.mem y).1 hy).2).1 hi
    · exact h.asc
  · have := h.len; split <;> simp <;> omega

theorem selB_comm (X Y : List Int) (f s t : Bool) (z : Int) : selB X Y f s t z = selB Y X s f t z := by
  unfold selB; split <;> split <;> rfl
theorem MgInv.swap {X Y : List Int} {f s t : Bool} {i k : Nat} {out : List Int} (h : MgInv X Y f s t i k out) : MgInv Y X s f t k i out :=
  ⟨fun z => by rw [h.mem, selB_comm]; exact ⟨fun ⟨a, b⟩ => ⟨a, b.symm⟩, fun ⟨a, b⟩ => ⟨a, b.symm⟩⟩, fun z hz => (h.lo z hz.symm).symm, h.asc, by have := h.len; omega⟩
theorem MgInv.takeY {X Y : List Int} {f s t : Bool} {i k : Nat} {out : List Int} (hX : Asc X) (hY : Asc Y) (h : MgInv X Y f s t i k out) (hk : k < Y.length) (hlt : i < X.length → nth Y k < nth X i) :
    MgInv X Y f s t i (k + 1) (if s = true then out ++ [nth Y k] else out) := (h.swap.takeX hY hX hk hlt).swap

theorem MgInv.takeB {X Y : List Int} {f s t : Bool} {i k : Nat} {out : List Int} (hX : Asc X) (hY : Asc Y) (h : MgInv X Y f s t i k out) (hi : i < X.length) (hk : k < Y.length) (he : nth X i = nth Y k) :
    MgInv X Y f s t (i + 1) (k + 1) (if t = true then out ++ [nth X i] else out) := by
  have hs : selB X Y f s t (nth X i) = t := by
    have : nth X i ∈ Y := by rw [he]; exact nth_mem Y k hk
    simp [selB, nth_mem X i hi, this]
  have hset : ∀ z, (z ∈ X.take (i + 1) ∨ z ∈ Y.take (k + 1)) ↔ ((z ∈ X.take i ∨ z ∈ Y.take k) ∨ z = nth X i) := fun z => by
    rw [take_succ_mem hi, take_succ_mem hk, ← he]
    constructor
    · rintro ((a | a) | (a | a))
      · exact .inl (.inl a)
      · exact .inr a
      · exact .inl (.inr a)
      · exact .inr a
    · rintro ((a | a) | a)
      · exact .inl (.inl a)
      · exact .inr (.inl a)
      · exact .inl (.inr a)
  refine ⟨fun z => ?_, fun z hz => ?_, ?_, ?_⟩
  · rw [hset]
    cases t
    · simp only [Bool.false_eq_true, if_false]
      rw [h.mem]
      constructor
      · rintro ⟨a, b⟩; exact ⟨a, .inl b⟩
      · rintro ⟨a, b | b⟩
        · exact ⟨a, b⟩
        · subst b; rw [hs] at a; simp at a
    · simp only [if_true, List.mem_append, List.mem_singleton]
      rw [h.mem]
      constructor
      · rintro (⟨a, b⟩ | b)
        · exact ⟨a, .inl b⟩
        · subst b; exact ⟨hs, .inr rfl⟩
      · rintro ⟨a, b | b⟩
        · exact .inl ⟨a, b⟩
        · exact .inr b
  · have hz' : z ≤ nth X i := by
      rcases (hset z).1 hz with b | b
      · have := (h.lo z b).1 hi; omega
      · omega
    exact ⟨fun h2 => by have := hX.nth (by omega : i < i + 1) h2; omega, fun h2 => by have := hY.nth (by omega : k < k + 1) h2; omega⟩
  · split
    · exact asc_snoc h.asc fun y hy => (h.lo y ((h.mem y).1 hy).2).1 hi
    · exact h.asc
  · have := h.len; split <;> simp <;> omega

theorem MgInv.done {X Y : List Int} {f s t : Bool} {out : List Int} (h : MgInv X Y f s t X.length Y.length out) (z : Int) : z ∈ out ↔ selB X Y f s t z = true := by
  rw [h.mem, List.take_length, List.take_length]
  constructor
  · exact fun a => a.1
  · intro a
    refine ⟨a, ?_⟩
    unfold selB at a
    by_cases h1 : z ∈ X
    · exact .inl h1
    · by_cases h2 : z ∈ Y
      · exact .inr h2
      · simp [h1, h2] at a

end Go.Proofs.Ytingmncemmipeaa
