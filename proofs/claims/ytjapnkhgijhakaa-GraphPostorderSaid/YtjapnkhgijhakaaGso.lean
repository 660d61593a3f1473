/- The reference's sorting: plain steps of the merge, the halves of a row. -/
import Derived.Test.YtjapnkhgijhakaaGmg
import Derived.Test.YtjapnkhgijhakaaGrc
import Derived.Test.YtjapnkhgijhakaaGa
namespace Go.Gra
open Go.Dfl (nth nth_mem mem_nth nth_eq nth_ext)
theorem mrg_right : ∀ (a : List (Int × Int)), mrg a [] = a
  | [] => by rw [mrg]
  | _ :: _ => by rw [mrg]
theorem mrg_a {r s : List (Int × Int)} {i k : Nat} (hi : i < r.length) (h : k = s.length ∨ (k < s.length ∧ eLt (nth r i) (nth s k))) : mrg (r.drop i) (s.drop k) = nth r i :: mrg (r.drop (i + 1)) (s.drop k) := by
  rcases h with rfl | ⟨hk, hl⟩
  · rw [List.drop_length, mrg_right, mrg_right, drop_nth _ _ hi]
  · rw [drop_nth _ _ hi, drop_nth _ _ hk, mrg, if_pos hl]
theorem mrg_b {r s : List (Int × Int)} {i k : Nat} (hk : k < s.length) (h : i = r.length ∨ (i < r.length ∧ ¬ eLt (nth r i) (nth s k) ∧ eLt (nth s k) (nth r i))) : mrg (r.drop i) (s.drop k) = nth s k :: mrg (r.drop i) (s.drop (k + 1)) := by
  rcases h with rfl | ⟨hi, h1, h2⟩
  · rw [List.drop_length, mrg, mrg, drop_nth _ _ hk]
  · rw [drop_nth _ _ hi, drop_nth _ _ hk, mrg, if_neg h1, if_pos h2]
theorem mrg_c {r s : List (Int × Int)} {i k : Nat} (hi : i < r.length) (hk : k < s.length) (h1 : ¬ eLt (nth r i) (nth s k)) (h2 : ¬ eLt (nth s k) (nth r i)) : mrg (r.drop i) (s.drop k) = mrg (r.drop (i + 1)) (s.drop k) := by
  rw [drop_nth _ _ hi]
  conv => lhs; rw [drop_nth _ _ hk]
  rw [mrg, if_neg h1, if_neg h2, ← drop_nth _ _ hk]
theorem sortOf_short {l : List (Int × Int)} (h : l.length < 2) : SortOf l l := by
  match l, h with
  | [], _ => exact SortOf.self List.Pairwise.nil
  | [x], _ => exact SortOf.self (by simp)
end Go.Gra
namespace Go.Dfl
open Go.RowKit
/-- The halves of a row. -/
theorem pairs_cut {P : Program} {t e : TypeId} {z : Value} {by8 : Nat} (ht : SliceOf P t e z 2 by8) {W : World} {v : Value} {l : List (Int × Int)} (h : Pairs W v l) {k : Nat} (hk : k < l.length) : ∃ u1 u2,
    (∀ W', (Instr.slice t v none (some (.int .i64 (k : Int))) none).run P W' = .ok u1 W') ∧ (∀ W', (Instr.slice t v (some (.int .i64 (k : Int))) none none).run P W' = .ok u2 W') ∧ ∀ Z, Pairs Z v l → Pairs Z u1 (l.take k) ∧ Pairs Z u2 (l.drop k) := by
  obtain ⟨i, hi, _, hs, _⟩ := ht.info
  obtain ⟨a, cap, rfl, h1, h2, h3⟩ := h
  obtain ⟨ha, -, -⟩ := h3 0 (by omega)
  rw [ha]
  have hlt : (l.take k).length = k := by simp; omega
  have hld : (l.drop k).length = l.length - k := by simp
  refine ⟨.slice (some ⟨blk a, ofs a, none⟩) k cap, .slice (some ⟨blk a, ofs a + k * 2, none⟩) (l.length - k) (cap - k), fun W' => ?_, fun W' => ?_, fun Z hZ => ⟨⟨some ⟨blk a, ofs a, none⟩, cap, by rw [hlt], by omega, h2, fun j hj => ?_⟩, ⟨some ⟨blk a, ofs a + k * 2, none⟩, cap - k, by rw [hld], by omega, by omega, fun j hj => ?_⟩⟩⟩
  · have h1' : k ≤ cap := by omega
    simp [Instr.slice, run_underlying ht.und, Instr.sliceBounds, Instr.sliceBound, asIntOf, h1', run_sizeOf _ hi, Addr.add]
  · have h1' : k ≤ l.length := by omega
    have hck : ¬ cap = k := by omega
    have hce : P.cellsOf e = 2 := by simp [Program.cellsOf, hi, hs]
    simp [Instr.slice, run_underlying ht.und, Instr.sliceBounds, Instr.sliceBound, asIntOf, h1', run_sizeOf _ hi, Addr.add, hck, hce]
  · rw [hlt] at hj
    obtain ⟨a2, cap2, he, -, -, h4⟩ := hZ
    simp only [Value.slice.injEq] at he
    obtain ⟨rfl, -, rfl⟩ := he
    obtain ⟨-, h5, h6⟩ := h4 j (by omega)
    refine ⟨rfl, h5, fun q hq => ?_⟩
    have := h6 q hq
    simp only [blk, ofs] at this ⊢
    rw [this]
    simp [nth, hj]
  · rw [hld] at hj
    obtain ⟨a2, cap2, he, -, -, h4⟩ := hZ
    simp only [Value.slice.injEq] at he
    obtain ⟨rfl, -, rfl⟩ := he
    obtain ⟨-, h5, h6⟩ := h4 (k + j) (by omega)
    refine ⟨rfl, h5, fun q hq => ?_⟩
    have := h6 q hq
    simp only [blk, ofs] at this ⊢
    rw [show ∀ x : Nat, x + k * 2 + j * 2 + q = x + (k + j) * 2 + q by intro x; omega, this]
    simp [nth]
end Go.Dfl
