/- A row of ints, cut in front. -/
import Derived.Test.YtjapnkhgijhakaaGpz
import Derived.Deep.DeepCutAuto
namespace Go.Dfl
open Go.RowKit
/-- The front of a row. -/
theorem ints_cut {P : Program} {t e : TypeId} {z : Value} {by8 : Nat} (ht : SliceOf P t e z 1 by8) {W : World} {v : Value} {l : List Int} (h : Ints W v l) {k : Nat} (hk : k < l.length) : ∃ a c,
    (∀ W', (Instr.slice t v none (some (.int .i64 (k : Int))) none).run P W' = .ok (.slice a k c) W') ∧ ∀ Z, Ints Z v l → Ints Z (.slice a k c) (l.take k) := by
  obtain ⟨i, hi, _, hs, _⟩ := ht.info
  obtain ⟨a, cap, rfl, h1, h2, h3⟩ := h
  obtain ⟨ha, -, -⟩ := h3 0 (by omega)
  rw [ha]
  have hlt : (l.take k).length = k := by simp; omega
  refine ⟨some ⟨blk a, ofs a, none⟩, cap, fun W' => ?_, fun Z hZ => ⟨some ⟨blk a, ofs a, none⟩, cap, by rw [hlt], by omega, h2, fun j hj => ?_⟩⟩
  · have h1' : k ≤ cap := by omega
    simp [Instr.slice, run_underlying ht.und, Instr.sliceBounds, Instr.sliceBound, asIntOf, h1', run_sizeOf _ hi, Addr.add]
  · rw [hlt] at hj
    obtain ⟨a2, cap2, he, -, -, h4⟩ := hZ
    simp only [Value.slice.injEq] at he
    obtain ⟨rfl, -, rfl⟩ := he
    obtain ⟨-, h5, h6⟩ := h4 j (by omega)
    refine ⟨rfl, h5, fun q hq => ?_⟩
    have := h6 q hq
    simp only [blk, ofs] at this ⊢
    rw [this]
    simp [nth, hj]
end Go.Dfl
