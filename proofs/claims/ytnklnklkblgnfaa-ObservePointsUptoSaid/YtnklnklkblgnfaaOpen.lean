/- From a reading of an argument to what a walk is told of it. -/
import Derived.Test.YtnklnklkblgnfaaGa
import Derived.ProofKit
import Derived.OpenShut
import Derived.ShutString
import Derived.ChangeOld
import Derived.Deep.SlicePairs
namespace Go.Dfl
open Go.ChangeShapes Go.WideShapes Go.ChangeAt Go.RowKit Go.Deep

theorem cell_lt {w : World} {a : Addr} {v : Value} (h : w.cell? a = some v) : a.block < w.heap.size ∧ a.spot = none := by
  refine ⟨?_, World.cell?_spot h⟩
  unfold World.cell? at h
  split at h
  · rename_i he; exact (Array.getElem?_eq_some_iff.1 he).1
  · simp at h

theorem addr_none {x : Addr} (h : x.spot = none) (i : Nat) : x.add i = ⟨x.block, x.off + i, none⟩ := by
  obtain ⟨b, o, s⟩ := x
  simp at h; subst h
  simp [Addr.add]

theorem add_spot {x : Addr} {w : World} {v : Value} {i : Nat} (hi : i = 0) (h : w.cell? (x.add i) = some v) : x.spot = none := by
  subst hi; simpa [Addr.add] using World.cell?_spot h

section
variable {H : Type} {enc : TypeId × Value → H} {P : Program} {w : World} {base : Nat} {spare : Nat → Bool} {held : Bool}

theorem ints_of_trod {t e : TypeId} (ht : P.underlying t = some (.slice e)) (he : P.underlying e = some (.int .i64)) (hc : P.cellsOf e = 1) {a : Option Addr} {len cap : Nat} {d : DataW H} {p : List MemPlace}
    (h : DataW.Trod enc P w base spare held t (.slice a len cap) d p) : ∃ l, l.length = len ∧ Ints w (.slice a len cap) l ∧ ∀ x ∈ l, -9223372036854775808 ≤ x ∧ x ≤ 9223372036854775807 := by
  obtain ⟨fuel, hf⟩ := h
  rcases open_ints ht he hc hf with ⟨hcs, _⟩ | ⟨x, l, c, zs, hcs, _, hl, hm, hz, _, hcell, hwz⟩
  · simp [Value.cells] at hcs
    obtain ⟨rfl, rfl, rfl⟩ := hcs
    exact ⟨[], rfl, Lst.nil _ _, by simp⟩
  · simp [Value.cells] at hcs
    obtain ⟨rfl, rfl, rfl⟩ := hcs
    have hlz : len ≤ zs.length := by rw [hz]; split <;> omega
    refine ⟨zs.take len, by simp; omega, ⟨some x, cap, ?_, ?_, hm, fun i hi => ?_⟩, ?_⟩
    · rw [List.length_take]; congr 1; omega
    · simp; omega
    · simp at hi
      have h0 := hcell 0 (by omega)
      have hsp : x.spot = none := add_spot rfl h0
      have hi' := hcell i (by omega)
      rw [addr_none hsp] at hi'
      refine ⟨?_, (cell_lt hi').1, fun j hj => ?_⟩
      · obtain ⟨b, o, s⟩ := x; simp at hsp; subst hsp; rfl
      · obtain rfl : j = 0 := by omega
        simp only [blk, ofs, Nat.mul_one, Nat.add_zero]
        rw [hi']
        congr 2
        simp [nth, List.getElem?_take]
        rw [if_pos (by omega)]
    · intro y hy
      have := hwz y (List.mem_of_mem_take hy)
      have := bounds_i64 this
      omega

theorem pairs_of_trod {t e te : TypeId} {f0 f1 : Field} (ht : P.underlying t = some (.slice e)) (he : P.underlying e = some (.struct #[f0, f1])) (ce : P.cellsOf e = 2) (o0 : f0.offset = 0) (o1 : f1.offset = 1)
    (t0 : f0.type = te) (t1 : f1.type = te) (hi : P.underlying te = some (.int .i64)) (hc : P.cellsOf te = 1) {a : Option Addr} {len cap : Nat} {d : DataW H} {p : List MemPlace}
    (h : DataW.Trod enc P w base spare held t (.slice a len cap) d p) : ∃ l : List (Int × Int), l.length = len ∧ Pairs w (.slice a len cap) l ∧ ∀ x ∈ l, (-9223372036854775808 ≤ x.1 ∧ x.1 ≤ 9223372036854775807) ∧ -9223372036854775808 ≤ x.2 ∧ x.2 ≤ 9223372036854775807 := by
  obtain ⟨fuel, hf⟩ := h
  rcases open_slice_pairs ht he ce o0 o1 (by rw [t0]; exact hc) (by rw [t1]; exact hc) hf with ⟨hcs, _⟩ | ⟨x, len', cap', m, n, V0, V1, D0, D1, P0, P1, hcs, _, hl, hm, hmm, hx, hcell⟩
  · simp [Value.cells] at hcs
    obtain ⟨rfl, rfl, rfl⟩ := hcs
    exact ⟨[], rfl, ⟨none, 0, rfl, by simp, by unfold maxLen; omega, fun i hi => by simp at hi⟩, by simp⟩
  · simp [Value.cells] at hcs
    obtain ⟨rfl, rfl, rfl⟩ := hcs
    have hlm : len ≤ m := by rw [hmm]; split <;> omega
    have each : ∀ i, i < len → ∃ y z : Int, V0 i = .int .i64 y ∧ V1 i = .int .i64 z ∧ (-9223372036854775808 ≤ y ∧ y ≤ 9223372036854775807) ∧ -9223372036854775808 ≤ z ∧ z ≤ 9223372036854775807 := by
      intro i hil
      obtain ⟨_, _, r0, r1⟩ := hcell i (by omega)
      rw [t0] at r0
      rw [t1] at r1
      obtain ⟨y, e0, _, wy⟩ := DataW.trod_int hi r0
      obtain ⟨z, e1, _, wz⟩ := DataW.trod_int hi r1
      simp at e0 e1
      have b0 := bounds_i64 wy
      have b1 := bounds_i64 wz
      exact ⟨y, z, e0, e1, by omega, by omega⟩
    refine ⟨(List.range len).map fun i => ((match V0 i with | .int _ y => y | _ => 0), (match V1 i with | .int _ y => y | _ => 0)), by simp, ⟨some x, cap, by simp, by simpa using hl, hm, fun i hi => ?_⟩, ?_⟩
    · simp at hi
      obtain ⟨h0, h1, -, -⟩ := hcell 0 (by omega)
      have hsp : x.spot = none := add_spot (by omega) h0
      obtain ⟨g0, g1, -, -⟩ := hcell i (by omega)
      rw [addr_none hsp] at g0 g1
      obtain ⟨y, z, e0, e1, -⟩ := each i hi
      refine ⟨?_, (cell_lt g0).1, fun j hj => ?_⟩
      · obtain ⟨b, o, s⟩ := x; simp at hsp; subst hsp; rfl
      · rcases (by omega : j = 0 ∨ j = 1) with rfl | rfl
        · simp only [blk, ofs, Nat.add_zero]
          rw [g0]; simp [nth, hi, e0]
        · simp only [blk, ofs]
          rw [Nat.add_assoc, g1]; simp [nth, hi, e1]
    · intro q hq
      simp at hq
      obtain ⟨i, hi, rfl⟩ := hq
      obtain ⟨y, z, e0, e1, b⟩ := each i hi
      simp only [e0, e1]; exact b

end
end Go.Dfl
