/- Rows of marks; marks of the front of a list. -/
import Derived.Test.YtchmjgjagaaomaaGf
namespace Go.Dfl
/-- Which nodes stand among the first m of F. -/
def marksF (F : List Int) (n m : Nat) : List Bool := (List.range n).map fun w : Nat => decide ((w : Int) ∈ F.take m)
theorem marksF_len (F : List Int) (n m : Nat) : (marksF F n m).length = n := by simp [marksF]
theorem marksF_nth {F : List Int} {n m w : Nat} (hw : w < n) : nth (marksF F n m) w = decide ((w : Int) ∈ F.take m) := by
  unfold marksF; rw [nth_eq _ _ (by simpa using hw)]; simp
theorem marksF_zero (F : List Int) (n : Nat) : marksF F n 0 = List.replicate n false := nth_ext (by simp [marksF]) fun i hi => by
  rw [marksF_len] at hi
  rw [marksF_nth hi, nth_eq _ _ (by simpa using hi), List.getElem_replicate]; simp
theorem marksF_step {F : List Int} {n m u : Nat} (hm : m < F.length) (hu : nth F m = (u : Int)) (hun : u < n) : (marksF F n m).set u true = marksF F n (m + 1) := nth_ext (by rw [List.length_set, marksF_len, marksF_len]) fun i hi => by
  rw [List.length_set, marksF_len] at hi
  rw [nth_set, marksF_len, marksF_nth hi, marksF_nth hi, take_snoc _ _ hm, hu]
  by_cases e : u = i
  · subst e; rw [if_pos ⟨rfl, hun⟩]; simp
  · rw [if_neg (fun h9 : u = i ∧ _ => e h9.1)]
    have e2 : ¬ (i : Int) = (u : Int) := by omega
    simp [e2]
end Go.Dfl
namespace Go.Proofs.Ytchmjgjagaaomaa
open Go.RowKit Go.Dfl Go.Gra Go.Tj
theorem sBoolS : SliceOf Try.prog 31 4 (.bool false) 1 1 := ⟨Try.underlying31, info_parts (P := Try.prog) (e := 4) (by kernel_rfl)⟩
abbrev OwnB (w : World) (base : Nat) (v : Value) (l : List Bool) : Prop := Go.Dfl.Own Value.bool w base 4 v l
theorem own_boolS {w : World} {base : Nat} {s : Option Addr} {n cap : Nat} {l : List Bool} (h : OwnB w base (.slice s n cap) l) (hl : l.length = n) {x : Nat} (hx : x < n) :
    w.cell? ⟨blk s, ofs s + x, none⟩ = some (.bool (nth l x)) ∧ (∀ Y, (Instr.indexAt 31 (.slice s n cap) (.int .i64 (x : Int))).run Try.prog Y = .ok (.pointer (some ⟨blk s, ofs s + x, none⟩)) Y) ∧ w.frozen? ⟨blk s, ofs s + x, none⟩ = false ∧ base ≤ blk s := by
  obtain ⟨a9, c9, he, hm9, hidx, hcell, -⟩ := h.lst.out1 sBoolS
  rw [hl] at he hm9 hidx hcell
  simp only [Value.slice.injEq] at he
  obtain ⟨rfl, -, rfl⟩ := he
  have hob : (Value.slice s n cap).ownBlock = some (blk s) := by
    obtain ⟨-, ⟨h2, h3⟩ | ⟨q, cap2, cur, hv, -⟩⟩ := h
    · rw [hl] at h3; omega
    · simp only [Value.slice.injEq] at hv
      obtain ⟨rfl, -, -⟩ := hv; rfl
  exact ⟨hcell x hx, fun Y => by have := hidx .i64 (x : Int) (by omega) (by omega) Y; rw [Int.toNat_natCast] at this; exact this, h.frozen (by omega) _, (h.lt _ hob).1⟩
end Go.Proofs.Ytchmjgjagaaomaa
