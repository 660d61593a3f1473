/- More contracts of package bits and of its reference: the reference's List, Equal, normal, Count, Next, Check, Within, Same. -/
import Derived.Test.YtdlfbkmjemamhaaBitsA
namespace Go.Proofs.Ytdlfbkmjemamhaa
open Go.RowKit Go.Dfl

theorem run_slice3 {P : Program} {t e : TypeId} {z : Value} {by8 : Nat} (ht : SliceOf P t e z 1 by8) (a : Option Addr) (n cap : Nat) (k k' : IntKind) (m : Int) (h0 : 0 ≤ m) (h1 : m ≤ cap) (ha : a = some ⟨blk a, ofs a, none⟩) (W : World) :
    (Instr.slice t (.slice a n cap) none (some (.int k m)) (some (.int k' m))).run P W = .ok (.slice a m.toNat m.toNat) W := by
  obtain ⟨i, hi, _, hs, _⟩ := ht.info
  have hc : P.cellsOf e = 1 := by simp [Program.cellsOf, hi, hs]
  obtain ⟨M, rfl⟩ := Int.eq_ofNat_of_zero_le h0
  have h1' : M ≤ cap := by omega
  simp [Instr.slice, run_underlying ht.und, Instr.sliceBounds, Instr.sliceBound, asIntOf, h1', run_sizeOf _ hi]
  intro _
  rw [ha]; simp [Addr.add]

/-- What normal returns: the words cut behind the last one that is not zero. -/
def NormPost (b : List Nat) (s : Option Addr) (w : World) (e : Ending) (w' : World) : Prop :=
  ∃ m v, m ≤ b.length ∧ (∀ i, m ≤ i → nth b i = 0) ∧ (m = 0 ∨ nth b (m - 1) ≠ 0) ∧ e = .returned v ∧ v = (if m = 0 then .slice none 0 0 else .slice s m m) ∧ Qt w w'

set_option maxHeartbeats 400000 in
theorem normal_any (a : Option Addr) (n cap : Nat) (b : List Nat) (w : World) (h : Words w (.slice a n cap) b) (hn : b.length = n) :
    Calls Try.prog 51 #[.slice a n cap] w (NormPost b a w) := by
  have hsl := h
  obtain ⟨a2, cap2, he, hm, hidx, hcell, hblk⟩ := h.out1 sBits
  simp at he
  obtain ⟨rfl, rfl, rfl⟩ := he
  have hcap : b.length ≤ cap ∧ ∀ i, i < b.length → a = some ⟨blk a, ofs a, none⟩ := by
    obtain ⟨a3, cap3, he, g1, g2, g3⟩ := hsl
    simp at he
    obtain ⟨rfl, rfl⟩ := he
    exact ⟨g1, fun i hi => (g3 i hi).1⟩
  have HC := Lib.hid hcap
  clear h hn hsl hcap
  go_enter Try.func51, Try.ntmps51
  go_wp2
  go_loop [3] (fun x => ∃ m : Nat, m ≤ b.length ∧ x = .int .i64 m ∧ Hid (∀ i, m ≤ i → nth b i = 0)) (fun x => (intOf x).toNat)
  case atStart => exact ⟨b.length, by omega, rfl, fun i hi => nth_out _ _ hi⟩
  case round =>
    obtain ⟨m, hmb, rfl, hh⟩ := hrel
    by_cases h0 : m = 0
    · subst h0
      go_wp2
      go_ret
      exact ⟨0, _, by omega, hh.out, .inl rfl, rfl, rfl, Qt.refl _⟩
    · obtain ⟨q, rfl⟩ : ∃ q, m = q + 1 := ⟨m - 1, by omega⟩
      have hq := hcell q (by omega)
      have hqb : q < b.length := by omega
      have hpos : (0 : Int) < ((q + 1 : Nat) : Int) := by omega
      unfold wv at hq
      clear hcell h0
      by_cases hz : nth b q = 0
      · have hz' : (((nth b q : Nat) : Int) == 0) = true := by simp [hz]
        have HZ := Lib.hid hz
        clear hz
        go_wp2
        go_round
        case rel => exact ⟨q, by omega, by go_num, fun i hi => by
          by_cases e : i = q
          · subst e; exact HZ.out
          · exact hh.out i (by omega)⟩
        case measure => simp [intOf]
      · have hz' : (((nth b q : Nat) : Int) == 0) = false := by simp; omega
        have hs3 := fun W => run_slice3 sBits a b.length cap .i64 .i64 ((q + 1 : Nat) : Int) (by omega) (by have := HC.out.1; omega) (HC.out.2 q hqb) W
        have hne : (((q : Nat) : Int) + 1 == 0) = false := by simp; omega
        have HZ := Lib.hid hz
        clear hz
        simp only [Int.natCast_add, Int.natCast_one] at hs3
        go_wp2
        go_ret
        exact ⟨q + 1, _, by omega, hh.out, .inr HZ.out, rfl, by rw [if_neg (by omega)]; congr 1 <;> omega, Qt.refl _⟩

end Go.Proofs.Ytdlfbkmjemamhaa
