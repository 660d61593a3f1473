/- Contract of the reference's before; the facts put into an ascending list. -/
import Derived.Test.YtnklnklkblgnfaaObt
import Derived.Test.YtnklnklkblgnfaaObr
import Derived.Test.YtnklnklkblgnfaaOwc
import Derived.Test.YtnklnklkblgnfaaGa
namespace Go.Obs
open Go.Dfl (nth nth_mem mem_nth nth_eq nth_ext take_snoc STO)
def bfB : List Int → List Int → Bool
  | a :: l, b :: m => if a ≠ b then decide (a < b) else bfB l m
  | _, _ => false
theorem bfB_at : ∀ {l m : List Int} {k : Nat}, (∀ j, j < k → nth l j = nth m j) → k < l.length → k < m.length → nth l k ≠ nth m k → bfB l m = decide (nth l k < nth m k)
  | [], _, _, _, h, _, _ => absurd h (by simp)
  | _ :: _, [], _, _, _, h, _ => absurd h (by simp)
  | a :: l, b :: m, 0, _, _, _, h => by
    have h' : a ≠ b := h
    rw [bfB, if_pos h']; rfl
  | a :: l, b :: m, k + 1, hj, h1, h2, h => by
    have h0 : a = b := hj 0 (by omega)
    rw [bfB, if_neg (by simp [h0])]
    have e : ∀ (x : Int) (t : List Int) j, nth (x :: t) (j + 1) = nth t j := fun x t j => by simp [nth]
    rw [e, e] at h ⊢
    exact bfB_at (fun j hj' => by have := hj (j + 1) (by omega); rwa [e, e] at this) (by simpa using h1) (by simpa using h2) h
theorem bfB_eq : ∀ (l : List Int), bfB l l = false
  | [] => rfl
  | a :: l => by rw [bfB, if_neg (by simp)]; exact bfB_eq l
theorem bfB3 (a b : Int × Int × Int) : bfB [a.1, a.2.1, a.2.2] [b.1, b.2.1, b.2.2] = decide (lt3 a b) := by
  simp only [bfB]
  by_cases h1 : a.1 = b.1
  · by_cases h2 : a.2.1 = b.2.1
    · by_cases h3 : a.2.2 = b.2.2
      · simp [h1, h2, h3, lt3]
      · simp [h1, h2, h3, lt3]
    · simp [h1, h2, lt3]
  · simp [h1, lt3]
/-- What putting x into an ascending list gives: all before it, x, all behind it. -/
theorem put_asc {α : Type} [Inhabited α] {lt : α → α → Prop} (h : STO lt) {l : List α} (hl : l.Pairwise lt) {x : α} {n : Nat} (hn : n ≤ l.length) (hb : ∀ j, j < n → lt (nth l j) x) (ha : n < l.length → lt x (nth l n)) :
    (l.take n ++ [x] ++ l.drop n).Pairwise lt ∧ ∀ y, y ∈ l.take n ++ [x] ++ l.drop n ↔ y ∈ l ∨ y = x := by
  have hd : ∀ y ∈ l.drop n, lt x y := fun y hy => by
    obtain ⟨j, hj, rfl⟩ := List.getElem_of_mem hy
    rw [List.length_drop] at hj
    rw [List.getElem_drop]
    have h0 := ha (by omega)
    rw [nth_eq _ _ (by omega)] at h0
    by_cases e : j = 0
    · subst e; exact h0
    · exact h.trans h0 (List.pairwise_iff_getElem.1 hl n (n + j) (by omega) (by omega) (by omega))
  have ht : ∀ y ∈ l.take n, lt y x := fun y hy => by
    obtain ⟨j, hj, rfl⟩ := List.getElem_of_mem hy
    rw [List.length_take] at hj
    rw [List.getElem_take, ← nth_eq _ _ (by omega)]
    exact hb j (by omega)
  constructor
  · rw [List.pairwise_append, List.pairwise_append]
    refine ⟨⟨hl.sublist (List.take_sublist _ _), List.pairwise_singleton _ _, fun a ha' b hb' => by rw [List.mem_singleton.1 hb']; exact ht a ha'⟩, hl.sublist (List.drop_sublist _ _), fun a ha' b hb' => ?_⟩
    rcases List.mem_append.1 ha' with h1 | h1
    · exact h.trans (ht a h1) (hd b hb')
    · rw [List.mem_singleton.1 h1]; exact hd b hb'
  · intro y
    conv => rhs; rw [← List.take_append_drop n l]
    simp only [List.mem_append, List.mem_singleton]
    constructor
    · rintro ((h1 | h1) | h1)
      · exact .inl (.inl h1)
      · exact .inr h1
      · exact .inl (.inr h1)
    · rintro ((h1 | h1) | h1)
      · exact .inl (.inl h1)
      · exact .inr h1
      · exact .inl (.inr h1)
end Go.Obs
namespace Go.Proofs.Ytnklnklkblgnfaa
open Go.RowKit Go.Dfl Go.Gra Go.Obs Go.Sort Go.Maps
set_option maxHeartbeats 800000 in
set_option maxRecDepth 100000 in
theorem before_any (v u : Value) (l m : List Int) (w : World) (h : Ints w v l) (h' : Ints w u m) (hlm : l.length = m.length) :
    Calls Try.prog 30 #[v, u] w fun e w' => e = .returned (.bool (bfB l m)) ∧ Qt w w' := by
  obtain ⟨a, cap, rfl, hm, hidx, hcell, _⟩ := h.out1 sIntG
  obtain ⟨a', cap', rfl, hm', hidx', hcell', _⟩ := h'.out1 sIntG
  have HLM := Lib.hid hlm
  have hle : l.length ≤ m.length := by omega
  clear h h' hlm
  go_enter Try.func30, Try.ntmps30
  go_wp2_with fail
  go_loopw [5] (fun i wr => ∃ k : Nat, k ≤ l.length ∧ i = .int .i64 k ∧ Hid ((∃ q, wr = w.drewN q) ∧ ∀ j, j < k → nth l j = nth m j)) (fun i _ => l.length - (intOf i).toNat)
  case atStart => exact ⟨0, by omega, rfl, ⟨0, rfl⟩, fun j hj => by omega⟩
  case round =>
    obtain ⟨k, hk, rfl, hh⟩ := hrel
    obtain ⟨⟨q, rfl⟩, hch⟩ := hh.out
    have HK := Lib.hid hch
    clear hh hch
    by_cases hlt : k < l.length
    · have hlt' : k < m.length := by omega
      have c1 := hcell k hlt
      have c2 := hcell' k hlt'
      by_cases h1 : nth l k = nth m k
      · have w1 : (nth l k != nth m k) = false := by simpa using h1
        have HE : Hid (∀ j, j < k + 1 → nth l j = nth m j) := Lib.hid fun j hj => by
          by_cases e : j = k
          · subst e; exact h1
          · exact HK.out j (by omega)
        clear h1
        go_wp2
        go_quiet (fail)
        go_wp2
        go_roundw
        case rel => exact ⟨k + 1, by omega, by go_num, ⟨_, by first | rfl | exact World.drewN_drewN _ _ _⟩, HE.out⟩
        case measure => simp [intOf]; omega
      · have w1 : (nth l k != nth m k) = true := by simpa using h1
        have HE := Lib.hid (bfB_at HK.out hlt hlt' h1)
        clear h1
        go_wp2
        go_quiet (fail)
        go_wp2
        go_quiet (fail)
        go_wp2
        go_ret
        exact ⟨ret_bool HE.out.symm, by first | exact Qt.drewN _ _ | exact (Qt.drewN _ _).trans (Qt.drewN _ _) | exact ((Qt.drewN _ _).trans (Qt.drewN _ _)).trans (Qt.drewN _ _)⟩
    · obtain rfl : k = l.length := by omega
      have HE : Hid (bfB l m = false) := Lib.hid (by rw [nth_ext HLM.out HK.out]; exact bfB_eq m)
      go_wp2
      go_ret
      exact ⟨by rw [HE.out]; rfl, Qt.drewN _ _⟩
end Go.Proofs.Ytnklnklkblgnfaa
