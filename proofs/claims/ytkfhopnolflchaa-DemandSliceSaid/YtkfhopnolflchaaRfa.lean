/- Contracts of the reference's among, Has, Part, lists. -/
import Derived.Test.YtkfhopnolflchaaDrv
namespace Go.And
open Go.Dfl (nth nth_mem mem_nth nth_eq)
def amB (x n : Int) : Bool := decide (0 ≤ x) && decide (x < n)
/-- Whether each of a is one of b. -/
def partB (a b : List Int) : Bool := a.all fun x => b.contains x
theorem partB_iff (a b : List Int) : partB a b = true ↔ ∀ i, i < a.length → nth a i ∈ b := by
  unfold partB
  simp only [List.all_eq_true, List.contains_iff_mem]
  exact ⟨fun h i hi => h _ (nth_mem _ _ hi), fun h x hx => by obtain ⟨i, hi, rfl⟩ := mem_nth hx; exact h i hi⟩
theorem winB_part (a b : List (List Int)) : winB a b = true ↔ a.length = b.length ∧ ∀ i, i < a.length → partB (nth a i) (nth b i) = true := by
  rw [winB_iff]
  refine and_congr_right fun _ => forall_congr' fun i => forall_congr' fun _ => ?_
  rw [partB_iff]
  exact ⟨fun h j hj => h _ (nth_mem _ _ hj), fun h x hx => by obtain ⟨j, hj, rfl⟩ := mem_nth hx; exact h j hj⟩
end Go.And
namespace Go.Proofs.Ytkfhopnolflchaa
open Go.RowKit Go.Dfl Go.And

set_option maxHeartbeats 400000 in
theorem rAmong_any (x n : Int) (w : World) :
    Calls Try.prog 59 #[.int .i64 x, .int .i64 n] w fun e w' => e = .returned (.bool (amB x n)) ∧ Qt w w' := by
  by_cases h1 : 0 ≤ x
  · by_cases h2 : x < n
    · go_enter Try.func59, Try.ntmps59
      go_wp2_with fail
      go_ret
      exact ⟨ret_bool (by simp [amB, h1, h2]), Qt.refl _⟩
    · go_enter Try.func59, Try.ntmps59
      go_wp2_with fail
      go_ret
      exact ⟨ret_bool (by simp [amB, h1, h2]), Qt.refl _⟩
  · go_enter Try.func59, Try.ntmps59
    go_wp2_with fail
    go_ret
    exact ⟨ret_bool (by simp [amB]; omega), Qt.refl _⟩

set_option maxHeartbeats 400000 in
theorem rHas_any (v : Value) (l : List Int) (x : Int) (w : World) (h : Ints w v l) :
    Calls Try.prog 19 #[v, .int .i64 x] w fun e w' => e = .returned (.bool (l.contains x)) ∧ Qt w w' := by
  obtain ⟨a, cap, rfl, hm, hidx, hcell, _⟩ := h.out1 sInt
  clear h
  go_enter Try.func19, Try.ntmps19
  go_wp2_with fail

  go_loopw [5] (fun i wr => ∃ k : Nat, k ≤ l.length ∧ i = .int .i64 k ∧ Qt w wr ∧ Hid (∀ i, i < k → nth l i ≠ x)) (fun i _ => l.length - (intOf i).toNat)
  case atStart => exact ⟨0, by omega, rfl, Qt.refl _, fun i hi => by omega⟩
  case round =>
    obtain ⟨k, hk, rfl, ⟨nw, rfl⟩, hch⟩ := hrel
    by_cases hlt : k < l.length
    · have hck := hcell k hlt
      by_cases h1 : nth l k = x
      · have hd : (nth l k == x) = true := by simpa using h1
        have HX := Lib.hid h1
        clear h1
        go_wp2_with fail
        go_ret
        exact ⟨ret_bool (by symm; rw [List.contains_iff_mem, ← HX.out]; exact nth_mem _ _ hlt), (by first | exact Qt.refl _ | exact Qt.drewN _ _ | exact (Qt.drewN _ _).trans (Qt.drewN _ _) | exact ((Qt.drewN _ _).trans (Qt.drewN _ _)).trans (Qt.drewN _ _) | exact Qt.drew _ | exact (Qt.drewN _ _).trans (Qt.drew _))⟩
      · have hd : (nth l k == x) = false := by simpa using h1
        have HX := Lib.hid h1
        clear h1
        go_wp2_with fail
        go_roundw
        case rel => exact ⟨k + 1, by omega, by go_num, (by first | exact Qt.refl _ | exact Qt.drewN _ _ | exact (Qt.drewN _ _).trans (Qt.drewN _ _) | exact ((Qt.drewN _ _).trans (Qt.drewN _ _)).trans (Qt.drewN _ _) | exact Qt.drew _ | exact (Qt.drewN _ _).trans (Qt.drew _)), fun i hi => by
          by_cases e : i = k
          · subst e; exact HX.out
          · exact hch.out i (by omega)⟩
        case measure => simp [intOf]; omega
    · obtain rfl : k = l.length := by omega
      go_wp2_with fail
      go_ret
      refine ⟨ret_bool ?_, (by first | exact Qt.refl _ | exact Qt.drewN _ _ | exact (Qt.drewN _ _).trans (Qt.drewN _ _) | exact ((Qt.drewN _ _).trans (Qt.drewN _ _)).trans (Qt.drewN _ _) | exact Qt.drew _ | exact (Qt.drewN _ _).trans (Qt.drew _))⟩
      symm
      rw [Bool.eq_false_iff]
      intro hh
      rw [List.contains_iff_mem] at hh
      obtain ⟨i, hi, e⟩ := mem_nth hh
      exact hch.out i hi e

set_option maxHeartbeats 400000 in
theorem rPart_any (u v : Value) (a b : List Int) (w : World) (hu : Ints w u a) (hv : Ints w v b) :
    Calls Try.prog 18 #[u, v] w fun e w' => e = .returned (.bool (partB a b)) ∧ Qt w w' := by
  obtain ⟨ua, uc, rfl, hm, hidx, hcell, _⟩ := hu.out1 sInt
  have HV := Lib.hid hv
  clear hu hv
  go_enter Try.func18, Try.ntmps18
  go_wp2_with fail
  go_loopw [5] (fun i wr => ∃ k : Nat, k ≤ a.length ∧ i = .int .i64 k ∧ Qt w wr ∧ Hid (∀ i, i < k → nth a i ∈ b)) (fun i _ => a.length - (intOf i).toNat)
  case atStart => exact ⟨0, by omega, rfl, Qt.refl _, fun i hi => by omega⟩
  case round =>
    obtain ⟨k, hk, rfl, ⟨nw, rfl⟩, hch⟩ := hrel
    by_cases hlt : k < a.length
    · have hck := hcell k hlt
      go_wp2_with fail
      refine (rHas_any v b (nth a k) _ (HV.out.qt (Qt.drewN _ _))).mono ?_
      rintro e W1 ⟨rfl, n1, rfl⟩
      obtain ⟨c, hc⟩ : ∃ c, c = b.contains (nth a k) := ⟨_, rfl⟩
      rw [← hc]
      have HCn := Lib.hid hc
      clear hc
      cases c
      · go_wp2_with fail
        go_ret
        refine ⟨ret_bool ?_, (by first | exact Qt.refl _ | exact Qt.drewN _ _ | exact (Qt.drewN _ _).trans (Qt.drewN _ _) | exact ((Qt.drewN _ _).trans (Qt.drewN _ _)).trans (Qt.drewN _ _) | exact Qt.drew _ | exact (Qt.drewN _ _).trans (Qt.drew _))⟩
        symm
        rw [Bool.eq_false_iff]
        intro hh
        have h1 := (partB_iff _ _).1 hh k hlt
        rw [← List.contains_iff_mem, ← HCn.out] at h1
        cases h1
      · go_wp2_with fail
        go_roundw
        case rel => exact ⟨k + 1, by omega, by go_num, (by first | exact Qt.refl _ | exact Qt.drewN _ _ | exact (Qt.drewN _ _).trans (Qt.drewN _ _) | exact ((Qt.drewN _ _).trans (Qt.drewN _ _)).trans (Qt.drewN _ _) | exact Qt.drew _ | exact (Qt.drewN _ _).trans (Qt.drew _)), fun i hi => by
          by_cases e : i = k
          · subst e; exact List.contains_iff_mem.1 HCn.out.symm
          · exact hch.out i (by omega)⟩
        case measure => simp [intOf]; omega
    · obtain rfl : k = a.length := by omega
      go_wp2_with fail
      go_ret
      exact ⟨ret_bool ((partB_iff _ _).2 hch.out).symm, (by first | exact Qt.refl _ | exact Qt.drewN _ _ | exact (Qt.drewN _ _).trans (Qt.drewN _ _) | exact ((Qt.drewN _ _).trans (Qt.drewN _ _)).trans (Qt.drewN _ _) | exact Qt.drew _ | exact (Qt.drewN _ _).trans (Qt.drew _))⟩

end Go.Proofs.Ytkfhopnolflchaa
