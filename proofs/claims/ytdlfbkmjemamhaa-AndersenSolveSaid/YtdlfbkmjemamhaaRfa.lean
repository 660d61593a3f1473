/- Contracts of the reference's among, Has, Part, lists. -/
import Derived.Test.YtdlfbkmjemamhaaDrv
namespace Go.And
open Go.Dfl (nth nth_mem mem_nth nth_eq)
def amB (x n : Int) : Bool := decide (0 ≤ x) && decide (x < n)
/-- Whether each of a is one of b. -/
def partB (a b : List Int) : Bool := a.all fun x => b.contains x
theorem partB_iff (a b : List Int) : partB a b = true ↔ ∀ i, i < a.length → nth a i ∈ b := by
  unfold partB
  simp only [List.all_eq_true, List.contains_iff_mem]
  exact ⟨fun h i hi => h _ (nth_mem _ _ hi), fun h x hx => by obtain ⟨i, hi, rfl⟩ := mem_nth hx; exact h i hi⟩
theorem winB_part (a b : List (List Int)) : winB a b = true ↔ a.length = b.length ∧ ∀ i, i < a.length → partB (nth a i) (nth b i) = true := by
  rw [winB_iff]
  refine and_congr_right fun _ => forall_congr' fun i => forall_congr' fun _ => ?_
  rw [partB_iff]
  exact ⟨fun h j hj => h _ (nth_mem _ _ hj), fun h x hx => by obtain ⟨j, hj, rfl⟩ := mem_nth hx; exact h j hj⟩
end Go.And
namespace Go.Proofs.Ytdlfbkmjemamhaa
open Go.RowKit Go.Dfl Go.And

set_option maxHeartbeats 400000 in
theorem rAmong_any (x n : Int) (w : World) :
    Calls Try.prog 47 #[.int .i64 x, .int .i64 n] w fun e w' => e = .returned (.bool (amB x n)) ∧ Qt w w' := by
  by_cases h1 : 0 ≤ x
  · by_cases h2 : x < n
    · go_enter Try.func47, Try.ntmps47
      go_wp2_with fail
      go_ret
      exact ⟨ret_bool (by simp [amB, h1, h2]), Qt.refl _⟩
    · go_enter Try.func47, Try.ntmps47
      go_wp2_with fail
      go_ret
      exact ⟨ret_bool (by simp [amB, h1, h2]), Qt.refl _⟩
  · go_enter Try.func47, Try.ntmps47
    go_wp2_with fail
    go_ret
    exact ⟨ret_bool (by simp [amB]; omega), Qt.refl _⟩

set_option maxHeartbeats 400000 in
theorem rHas_any (v : Value) (l : List Int) (x : Int) (w : World) (h : Ints w v l) :
    Calls Try.prog 48 #[v, .int .i64 x] w fun e w' => e = .returned (.bool (l.contains x)) ∧ Qt w w' := by
  obtain ⟨a, cap, rfl, hm, hidx, hcell, _⟩ := h.out1 sInt
  clear h
  go_enter Try.func48, Try.ntmps48
  go_wp2_with fail

  go_loopw [5] (fun i wr => ∃ k : Nat, k ≤ l.length ∧ i = .int .i64 k ∧ Qt w wr ∧ Hid (∀ i, i < k → nth l i ≠ x)) (fun i _ => l.length - (intOf i).toNat)
  case atStart => exact ⟨0, by omega, rfl, Qt.refl _, fun i hi => by omega⟩
  case round =>
    obtain ⟨k, hk, rfl, ⟨nw, rfl⟩, hch⟩ := hrel
    by_cases hlt : k < l.length
    · have hck := hcell k hlt
      by_cases h1 : nth l k = x
      · have hd : (nth l k == x) = true := by simpa using h1
        have HX := Lib.hid h1
        clear h1
        go_wp2_with fail
        go_ret
        exact ⟨ret_bool (by symm; rw [List.contains_iff_mem, ← HX.out]; exact nth_mem _ _ hlt), (by first | exact Qt.refl _ | exact Qt.drewN _ _ | exact (Qt.drewN _ _).trans (Qt.drewN _ _) | exact ((Qt.drewN _ _).trans (Qt.drewN _ _)).trans (Qt.drewN _ _) | exact Qt.drew _ | exact (Qt.drewN _ _).trans (Qt.drew _))⟩
      · have hd : (nth l k == x) = false := by simpa using h1
        have HX := Lib.hid h1
        clear h1
        go_wp2_with fail
        go_roundw
        case rel => exact ⟨k + 1, by omega, by go_num, (by first | exact Qt.refl _ | exact Qt.drewN _ _ | exact (Qt.drewN _ _).trans (Qt.drewN _ _) | exact ((Qt.drewN _ _).trans (Qt.drewN _ _)).trans (Qt.drewN _ _) | exact Qt.drew _ | exact (Qt.drewN _ _).trans (Qt.drew _)), fun i hi => by
          by_cases e : i = k
          · subst e; exact HX.out
          · exact hch.out i (by omega)⟩
        case measure => simp [intOf]; omega
    · obtain rfl : k = l.length := by omega
      go_wp2_with fail
      go_ret
      refine ⟨ret_bool ?_, (by first | exact Qt.refl _ | exact Qt.drewN _ _ | exact (Qt.drewN _ _).trans (Qt.drewN _ _) | exact ((Qt.drewN _ _).trans (Qt.drewN _ _)).trans (Qt.drewN _ _) | exact Qt.drew _ | exact (Qt.drewN _ _).trans (Qt.drew _))⟩
      symm
      rw [Bool.eq_false_iff]
      intro hh
      rw [List.contains_iff_mem] at hh
      obtain ⟨i, hi, e⟩ := mem_nth hh
      exact hch.out i hi e

set_option maxHeartbeats 400000 in
theorem rPart_any (u v : Value) (a b : List Int) (w : World) (hu : Ints w u a) (hv : Ints w v b) :
    Calls Try.prog 49 #[u, v] w fun e w' => e = .returned (.bool (partB a b)) ∧ Qt w w' := by
  obtain ⟨ua, uc, rfl, hm, hidx, hcell, _⟩ := hu.out1 sInt
  have HV := Lib.hid hv
  clear hu hv
  go_enter Try.func49, Try.ntmps49
  go_wp2_with fail
  go_loopw [5] (fun i wr => ∃ k : Nat, k ≤ a.length ∧ i = .int .i64 k ∧ Qt w wr ∧ Hid (∀ i, i < k → nth a i ∈ b)) (fun i _ => a.length - (intOf i).toNat)
  case atStart => exact ⟨0, by omega, rfl, Qt.refl _, fun i hi => by omega⟩
  case round =>
    obtain ⟨k, hk, rfl, ⟨nw, rfl⟩, hch⟩ := hrel
    by_cases hlt : k < a.length
    · have hck := hcell k hlt
      go_wp2_with fail
      refine (rHas_any v b (nth a k) _ (HV.out.qt (Qt.drewN _ _))).mono ?_
      rintro e W1 ⟨rfl, n1, rfl⟩
      obtain ⟨c, hc⟩ : ∃ c, c = b.contains (nth a k) := ⟨_, rfl⟩
      rw [← hc]
      have HCn := Lib.hid hc
      clear hc
      cases c
      · go_wp2_with fail
        go_ret
        refine ⟨ret_bool ?_, (by first | exact Qt.refl _ | exact Qt.drewN _ _ | exact (Qt.drewN _ _).trans (Qt.drewN _ _) | exact ((Qt.drewN _ _).trans (Qt.drewN _ _)).trans (Qt.drewN _ _) | exact Qt.drew _ | exact (Qt.drewN _ _).trans (Qt.drew _))⟩
        symm
        rw [Bool.eq_false_iff]
        intro hh
        have h1 := (partB_iff _ _).1 hh k hlt
        rw [← List.contains_iff_mem, ← HCn.out] at h1
        cases h1
      · go_wp2_with fail
        go_roundw
        case rel => exact ⟨k + 1, by omega, by go_num, (by first | exact Qt.refl _ | exact Qt.drewN _ _ | exact (Qt.drewN _ _).trans (Qt.drewN _ _) | exact ((Qt.drewN _ _).trans (Qt.drewN _ _)).trans (Qt.drewN _ _) | exact Qt.drew _ | exact (Qt.drewN _ _).trans (Qt.drew _)), fun i hi => by
          by_cases e : i = k
          · subst e; exact List.contains_iff_mem.1 HCn.out.symm
          · exact hch.out i (by omega)⟩
        case measure => simp [intOf]; omega
    · obtain rfl : k = a.length := by omega
      go_wp2_with fail
      go_ret
      exact ⟨ret_bool ((partB_iff _ _).2 hch.out).symm, (by first | exact Qt.refl _ | exact Qt.drewN _ _ | exact (Qt.drewN _ _).trans (Qt.drewN _ _) | exact ((Qt.drewN _ _).trans (Qt.drewN _ _)).trans (Qt.drewN _ _) | exact Qt.drew _ | exact (Qt.drewN _ _).trans (Qt.drew _))⟩

set_option maxHeartbeats 800000 in
theorem rLists_any (u v : Value) (us vs : List Value) (a b : List (List Int)) (w : World) (hu : Grid (Value.int .i64) w u us a) (hv : Grid (Value.int .i64) w v vs b) :
    Calls Try.prog 35 #[u, v] w fun e w' => e = .returned (.bool (winB a b)) ∧ Qt w w' := by
  have HU := Lib.hid (And.intro hu hv)
  have hla := hu.2.1
  have hlb := hv.2.1
  obtain ⟨ua, uc, rfl, hm, hui, huc, -⟩ := hu.1.out1 sInt2
  obtain ⟨va, vc, rfl, hm', hvi, hvc, -⟩ := hv.1.out1 sInt2
  rw [hla] at hm hui huc ⊢
  rw [hlb] at hm' hvi hvc ⊢
  clear hu hv hla hlb
  by_cases hlen : a.length = b.length
  · have hd : ((a.length : Int) != (b.length : Int)) = false := by simp; omega
    have Hlen := Lib.hid hlen
    have hle : a.length ≤ b.length := by omega
    clear hlen
    go_enter Try.func35, Try.ntmps35
    go_wp2_with fail
    go_loopw [5] (fun i wr => ∃ k : Nat, k ≤ a.length ∧ i = .int .i64 k ∧ Qt w wr ∧ Hid (∀ i, i < k → partB (nth a i) (nth b i) = true)) (fun i _ => a.length - (intOf i).toNat)
    case atStart => exact ⟨0, by omega, rfl, by exact (by first | exact Qt.refl _ | exact Qt.drewN _ _ | exact (Qt.drewN _ _).trans (Qt.drewN _ _) | exact ((Qt.drewN _ _).trans (Qt.drewN _ _)).trans (Qt.drewN _ _) | exact Qt.drew _ | exact (Qt.drewN _ _).trans (Qt.drew _)), fun i hi => by omega⟩
    case round =>
      obtain ⟨k, hk, rfl, ⟨nw, rfl⟩, hch⟩ := hrel
      by_cases hlt : k < a.length
      · have hkb : (k : Int) < (b.length : Int) := by omega
        have hca := huc k hlt
        have hcb := hvc k (by omega)
        have hcall : ∀ n, Calls Try.prog 49 #[nth us k, nth vs k] (w.drewN n) fun e w' => e = .returned (.bool (partB (nth a k) (nth b k))) ∧ Qt (w.drewN n) w' := fun n => rPart_any _ _ _ _ _ ((HU.out.1.2.2 k hlt).qt (Qt.drewN _ _)) ((HU.out.2.2.2 k (by omega)).qt (Qt.drewN _ _))
        obtain ⟨c, hc⟩ : ∃ c, c = partB (nth a k) (nth b k) := ⟨_, rfl⟩
        rw [← hc] at hcall
        have HCall := Lib.hid hcall
        have HCn := Lib.hid hc
        clear hc hcall
        cases c
        · go_wp2_with fail
          go_quiet ((go_at_call 49; exact Qt.quiet2 (HCall.out _)))
          go_wp2_with fail
          go_ret
          refine ⟨ret_bool ?_, (by first | exact Qt.refl _ | exact Qt.drewN _ _ | exact (Qt.drewN _ _).trans (Qt.drewN _ _) | exact ((Qt.drewN _ _).trans (Qt.drewN _ _)).trans (Qt.drewN _ _) | exact Qt.drew _ | exact (Qt.drewN _ _).trans (Qt.drew _))⟩
          symm
          rw [Bool.eq_false_iff]
          intro hh
          have h1 := ((winB_part _ _).1 hh).2 k hlt
          rw [← HCn.out] at h1
          cases h1
        · go_wp2_with fail
          go_quiet ((go_at_call 49; exact Qt.quiet2 (HCall.out _)))
          go_wp2_with fail
          go_roundw
          case rel => exact ⟨k + 1, by omega, by go_num, (by first | exact Qt.refl _ | exact Qt.drewN _ _ | exact (Qt.drewN _ _).trans (Qt.drewN _ _) | exact ((Qt.drewN _ _).trans (Qt.drewN _ _)).trans (Qt.drewN _ _) | exact Qt.drew _ | exact (Qt.drewN _ _).trans (Qt.drew _)), fun i hi => by
            by_cases e : i = k
            · subst e; exact HCn.out.symm
            · exact hch.out i (by omega)⟩
          case measure => simp [intOf]; omega
      · obtain rfl : k = a.length := by omega
        go_wp2_with fail
        go_ret
        exact ⟨ret_bool ((winB_part _ _).2 ⟨Hlen.out, hch.out⟩).symm, (by first | exact Qt.refl _ | exact Qt.drewN _ _ | exact (Qt.drewN _ _).trans (Qt.drewN _ _) | exact ((Qt.drewN _ _).trans (Qt.drewN _ _)).trans (Qt.drewN _ _) | exact Qt.drew _ | exact (Qt.drewN _ _).trans (Qt.drew _))⟩
  · have hd : ((a.length : Int) != (b.length : Int)) = true := by simp; omega
    have Hlen := Lib.hid hlen
    clear hlen
    go_enter Try.func35, Try.ntmps35
    go_wp2_with fail
    go_ret
    refine ⟨ret_bool ?_, (by first | exact Qt.refl _ | exact Qt.drewN _ _ | exact (Qt.drewN _ _).trans (Qt.drewN _ _) | exact ((Qt.drewN _ _).trans (Qt.drewN _ _)).trans (Qt.drewN _ _) | exact Qt.drew _ | exact (Qt.drewN _ _).trans (Qt.drew _))⟩
    symm
    rw [Bool.eq_false_iff]
    intro hh
    exact Hlen.out ((winB_part _ _).1 hh).1

set_option maxHeartbeats 1600000 in
theorem rWithin_any (u1 u2 v1 v2 : Value) (a1 a2 b1 b2 : List (List Int)) (W : World) (hu : PtsIn W u1 u2 a1 a2) (hv : PtsIn W v1 v2 b1 b2) :
    Calls Try.prog 17 #[.agg #[u1, u2], .agg #[v1, v2]] W fun e W' => e = .returned (.bool (winB a1 b1 && winB a2 b2)) ∧ Below W.heap.size W W' := by
  obtain ⟨⟨us1, hu1⟩, us2, hu2⟩ := hu
  obtain ⟨⟨vs1, hv1⟩, vs2, hv2⟩ := hv
  have hb0 : Below W.heap.size W _ := ((Below.refl W.heap.size W).alloc (Nat.le_refl _) (.cells #[u1, u2] 29)).alloc (by simp) (.cells #[v1, v2] 29)
  have HB := Lib.hid hb0
  have HU := Lib.hid (And.intro hu1 (And.intro hu2 (And.intro hv1 hv2)))
  obtain ⟨ua1, uc1, e1, -⟩ := hu1.1.out1 sInt2
  obtain ⟨ua2, uc2, e2, -⟩ := hu2.1.out1 sInt2
  obtain ⟨va1, vc1, e3, -⟩ := hv1.1.out1 sInt2
  obtain ⟨va2, vc2, e4, -⟩ := hv2.1.out1 sInt2
  subst e1 e2 e3 e4
  clear hu1 hu2 hv1 hv2 hb0
  go_enter Try.func17, Try.ntmps17
  go_wp2_with fail
  refine (rLists_any _ _ us1 vs1 a1 b1 _ (HU.out.1.below HB.out) (HU.out.2.2.1.below HB.out)).mono ?_
  rintro e W1 ⟨rfl, n1, rfl⟩
  cases hw : winB a1 b1
  · go_wp2_with fail
    go_ret
    exact ⟨ret_bool (by simp [hw]), below_drewN HB.out _⟩
  · go_wp2_with fail
    refine (rLists_any _ _ us2 vs2 a2 b2 _ ((HU.out.2.1.below HB.out).qt (Qt.drewN _ _)) ((HU.out.2.2.2.below HB.out).qt (Qt.drewN _ _))).mono ?_
    rintro e W2 ⟨rfl, n2, rfl⟩
    go_wp2_with fail
    go_ret
    exact ⟨ret_bool (by simp [hw]), below_drewN HB.out _⟩
end Go.Proofs.Ytdlfbkmjemamhaa
