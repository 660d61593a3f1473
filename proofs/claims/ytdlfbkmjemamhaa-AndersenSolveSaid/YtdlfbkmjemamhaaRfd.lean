/- Contract of the reference's sets. -/
import Derived.Test.YtdlfbkmjemamhaaRfc
namespace Go.And
open Go.Dfl (nth nth_mem mem_nth nth_eq)
/-- Whether lists are ascending lists of sites. -/
def setsB (ll : List (List Int)) (n : Int) : Bool := ll.all fun l => subB l n && ascB l
theorem setsB_iff (ll : List (List Int)) (n : Int) : setsB ll n = true ↔ ∀ i, i < ll.length → ∀ k, k < (nth ll i).length → (0 ≤ nth (nth ll i) k ∧ nth (nth ll i) k < n) ∧ (0 < k → nth (nth ll i) (k - 1) < nth (nth ll i) k) := by
  unfold setsB
  rw [List.all_eq_true]
  constructor
  · intro h i hi k hk
    have h1 := h _ (nth_mem _ _ hi)
    rw [Bool.and_eq_true] at h1
    refine ⟨(subB_iff _ _).1 h1.1 k hk, fun h0 => ?_⟩
    have h2 := (ascB_iff _).1 h1.2 (k - 1) (by omega)
    rwa [show k - 1 + 1 = k by omega] at h2
  · intro h l hl
    obtain ⟨i, hi, rfl⟩ := mem_nth hl
    rw [Bool.and_eq_true]
    refine ⟨(subB_iff _ _).2 fun k hk => (h i hi k hk).1, (ascB_iff _).2 fun k hk => ?_⟩
    have h2 := (h i hi (k + 1) hk).2 (by omega)
    rwa [show k + 1 - 1 = k by omega] at h2
end Go.And
namespace Go.Proofs.Ytdlfbkmjemamhaa
open Go.RowKit Go.Dfl Go.And

set_option maxHeartbeats 1600000 in
set_option maxRecDepth 100000 in
theorem rSets_any (u : Value) (us : List Value) (ll : List (List Int)) (n : Int) (w : World) (hu : Grid (Value.int .i64) w u us ll) :
    Calls Try.prog 28 #[u, .int .i64 n] w fun e w' => e = .returned (.bool (setsB ll n)) ∧ Qt w w' := by
  have HU := Lib.hid hu
  have hla := hu.2.1
  obtain ⟨ua, uc, rfl, hm, hui, huc, -⟩ := hu.1.out1 sInt2
  rw [hla] at hm hui huc ⊢
  have HUC := Lib.hid huc
  clear hu hla huc
  go_enter Try.func28, Try.ntmps28
  go_wp2_with fail
  go_loopw [5, 6] (fun x _ wr => ∃ k : Nat, k ≤ ll.length ∧ x = .int .i64 k ∧ Qt w wr ∧ Hid (∀ i, i < k → ∀ k, k < (nth ll i).length → (0 ≤ nth (nth ll i) k ∧ nth (nth ll i) k < n) ∧ (0 < k → nth (nth ll i) (k - 1) < nth (nth ll i) k))) (fun x _ _ => ll.length - (intOf x).toNat)
  case atStart => exact ⟨0, by omega, rfl, Qt.refl _, fun i hi => by omega⟩
  case round =>
    obtain ⟨k, hk, rfl, ⟨nw, rfl⟩, hch⟩ := hrel
    by_cases hlt : k < ll.length
    · have hca := HUC.out k hlt
      obtain ⟨xa, xc, hxa, hxm, hxi, hxc, -⟩ := (HU.out.2.2 k hlt).out1 sInt
      rw [hxa] at hca
      clear hxa
      obtain ⟨X, hX⟩ : ∃ X, X = nth ll k := ⟨_, rfl⟩
      rw [← hX] at hca hxm hxi hxc
      have HX := Lib.hid (And.intro hX hxc)
      clear hX hxc
      go_wp2_with fail
      go_loopw [6] (fun x wr => ∃ j : Nat, j ≤ X.length ∧ x = .int .i64 j ∧ Qt w wr ∧ Hid (∀ i, i < j → (0 ≤ nth X i ∧ nth X i < n) ∧ (0 < i → nth X (i - 1) < nth X i))) (fun x _ => X.length - (intOf x).toNat)
      case atStart => exact ⟨0, by omega, rfl, by exact (by first | exact Qt.refl _ | exact Qt.drewN _ _ | exact (Qt.drewN _ _).trans (Qt.drewN _ _) | exact ((Qt.drewN _ _).trans (Qt.drewN _ _)).trans (Qt.drewN _ _) | exact Qt.drew _ | exact (Qt.drewN _ _).trans (Qt.drew _)), fun i hi => by omega⟩
      case round =>
        obtain ⟨j, hj, rfl, ⟨nv, rfl⟩, hin⟩ := hrel
        by_cases hjl : j < X.length
        · have hcj := HX.out.2 j hjl
          have hcall : ∀ m, Calls Try.prog 47 #[.int .i64 (nth X j), .int .i64 n] (w.drewN m) fun e w' => e = .returned (.bool (amB (nth X j) n)) ∧ Qt (w.drewN m) w' := fun m => rAmong_any _ _ _
          obtain ⟨d, hd⟩ : ∃ d, d = amB (nth X j) n := ⟨_, rfl⟩
          rw [← hd] at hcall
          have HCall := Lib.hid hcall
          clear hcall
          cases d
          · have HD := Lib.hid (amB_f hd.symm)
            clear hd
            go_wp2_with fail
            go_quiet ((go_at_call 47; exact Qt.quiet2 (HCall.out _)))
            go_wp2_with fail
            go_ret
            refine ⟨ret_bool ?_, (by first | exact Qt.refl _ | exact Qt.drewN _ _ | exact (Qt.drewN _ _).trans (Qt.drewN _ _) | exact ((Qt.drewN _ _).trans (Qt.drewN _ _)).trans (Qt.drewN _ _) | exact Qt.drew _ | exact (Qt.drewN _ _).trans (Qt.drew _))⟩
            symm
            rw [Bool.eq_false_iff]
            intro hh
            have h1 := ((setsB_iff _ _).1 hh k hlt j (by rw [← HX.out.1]; exact hjl)).1
            rw [← HX.out.1] at h1
            have := HD.out
            omega
          · have HD := Lib.hid (amB_t hd.symm)
            clear hd
            by_cases h0 : j = 0
            · subst h0
              rw [Nat.add_zero] at hcj
              rw [show ((0 : Nat) : Int) = 0 from rfl]
              have hz : (0 : Int) < (X.length : Int) := by omega
              go_wp2_with fail
              go_quiet ((go_at_call 47; exact Qt.quiet2 (HCall.out _)))
              go_wp2_with fail
              go_roundw
              case rel => exact ⟨1, by omega, by go_num, (by first | exact Qt.refl _ | exact Qt.drewN _ _ | exact (Qt.drewN _ _).trans (Qt.drewN _ _) | exact ((Qt.drewN _ _).trans (Qt.drewN _ _)).trans (Qt.drewN _ _) | exact Qt.drew _ | exact (Qt.drewN _ _).trans (Qt.drew _)), fun i hi => by
                obtain rfl : i = 0 := by omega
                exact ⟨HD.out, fun h => by omega⟩⟩
              case measure => simp [intOf]; omega
            · obtain ⟨m, rfl⟩ : ∃ m, j = m + 1 := ⟨j - 1, by omega⟩
              have hck2 := HX.out.2 m (by omega)
              have hw : IntKind.i64.wrap (m : Int) = m := IntWalk.i64_in _ (by omega)
              have hm1 : (m : Int) < (X.length : Int) := by omega
              have hm2 : (m : Int) + 1 < (X.length : Int) := by omega
              have hm3 : (0 : Int) ≤ (m : Int) := by omega
              have hm4 : (0 : Int) ≤ (m : Int) + 1 := by omega
              have hm5 : ((m : Int) + 1).toNat = m + 1 := by omega
              have hm6 : (0 : Int) < (m : Int) + 1 := by omega
              by_cases h1 : nth X (m + 1) ≤ nth X m
              · have hd : decide (nth X (m + 1) ≤ nth X m) = true := by simpa using h1
                go_wp2_with fail
                go_quiet ((go_at_call 47; exact Qt.quiet2 (HCall.out _)))
                go_wp2_with fail
                go_ret
                refine ⟨ret_bool ?_, (by first | exact Qt.refl _ | exact Qt.drewN _ _ | exact (Qt.drewN _ _).trans (Qt.drewN _ _) | exact ((Qt.drewN _ _).trans (Qt.drewN _ _)).trans (Qt.drewN _ _) | exact Qt.drew _ | exact (Qt.drewN _ _).trans (Qt.drew _))⟩
                symm
                rw [Bool.eq_false_iff]
                intro hh
                have h2 := ((setsB_iff _ _).1 hh k hlt (m + 1) (by rw [← HX.out.1]; exact hjl)).2 (by omega)
                rw [← HX.out.1, show m + 1 - 1 = m by omega] at h2
                omega
              · have hd : decide (nth X (m + 1) ≤ nth X m) = false := by simpa using h1
                go_wp2_with fail
                go_quiet ((go_at_call 47; exact Qt.quiet2 (HCall.out _)))
                go_wp2_with fail
                go_roundw
                case rel => exact ⟨m + 2, by omega, by go_num, (by first | exact Qt.refl _ | exact Qt.drewN _ _ | exact (Qt.drewN _ _).trans (Qt.drewN _ _) | exact ((Qt.drewN _ _).trans (Qt.drewN _ _)).trans (Qt.drewN _ _) | exact Qt.drew _ | exact (Qt.drewN _ _).trans (Qt.drew _)), fun i hi => by
                  by_cases e : i = m + 1
                  · subst e; exact ⟨HD.out, fun _ => by rw [show m + 1 - 1 = m by omega]; omega⟩
                  · exact hin.out i (by omega)⟩
                case measure => simp [intOf]; omega
        · obtain rfl : j = X.length := by omega
          go_wp2_with fail
          go_roundw
          case rel => exact ⟨k + 1, by omega, by go_num, (by first | exact Qt.refl _ | exact Qt.drewN _ _ | exact (Qt.drewN _ _).trans (Qt.drewN _ _) | exact ((Qt.drewN _ _).trans (Qt.drewN _ _)).trans (Qt.drewN _ _) | exact Qt.drew _ | exact (Qt.drewN _ _).trans (Qt.drew _)), fun i hi => by
            by_cases e : i = k
            · subst e; rw [← HX.out.1]; exact hin.out
            · exact hch.out i (by omega)⟩
          case measure => simp [intOf]; omega
    · obtain rfl : k = ll.length := by omega
      go_wp2_with fail
      go_ret
      exact ⟨ret_bool ((setsB_iff _ _).2 hch.out).symm, (by first | exact Qt.refl _ | exact Qt.drewN _ _ | exact (Qt.drewN _ _).trans (Qt.drewN _ _) | exact ((Qt.drewN _ _).trans (Qt.drewN _ _)).trans (Qt.drewN _ _) | exact Qt.drew _ | exact (Qt.drewN _ _).trans (Qt.drew _))⟩
end Go.Proofs.Ytdlfbkmjemamhaa
