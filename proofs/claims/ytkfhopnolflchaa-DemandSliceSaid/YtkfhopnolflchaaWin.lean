/- Contracts of within, Within. -/
import Derived.Test.YtkfhopnolflchaaSysM
import Derived.Test.YtkfhopnolflchaaGa
namespace Go.And
open Go.Dfl (nth nth_mem mem_nth nth_eq)
def winB (a b : List (List Int)) : Bool := decide (a.length = b.length) && (List.range a.length).all fun i => (nth a i).all fun x => (nth b i).contains x
theorem winB_iff (a b : List (List Int)) : winB a b = true ↔ a.length = b.length ∧ ∀ i, i < a.length → ∀ x ∈ nth a i, x ∈ nth b i := by
  unfold winB
  simp [List.all_eq_true]
def InR (ll : List (List Int)) : Prop := ∀ i, i < ll.length → ∀ x ∈ nth ll i, -9223372036854775808 ≤ x ∧ x ≤ 9223372036854775807
end Go.And
namespace Go.Proofs.Ytkfhopnolflchaa
open Go.RowKit Go.Dfl Go.And Go.Maps

theorem zeroBool' (w : World) : (zeroValue 4).run Try.prog w = .ok (.bool false) w := by kernel_rfl
theorem intKeyed : Keyed Try.prog 3 := int_keyed Try.underlying3

set_option maxHeartbeats 3200000 in
set_option maxRecDepth 100000 in
theorem within_any (u v : Value) (us vs : List Value) (a b : List (List Int)) (W : World) (hu : Grid (Value.int .i64) W u us a) (hv : Grid (Value.int .i64) W v vs b) (ra : InR a) (rb : InR b) (la : ∀ i, i < b.length → (nth b i).length ≤ 1000000) :
    Calls Try.prog 32 #[u, v] W fun e W' => e = .returned (.bool (winB a b)) ∧ Below W.heap.size W W' := by
  have HU := Lib.hid (And.intro hu (And.intro hv (And.intro ra (And.intro rb la))))
  have hla := hu.2.1
  have hlb := hv.2.1
  obtain ⟨ua, uc, rfl, hm, hui, huc, hub⟩ := hu.1.out1 sInt2
  obtain ⟨va, vc, rfl, hm', hvi, hvc, hvb⟩ := hv.1.out1 sInt2
  rw [hla] at hm hui huc hub ⊢
  rw [hlb] at hm' hvi hvc hvb ⊢
  have HC := Lib.hid (And.intro huc (And.intro hub (And.intro hvc hvb)))
  clear huc hub hvc hvb hu hv ra rb la hla hlb
  have hmm := @run_makeMap Try.prog
  by_cases hlen : a.length = b.length
  · have hd : ((a.length : Int) != (b.length : Int)) = false := by simp; omega
    have Hlen := Lib.hid hlen
    have hle : a.length ≤ b.length := by omega
    clear hlen
    go_enter Try.func32, Try.ntmps32
    go_wp2_with fail
    go_loopw [5, 6, 7, 9, 11, 19] (fun _ _ _ _ _ x wr => ∃ k : Nat, k ≤ a.length ∧ x = .int .i64 k ∧ Hid (Below W.heap.size W wr ∧ ∀ i, i < k → ∀ x ∈ nth a i, x ∈ nth b i)) (fun _ _ _ _ _ x _ => a.length - (intOf x).toNat)
    case atStart => exact ⟨0, by omega, rfl, Below.refl _ _, fun i hi => by omega⟩
    case round =>
      obtain ⟨k, hk, rfl, hh⟩ := hrel
      by_cases hlt : k < a.length
      · have hkb : k < b.length := by omega
        have hbu := hh.out.1
        have hca : wr.cell? ⟨blk ua, ofs ua + k, none⟩ = some (nth us k) := by rw [hbu.cell (p := ⟨blk ua, ofs ua + k, none⟩) (HC.out.2.1 k hlt)]; exact HC.out.1 k hlt
        have hcb : wr.cell? ⟨blk va, ofs va + k, none⟩ = some (nth vs k) := by rw [hbu.cell (p := ⟨blk va, ofs va + k, none⟩) (HC.out.2.2.2 k (by omega))]; exact HC.out.2.2.1 k (by omega)
        obtain ⟨xa, xc, hxa, hxm, hxi, hxc, hxb⟩ := (HU.out.1.2.2 k hlt).out1 sInt
        obtain ⟨ya, yc, hya, hym, hyi, hyc, hyb⟩ := (HU.out.2.1.2.2 k (by omega)).out1 sInt
        rw [hxa] at hca
        rw [hya] at hcb
        have hyl := HU.out.2.2.2.2 k (by omega)
        have hxr := HU.out.2.2.1 k hlt
        have hyr := HU.out.2.2.2.1 k (by omega)
        have HX := Lib.hid (And.intro hxc (And.intro hxb (And.intro hyc (And.intro hyb (And.intro hxr (And.intro hyr hyl))))))
        clear hxa hya hxc hxb hyc hyb hbu hxr hyr hyl
        obtain ⟨X, hX⟩ : ∃ X, X = nth a k := ⟨_, rfl⟩
        obtain ⟨Y, hY⟩ : ∃ Y, Y = nth b k := ⟨_, rfl⟩
        rw [← hX] at hca hxm hxi HX
        rw [← hY] at hcb hym hyi HX
        have HXY := Lib.hid (And.intro hX hY)
        clear hX hY
        by_cases h0 : X.length = 0
        · rw [h0] at hca
          go_wp2_with fail
          go_roundw
          case rel => exact ⟨k + 1, by omega, by go_num, hh.out.1, fun i hi x hx => by
            by_cases e : i = k
            · subst e
              rw [← HXY.out.1, List.length_eq_zero_iff.1 h0] at hx
              cases hx
            · exact hh.out.2 i (by omega) x hx⟩
          case measure => simp [intOf]; omega
        · have hz : ((X.length : Int) == 0) = false := by rw [beq_eq_false_iff_ne]; omega
          have hsz := hh.out.1.size
          have hva : blk va < wr.heap.size := Nat.lt_of_lt_of_le (HC.out.2.2.2 k (by omega)) hsz
          have hvn : blk va ≠ wr.heap.size := by omega
          go_wp2_with fail
          refine wp_gen (fun Z => SetM Try.prog 3 4 Z wr.heap.size 0 [] ∧ Below W.heap.size W Z) ⟨SetM.made _ _ _ _ rfl, hh.out.1.alloc hsz _⟩ ?_
          rintro W1 hW1
          obtain ⟨mb, hmb⟩ : ∃ mb, mb = wr.heap.size := ⟨_, rfl⟩
          rw [← hmb] at hW1 ⊢
          have hmb2 : W.heap.size ≤ mb := by omega
          have H1 := Lib.hid hW1
          clear hW1 hmb hca hcb
          go_loopw [9, 33] (fun _ x wr2 => ∃ (j : Nat), j ≤ Y.length ∧ x = .int .i64 j ∧ Hid (SetM Try.prog 3 4 wr2 mb j ((Y.take j).map (Value.int .i64)).reverse ∧ Below W.heap.size W wr2)) (fun _ x _ => Y.length - (intOf x).toNat)
          case atStart => exact ⟨0, by omega, rfl, H1.out⟩
          case round =>
            obtain ⟨j, hj, rfl, hs⟩ := hrel
            by_cases hlt2 : j < Y.length
            · have hcy : wr.cell? ⟨blk ya, ofs ya + j, none⟩ = some (.int .i64 (nth Y j)) := by rw [hs.out.2.cell (p := ⟨blk ya, ofs ya + j, none⟩) (HX.out.2.2.2.1 j hlt2)]; exact HX.out.2.2.1 j hlt2
              have hyr := HX.out.2.2.2.2.2.1 (nth Y j) (nth_mem _ _ hlt2)
              have hkey := keyOf_int_mk (P := Try.prog) (k := 3) (q := .i64) Try.underlying3 (a := nth Y j) (WalkArith.wf_i64 (by omega))
              have hyt : ((Y.take (j + 1)).map (Value.int .i64)).reverse = .int .i64 (nth Y j) :: ((Y.take j).map (Value.int .i64)).reverse := by rw [take_snoc _ _ hlt2]; simp
              have HY := Lib.hid (And.intro hkey hyt)
              have hjl : j < maxLen := by have := HX.out.2.2.2.2.2.2; unfold maxLen; omega
              clear hkey hyt hyr
              go_wp2_with (at_mapUpdate; refine wp_mapPut (t := 86) hs.out.1 rfl _ _ _ rfl intKeyed Try.underlying86 Try.underlying4 rfl rfl hjl _ _ rfl HY.out.1 ?_; intro W7 set7 g7)
              have b7 := hs.out.2.grown g7 hs.out.2.size (fun q hq => by simp at hq; omega)
              have H7 := Lib.hid (And.intro set7 b7)
              clear set7 b7 g7
              go_wp2_with fail
              go_roundw
              case rel => exact ⟨j + 1, by omega, by go_num, by rw [HY.out.2]; exact H7.out.1, H7.out.2⟩
              case measure => simp [intOf]; omega
            · obtain rfl : j = Y.length := by omega
              have hset := hs.out.1
              rw [List.take_length] at hset
              have H2 := Lib.hid (And.intro hset hs.out.2)
              clear hset hs hj hlt2
              go_wp2_with fail
              go_loop [11, 42] (fun _ x => ∃ (j : Nat), j ≤ X.length ∧ x = .int .i64 j ∧ Hid (∀ i, i < j → nth X i ∈ Y)) (fun _ x => X.length - (intOf x).toNat)
              case atStart => exact ⟨0, by omega, rfl, fun i hi => by omega⟩
              case round =>
                obtain ⟨j, hj, rfl, hs⟩ := hrel
                by_cases hlt2 : j < X.length
                · have hcx : wr.cell? ⟨blk xa, ofs xa + j, none⟩ = some (.int .i64 (nth X j)) := by rw [H2.out.2.cell (p := ⟨blk xa, ofs xa + j, none⟩) (HX.out.2.1 j hlt2)]; exact HX.out.1 j hlt2
                  have hxr := HX.out.2.2.2.2.1 (nth X j) (nth_mem _ _ hlt2)
                  have hkey := keyOf_int_mk (P := Try.prog) (k := 3) (q := .i64) Try.underlying3 (a := nth X j) (WalkArith.wf_i64 (by omega))
                  obtain ⟨x, hlook, hx⟩ := H2.out.1.look intKeyed Try.underlying86 Try.underlying4 (zeroBool' _) hkey
                  have hx' : x = true ↔ nth X j ∈ Y := by rw [hx]; simp
                  have HK := Lib.hid hx'
                  clear hx hx' hkey hxr
                  cases x
                  · go_wp2_with fail
                    go_ret
                    refine ⟨ret_bool ?_, H2.out.2⟩
                    symm
                    rw [Bool.eq_false_iff]
                    intro hw
                    have hw2 := ((winB_iff _ _).1 hw).2 k (by omega) (nth X j) (by rw [← HXY.out.1]; exact nth_mem _ _ hlt2)
                    rw [← HXY.out.2] at hw2
                    have := HK.out.2 hw2
                    cases this
                  · go_wp2_with fail
                    go_round
                    case rel => exact ⟨j + 1, by omega, by go_num, fun i hi => by
                      by_cases e : i = j
                      · subst e; exact HK.out.1 rfl
                      · exact hs.out i (by omega)⟩
                    case measure => simp [intOf]; omega
                · have HE := Lib.hid (fun i (hi : i < X.length) => hs.out i (by omega))
                  clear hs
                  go_wp2_with fail
                  go_roundw
                  case rel => exact ⟨k + 1, by omega, by go_num, H2.out.2, fun i hi x hx => by
                    by_cases e : i = k
                    · subst e
                      rw [← HXY.out.1] at hx
                      rw [← HXY.out.2]
                      obtain ⟨q, hq, rfl⟩ := mem_nth hx
                      exact HE.out q hq
                    · exact hh.out.2 i (by omega) x hx⟩
                  case measure => simp [intOf]; omega
      · have HE := Lib.hid hh.out
        clear hh
        go_wp2_with fail
        go_ret
        exact ⟨ret_bool ((winB_iff _ _).2 ⟨Hlen.out, fun i hi => HE.out.2 i (by omega)⟩).symm, HE.out.1⟩
  · have hd : ((a.length : Int) != (b.length : Int)) = true := by simp; omega
    go_enter Try.func32, Try.ntmps32
    go_wp2_with fail
    go_ret
    refine ⟨ret_bool ?_, Below.refl _ _⟩
    symm
    rw [Bool.eq_false_iff]
    intro hw
    exact hlen ((winB_iff _ _).1 hw).1
end Go.Proofs.Ytkfhopnolflchaa
