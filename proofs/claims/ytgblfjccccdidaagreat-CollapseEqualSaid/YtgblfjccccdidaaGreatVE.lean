/- CollapseEqual: for any system with at most 24 variables, 6 sites and 3 fields, cycle elimination returns exactly the least solution, and so does the reduced system, expanded. Conditions: none. -/
import Derived.WalkKit
import Derived.Lib.Hide
import Derived.WalkSpells
import Derived.Deep.QuietTactic
import Derived.BigQuiet
import Derived.WalkLawsBesides
import Derived.ChangeKeysEq
import Derived.StillTailTactics
import Derived.Test.YtgblfjccccdidaaGreatRows
import Derived.Laws.CopyOwn
import Derived.Deep.AppendLies
import Derived.Deep.RegionHeld3
import Derived.StillTail
import Derived.OrdersHeld
import Derived.Maps.OwnSet
import Derived.DeepKeys4
import Derived.OneCell
import Derived.Laws.EntriesVeiled
import Derived.Deep.LoopGhost
import Derived.Laws.ResultCell
import Derived.Shelf.SlSortCmp.Whole1
import Derived.Shelf.SlicesE.DeleteFunc
import Derived.Deep.RegionLaw
import Derived.Shelf.SlSortCmp.NoneTotal
import Derived.Shelf.SlSortCmp.WholeK
import Derived.Shelf.SlSorted.Search
import Derived.Shelf.SlicesE.Clone
import Derived.Test.YtgblfjccccdidaaGreatProg
import Derived.Sort.Grow
import Derived.Laws.StructEq
import Derived.Lib.SliceRun
import Derived.Shelf.SlicesE.Kit
import Derived.RangeFuncNested
import Derived.RangeFuncWrites
import Derived.RangeFuncBound
import Derived.RangeFuncCalls
import Derived.RangeFuncLeaves
import Derived.Shelf.Abstract
import Derived.Shelf.RegionOpen
import Derived.OwnWalkIn
import Derived.TacticsInMore
import Derived.LoopNIn
import Derived.LoopIn
import Derived.RegionIn
import Derived.Maps.OwnIn
import Derived.Sort.CutIn
import Derived.Maps.AppendAt
import Derived.Deep.Cut
import Derived.ProofKit
import Derived.OpenShut
import Derived.ShutString
import Derived.ChangeOld
import Derived.Deep.SlicePairs
import Derived.Deep.Slices
import Derived.Test.YtgblfjccccdidaaGreatVb
section
namespace Go.Dfl
open Go.RowKit
end Go.Dfl
namespace Go.Proofs.YtgblfjccccdidaaGreat
open Go.RowKit Go.Dfl
def hasI (b : List Nat) (x : Int) : Bool := decide (0 ≤ x) && hasN b x.toNat
set_option maxHeartbeats 400000 in
theorem Has_any (v : Value) (b : List Nat) (x : Int) (w : World) (h : Words w v b) (hb : Wds b) (hx2 : x ≤ 9223372036854775807) :
  Calls Tryz.prog 97 #[v, .int .i64 x] w fun e w' => e = .returned (.bool (hasI b x)) ∧ Qt w w' := by
 have hI := h
 obtain ⟨a, cap, rfl, hm, -⟩ := h.out1 sBits
 have HB := Lib.hid hb
 clear h hb
 by_cases hx : 0 ≤ x
 ·obtain ⟨m, rfl⟩ := Int.eq_ofNat_of_zero_le hx
  go_enter Tryz.func97, Tryz.ntmps97
  go_wp2_with fail
  refine (word_any _ b _ _ hI (by omega)).mono ?_; rintro e w' ⟨rfl, n1, rfl⟩
  go_wp2_with fail
  go_ret
  exact ⟨ret_bool (by
   rw [bit_eq _ _ (HB.out _)]
   simp [hasI, hasN]), (by first | exact Qt.refl _ | exact Qt.drewN _ _ | exact (Qt.drewN _ _).trans (Qt.drewN _ _) | exact ((Qt.drewN _ _).trans (Qt.drewN _ _)).trans (Qt.drewN _ _) | exact Qt.drew _ | exact (Qt.drewN _ _).trans (Qt.drew _))⟩
 ·have hx' : decide (0 ≤ x) = false := by simpa using hx
  go_enter Tryz.func97, Tryz.ntmps97
  go_wp2
  go_ret
  exact ⟨ret_bool (by simp [hasI, hx']), Qt.refl _⟩
end Go.Proofs.YtgblfjccccdidaaGreat
namespace Go.Proofs.YtgblfjccccdidaaGreat
open Go.RowKit Go.Dfl
end Go.Proofs.YtgblfjccccdidaaGreat
namespace Go.Proofs.YtgblfjccccdidaaGreat
open Go.RowKit Go.Dfl
end Go.Proofs.YtgblfjccccdidaaGreat
namespace Go.Proofs.YtgblfjccccdidaaGreat
open Go.RowKit Go.Dfl
end Go.Proofs.YtgblfjccccdidaaGreat
namespace Go.Proofs.YtgblfjccccdidaaGreat
open Go.RowKit Go.Dfl
end Go.Proofs.YtgblfjccccdidaaGreat
namespace Go.Proofs.YtgblfjccccdidaaGreat
open Go.RowKit Go.Dfl
end Go.Proofs.YtgblfjccccdidaaGreat
namespace Go.Proofs.YtgblfjccccdidaaGreat
open Go.RowKit Go.Dfl
end Go.Proofs.YtgblfjccccdidaaGreat
end
section
namespace Go.Dfl
end Go.Dfl
namespace Go.Proofs.YtgblfjccccdidaaGreat
open Go.RowKit Go.Dfl Go.And
section
variable {rl rl' : Nat → Nat} {X : Nat} {W W' : World} {row : Option Nat}
theorem IsS.ext {v : Value} {p q : Nat → Bool} (h : IsS rl W v p) (he : ∀ x, p x = q x) : IsS rl W v q := by
 have : p = q := funext he
 subst this; exact h
end
section
variable {S : Syst} {w0 : World} {sv : Nat} {rl rl' : Nat → Nat} {V : Vals} {st : St} {W W' : World} {row : Option Nat} {X : Nat}
end
end Go.Proofs.YtgblfjccccdidaaGreat
end
section
namespace Go.Dfl
open Go.RowKit
def shut : List Nat → World → World
 | [], W => W
 | D :: Ds, W => shut Ds (W.putObj D (.deferred none))
end Go.Dfl
namespace Go.Dfl
open Go.RowKit
end Go.Dfl
end
section
namespace Go.And
open Go.Dfl (nth nth_mem mem_nth nth_eq)
end Go.And
namespace Go.Proofs.YtgblfjccccdidaaGreat
open Go.RowKit Go.Dfl Go.And Go.Maps
theorem zeroBool' (w : World) : (zeroValue 4).run Tryz.prog w = .ok (.bool false) w := by kernel_rfl
theorem intKeyed : Keyed Tryz.prog 3 := int_keyed Tryz.underlying3
set_option maxHeartbeats 3200000 in
set_option maxRecDepth 100000 in
theorem within_any (u v : Value) (us vs : List Value) (a b : List (List Int)) (W : World) (hu : Grid (Value.int .i64) W u us a) (hv : Grid (Value.int .i64) W v vs b) (ra : InR a) (rb : InR b) (la : ∀ i, i < b.length → (nth b i).length ≤ 1000000) :
  Calls Tryz.prog 44 #[u, v] W fun e W' => e = .returned (.bool (winB a b)) ∧ Below W.heap.size W W' := by
 have HU := Lib.hid (And.intro hu (And.intro hv (And.intro ra (And.intro rb la))))
 have hla := hu.2.1
 have hlb := hv.2.1
 obtain ⟨ua, uc, rfl, hm, hui, huc, hub⟩ := hu.1.out1 sInt2
 obtain ⟨va, vc, rfl, hm', hvi, hvc, hvb⟩ := hv.1.out1 sInt2
 rw [hla] at hm hui huc hub ⊢
 rw [hlb] at hm' hvi hvc hvb ⊢
 have HC := Lib.hid (And.intro huc (And.intro hub (And.intro hvc hvb)))
 clear huc hub hvc hvb hu hv ra rb la hla hlb
 have hmm := @run_makeMap Tryz.prog
 by_cases hlen : a.length = b.length
 ·have hd : ((a.length : Int) != (b.length : Int)) = false := by simp; omega
  have Hlen := Lib.hid hlen
  have hle : a.length ≤ b.length := by omega
  clear hlen
  go_enter Tryz.func44, Tryz.ntmps44
  go_wp2_with fail
  go_loopw [5, 6, 7, 9, 11, 19] (fun _ _ _ _ _ x wr => ∃ k : Nat, k ≤ a.length ∧ x = .int .i64 k ∧ Hid (Below W.heap.size W wr ∧ ∀ i, i < k → ∀ x ∈ nth a i, x ∈ nth b i)) (fun _ _ _ _ _ x _ => a.length - (intOf x).toNat)
  case atStart => exact ⟨0, by omega, rfl, Below.refl _ _, fun i hi => by omega⟩
  case round =>
   obtain ⟨k, hk, rfl, hh⟩ := hrel
   by_cases hlt : k < a.length
   ·have hkb : k < b.length := by omega
    have hbu := hh.out.1
    have hca : wr.cell? ⟨blk ua, ofs ua + k, none⟩ = some (nth us k) := by rw [hbu.cell (p := ⟨blk ua, ofs ua + k, none⟩) (HC.out.2.1 k hlt)]; exact HC.out.1 k hlt
    have hcb : wr.cell? ⟨blk va, ofs va + k, none⟩ = some (nth vs k) := by rw [hbu.cell (p := ⟨blk va, ofs va + k, none⟩) (HC.out.2.2.2 k (by omega))]; exact HC.out.2.2.1 k (by omega)
    obtain ⟨xa, xc, hxa, hxm, hxi, hxc, hxb⟩ := (HU.out.1.2.2 k hlt).out1 sInt
    obtain ⟨ya, yc, hya, hym, hyi, hyc, hyb⟩ := (HU.out.2.1.2.2 k (by omega)).out1 sInt
    rw [hxa] at hca
    rw [hya] at hcb
    have hyl := HU.out.2.2.2.2 k (by omega)
    have hxr := HU.out.2.2.1 k hlt
    have hyr := HU.out.2.2.2.1 k (by omega)
    have HX := Lib.hid (And.intro hxc (And.intro hxb (And.intro hyc (And.intro hyb (And.intro hxr (And.intro hyr hyl))))))
    clear hxa hya hxc hxb hyc hyb hbu hxr hyr hyl
    obtain ⟨X, hX⟩ : ∃ X, X = nth a k := ⟨_, rfl⟩
    obtain ⟨Y, hY⟩ : ∃ Y, Y = nth b k := ⟨_, rfl⟩
    rw [← hX] at hca hxm hxi HX
    rw [← hY] at hcb hym hyi HX
    have HXY := Lib.hid (And.intro hX hY)
    clear hX hY
    by_cases h0 : X.length = 0
    ·rw [h0] at hca
     go_wp2_with fail
     go_roundw
     case rel => exact ⟨k + 1, by omega, by go_num, hh.out.1, fun i hi x hx => by
      by_cases e : i = k
      ·subst e
       rw [← HXY.out.1, List.length_eq_zero_iff.1 h0] at hx
       cases hx
      ·exact hh.out.2 i (by omega) x hx⟩
     case measure => simp [intOf]; omega
    ·have hz : ((X.length : Int) == 0) = false := by rw [beq_eq_false_iff_ne]; omega
     have hsz := hh.out.1.size
     have hva : blk va < wr.heap.size := Nat.lt_of_lt_of_le (HC.out.2.2.2 k (by omega)) hsz
     have hvn : blk va ≠ wr.heap.size := by omega
     go_wp2_with fail
     refine wp_gen (fun Z => SetM Tryz.prog 3 4 Z wr.heap.size 0 [] ∧ Below W.heap.size W Z) ⟨SetM.made _ _ _ _ rfl, hh.out.1.alloc hsz _⟩ ?_
     rintro W1 hW1
     obtain ⟨mb, hmb⟩ : ∃ mb, mb = wr.heap.size := ⟨_, rfl⟩
     rw [← hmb] at hW1 ⊢
     have hmb2 : W.heap.size ≤ mb := by omega
     have H1 := Lib.hid hW1
     clear hW1 hmb hca hcb
     go_loopw [9, 33] (fun _ x wr2 => ∃ (j : Nat), j ≤ Y.length ∧ x = .int .i64 j ∧ Hid (SetM Tryz.prog 3 4 wr2 mb j ((Y.take j).map (Value.int .i64)).reverse ∧ Below W.heap.size W wr2)) (fun _ x _ => Y.length - (intOf x).toNat)
     case atStart => exact ⟨0, by omega, rfl, H1.out⟩
     case round =>
      obtain ⟨j, hj, rfl, hs⟩ := hrel
      by_cases hlt2 : j < Y.length
      ·have hcy : wr.cell? ⟨blk ya, ofs ya + j, none⟩ = some (.int .i64 (nth Y j)) := by rw [hs.out.2.cell (p := ⟨blk ya, ofs ya + j, none⟩) (HX.out.2.2.2.1 j hlt2)]; exact HX.out.2.2.1 j hlt2
       have hyr := HX.out.2.2.2.2.2.1 (nth Y j) (nth_mem _ _ hlt2)
       have hkey := keyOf_int_mk (P := Tryz.prog) (k := 3) (q := .i64) Tryz.underlying3 (a := nth Y j) (WalkArith.wf_i64 (by omega))
       have hyt : ((Y.take (j + 1)).map (Value.int .i64)).reverse = .int .i64 (nth Y j) :: ((Y.take j).map (Value.int .i64)).reverse := by rw [take_snoc _ _ hlt2]; simp
       have HY := Lib.hid (And.intro hkey hyt)
       have hjl : j < maxLen := by have := HX.out.2.2.2.2.2.2; unfold maxLen; omega
       clear hkey hyt hyr
       go_wp2_with (at_mapUpdate; refine wp_mapPut (t := 112) hs.out.1 rfl _ _ _ rfl intKeyed Tryz.underlying112 Tryz.underlying4 rfl rfl hjl _ _ rfl HY.out.1 ?_; intro W7 set7 g7)
       have b7 := hs.out.2.grown g7 hs.out.2.size (fun q hq => by simp at hq; omega)
       have H7 := Lib.hid (And.intro set7 b7)
       clear set7 b7 g7
       go_wp2_with fail
       go_roundw
       case rel => exact ⟨j + 1, by omega, by go_num, by rw [HY.out.2]; exact H7.out.1, H7.out.2⟩
       case measure => simp [intOf]; omega
      ·obtain rfl : j = Y.length := by omega
       have hset := hs.out.1
       rw [List.take_length] at hset
       have H2 := Lib.hid (And.intro hset hs.out.2)
       clear hset hs hj hlt2
       go_wp2_with fail
       go_loop [11, 42] (fun _ x => ∃ (j : Nat), j ≤ X.length ∧ x = .int .i64 j ∧ Hid (∀ i, i < j → nth X i ∈ Y)) (fun _ x => X.length - (intOf x).toNat)
       case atStart => exact ⟨0, by omega, rfl, fun i hi => by omega⟩
       case round =>
        obtain ⟨j, hj, rfl, hs⟩ := hrel
        by_cases hlt2 : j < X.length
        ·have hcx : wr.cell? ⟨blk xa, ofs xa + j, none⟩ = some (.int .i64 (nth X j)) := by rw [H2.out.2.cell (p := ⟨blk xa, ofs xa + j, none⟩) (HX.out.2.1 j hlt2)]; exact HX.out.1 j hlt2
         have hxr := HX.out.2.2.2.2.1 (nth X j) (nth_mem _ _ hlt2)
         have hkey := keyOf_int_mk (P := Tryz.prog) (k := 3) (q := .i64) Tryz.underlying3 (a := nth X j) (WalkArith.wf_i64 (by omega))
         obtain ⟨x, hlook, hx⟩ := H2.out.1.look intKeyed Tryz.underlying112 Tryz.underlying4 (zeroBool' _) hkey
         have hx' : x = true ↔ nth X j ∈ Y := by rw [hx]; simp
         have HK := Lib.hid hx'
         clear hx hx' hkey hxr
         cases x
         ·go_wp2_with fail
          go_ret
          refine ⟨ret_bool ?_, H2.out.2⟩
          symm
          rw [Bool.eq_false_iff]
          intro hw
          have hw2 := ((winB_iff _ _).1 hw).2 k (by omega) (nth X j) (by rw [← HXY.out.1]; exact nth_mem _ _ hlt2)
          rw [← HXY.out.2] at hw2
          have := HK.out.2 hw2
          cases this
         ·go_wp2_with fail
          go_round
          case rel => exact ⟨j + 1, by omega, by go_num, fun i hi => by
           by_cases e : i = j
           ·subst e; exact HK.out.1 rfl
           ·exact hs.out i (by omega)⟩
          case measure => simp [intOf]; omega
        ·have HE := Lib.hid (fun i (hi : i < X.length) => hs.out i (by omega))
         clear hs
         go_wp2_with fail
         go_roundw
         case rel => exact ⟨k + 1, by omega, by go_num, H2.out.2, fun i hi x hx => by
          by_cases e : i = k
          ·subst e
           rw [← HXY.out.1] at hx
           rw [← HXY.out.2]
           obtain ⟨q, hq, rfl⟩ := mem_nth hx
           exact HE.out q hq
          ·exact hh.out.2 i (by omega) x hx⟩
         case measure => simp [intOf]; omega
   ·have HE := Lib.hid hh.out
    clear hh
    go_wp2_with fail
    go_ret
    exact ⟨ret_bool ((winB_iff _ _).2 ⟨Hlen.out, fun i hi => HE.out.2 i (by omega)⟩).symm, HE.out.1⟩
 ·have hd : ((a.length : Int) != (b.length : Int)) = true := by simp; omega
  go_enter Tryz.func44, Tryz.ntmps44
  go_wp2_with fail
  go_ret
  refine ⟨ret_bool ?_, Below.refl _ _⟩
  symm
  rw [Bool.eq_false_iff]
  intro hw
  exact hlen ((winB_iff _ _).1 hw).1
end Go.Proofs.YtgblfjccccdidaaGreat
end
section
namespace Go.Proofs.YtgblfjccccdidaaGreat
open Go.RowKit Go.Dfl Go.And
set_option maxHeartbeats 1600000 in
theorem WithinP_any (u1 u2 v1 v2 : Value) (a1 a2 b1 b2 : List (List Int)) (W : World) (hu : PtsIn W u1 u2 a1 a2) (hv : PtsIn W v1 v2 b1 b2) (r1 : InR a1) (r2 : InR a2) (r3 : InR b1) (r4 : InR b2) (l1 : ∀ i, i < b1.length → (nth b1 i).length ≤ 1000000) (l2 : ∀ i, i < b2.length → (nth b2 i).length ≤ 1000000) :
  Calls Tryz.prog 23 #[.agg #[u1, u2], .agg #[v1, v2]] W fun e W' => e = .returned (.bool (winB a1 b1 && winB a2 b2)) ∧ Below W.heap.size W W' := by
 obtain ⟨⟨us1, hu1⟩, us2, hu2⟩ := hu
 obtain ⟨⟨vs1, hv1⟩, vs2, hv2⟩ := hv
 have hb0 : Below W.heap.size W _ := ((Below.refl W.heap.size W).alloc (Nat.le_refl _) (.cells #[u1, u2] 34)).alloc (by simp) (.cells #[v1, v2] 34)
 have HB := Lib.hid hb0
 have HU := Lib.hid (And.intro hu1 (And.intro hu2 (And.intro hv1 (And.intro hv2 (And.intro r1 (And.intro r2 (And.intro r3 (And.intro r4 (And.intro l1 l2)))))))))
 have o1 : u1.oneCell' = true := by obtain ⟨a, c, e, -⟩ := hu1.1.out1 sInt2; rw [e]; rfl
 have o2 : u2.oneCell' = true := by obtain ⟨a, c, e, -⟩ := hu2.1.out1 sInt2; rw [e]; rfl
 have o3 : v1.oneCell' = true := by obtain ⟨a, c, e, -⟩ := hv1.1.out1 sInt2; rw [e]; rfl
 have o4 : v2.oneCell' = true := by obtain ⟨a, c, e, -⟩ := hv2.1.out1 sInt2; rw [e]; rfl
 obtain ⟨ua1, uc1, e1, -⟩ := hu1.1.out1 sInt2
 obtain ⟨ua2, uc2, e2, -⟩ := hu2.1.out1 sInt2
 obtain ⟨va1, vc1, e3, -⟩ := hv1.1.out1 sInt2
 obtain ⟨va2, vc2, e4, -⟩ := hv2.1.out1 sInt2
 subst e1 e2 e3 e4
 have hc2 := cells_new (W := W) (cs := [.slice ua1 us1.length uc1, .slice ua2 us2.length uc2]) (t := 34) rfl
 have hc3 := cells_new (W := W.alloc (.cells #[.slice ua1 us1.length uc1, .slice ua2 us2.length uc2] 34)) (cs := [.slice va1 vs1.length vc1, .slice va2 vs2.length vc2]) (t := 34) rfl
 have gB := grownBy_alloc (W.alloc (.cells #[.slice ua1 us1.length uc1, .slice ua2 us2.length uc2] 34)) (.cells #[.slice va1 vs1.length vc1, .slice va2 vs2.length vc2] 34)
 have k1 := gB.cell (hc2 1 _ rfl) (by simp)
 have k2 := hc3 1 _ rfl
 have HK := Lib.hid (And.intro k1 k2)
 clear hu1 hu2 hv1 hv2 r1 r2 r3 r4 l1 l2 hb0 k1 k2 gB hc2 hc3 o1 o2 o3 o4
 go_enter Tryz.func23, Tryz.ntmps23
 go_wp2_with fail
 refine (within_any _ _ us1 vs1 a1 b1 _ (HU.out.1.below HB.out) (HU.out.2.2.1.below HB.out) HU.out.2.2.2.2.1 HU.out.2.2.2.2.2.2.1 HU.out.2.2.2.2.2.2.2.2.1).mono ?_
 rintro e W1 ⟨rfl, q1⟩
 have b1' := HB.out.trans (q1.mono HB.out.size)
 have k1 : W1.cell? ⟨W.heap.size, 1, none⟩ = some (.slice ua2 us2.length uc2) := (grownBy_below q1).cell HK.out.1 (by simp)
 have k2 : W1.cell? ⟨W.heap.size + 1, 1, none⟩ = some (.slice va2 vs2.length vc2) := (grownBy_below q1).cell (by simp) (by simp)
 have H1 := Lib.hid b1'
 clear b1' q1
 cases hw : winB a1 b1
 ·go_wp2_with fail
  go_ret
  exact ⟨ret_bool (by simp [hw]), H1.out⟩
 ·go_wp2_with fail
  refine (within_any _ _ us2 vs2 a2 b2 _ (HU.out.2.1.below H1.out) (HU.out.2.2.2.1.below H1.out) HU.out.2.2.2.2.2.1 HU.out.2.2.2.2.2.2.2.1 HU.out.2.2.2.2.2.2.2.2.2).mono ?_
  rintro e W2 ⟨rfl, q2⟩
  have H2 := Lib.hid (H1.out.trans (q2.mono H1.out.size))
  clear q2 k1 k2
  go_wp2_with fail
  go_ret
  exact ⟨ret_bool (by simp [hw]), H2.out⟩
theorem Has_S {rl : Nat → Nat} {W : World} {v : Value} {s : Nat → Bool} (h : IsS rl W v s) (x : Nat) (hx : x ≤ 1000000) : Calls Tryz.prog 97 #[v, .int .i64 (x : Int)] W fun e W' => e = .returned (.bool (s x)) ∧ Qt W W' := by
 obtain ⟨r, a1, a2, a3, a4, a5⟩ := h
 refine (Has_any v r x W a1 a2 (by omega)).mono fun e W' ⟨he, hq⟩ => ⟨?_, hq⟩
 rw [he]
 refine ret_bool ?_
 simp [hasI, a4]
structure SetsIn (N : Nat) (W : World) (v : Value) (xs : List Value) (p : Nat → Nat → Bool) : Prop where
 lst : Lst (fun x : Value => x) W v xs
 len : xs.length = N
 mean : ∀ i, i < N → IsS (fun _ => 0) W (nth xs i) (p i)
theorem SetsIn.below {N : Nat} {W W' : World} {v : Value} {xs : List Value} {p : Nat → Nat → Bool} (h : SetsIn N W v xs p) (hb : Below W.heap.size W W') : SetsIn N W' v xs p := ⟨h.lst.below hb, h.len, fun i hi => (h.mean i hi).bel hb⟩
def SatIn (W : World) (bs bc : Nat) (S : Syst) (cv : Value) (c : C) (setv : Value) (xa : Option Addr) (xs : List Value) : Prop :=
 BoxC W bc c.k c.a c.b c.f setv ∧ (W.cell? ⟨bs, 0, none⟩ = some (.int .i64 (S.vars : Int)) ∧ W.cell? ⟨bs, 1, none⟩ = some (.int .i64 (S.sites : Int)) ∧ W.cell? ⟨bs, 2, none⟩ = some (.int .i64 (S.fields : Int)) ∧ W.cell? ⟨bs, 3, none⟩ = some cv) ∧ (∀ i, i < S.N → W.cell? ⟨blk xa, ofs xa + i, none⟩ = some (nth xs i)) ∧ True
theorem SatIn.grown {W W' : World} {bs bc : Nat} {S : Syst} {cv : Value} {c : C} {setv : Value} {xa : Option Addr} {xs : List Value} (h : SatIn W bs bc S cv c setv xa xs) (hg : W.grownBy W' none) : SatIn W' bs bc S cv c setv xa xs :=
 ⟨h.1.grown hg (by simp), ⟨hg.cell h.2.1.1 (by simp), hg.cell h.2.1.2.1 (by simp), hg.cell h.2.1.2.2.1 (by simp), hg.cell h.2.1.2.2.2 (by simp)⟩, fun i hi => hg.cell (h.2.2.1 i hi) (by simp), trivial⟩
theorem satIn_new (W : World) (S : Syst) (cv : Value) (k a b f : Nat) (setv : Value) (cs : List Nat) {xa : Option Addr} {xs : List Value} (h : ∀ i, i < S.N → W.cell? ⟨blk xa, ofs xa + i, none⟩ = some (nth xs i)) :
  SatIn ((W.alloc (.cells #[.int .i64 (S.vars : Int), .int .i64 S.sites, .int .i64 S.fields, cv] 24)).alloc (.cells #[.int .i64 (k : Int), .int .i64 a, .int .i64 b, .int .i64 f, setv] 48)) W.heap.size (W.heap.size + 1) S cv ⟨k, a, b, f, cs⟩ setv xa xs := by
 have gA := grownBy_alloc W (.cells #[.int .i64 (S.vars : Int), .int .i64 S.sites, .int .i64 S.fields, cv] 24)
 have gB := grownBy_alloc (W.alloc (.cells #[.int .i64 (S.vars : Int), .int .i64 S.sites, .int .i64 S.fields, cv] 24)) (.cells #[.int .i64 (k : Int), .int .i64 a, .int .i64 b, .int .i64 f, setv] 48)
 have hn := cells_new (W := W) (cs := [.int .i64 (S.vars : Int), .int .i64 S.sites, .int .i64 S.fields, cv]) (t := 24) rfl
 refine ⟨?_, ⟨gB.cell (hn 0 _ rfl) (by simp), gB.cell (hn 1 _ rfl) (by simp), gB.cell (hn 2 _ rfl) (by simp), gB.cell (hn 3 _ rfl) (by simp)⟩, fun i hi => gB.cell (gA.cell (h i hi) (by simp)) (by simp), trivial⟩
 have := BoxC.new (W.alloc (.cells #[.int .i64 (S.vars : Int), .int .i64 S.sites, .int .i64 S.fields, cv] 24)) k a b f setv 48
 simpa using this
theorem below2' (W : World) (a b : Obj) : Below W.heap.size W ((W.alloc a).alloc b) := ((Below.refl W.heap.size W).alloc (Nat.le_refl _) a).alloc (by simp) b
set_option maxHeartbeats 6400000 in
set_option maxRecDepth 100000 in
theorem satisfied_any (S : Syst) (cv : Value) (c : C) (sa : Option Addr) (sn sc : Nat) (xa : Option Addr) (xc : Nat) (xs : List Value) (p : Nat → Nat → Bool) (W : World) (hx : SetsIn S.N W (.slice xa S.N xc) xs p) (hc : c.Ok S) (hB : S.vars ≤ 40 ∧ S.sites ≤ 12 ∧ S.fields ≤ 5 ∧ S.N ≤ 100)
  (hset : Ints W (.slice sa sn sc) (c.s.map fun x : Nat => (x : Int))) (hb : ∀ i x, p i x = true → x < S.sites) :
  Calls Tryz.prog 72 #[.agg #[.int .i64 S.vars, .int .i64 S.sites, .int .i64 S.fields, cv], .slice xa S.N xc, .agg #[.int .i64 c.k, .int .i64 c.a, .int .i64 c.b, .int .i64 c.f, .slice sa sn sc]] W
   fun e W' => ∃ b, e = .returned (.bool b) ∧ (b = true ↔ Holds S (fun i x => p i x = true) c) ∧ Below W.heap.size W W' := by
 obtain ⟨xa2, xc2, he2, hxn, hxi, hxcell, -⟩ := hx.lst.out1 sBits2
 simp only [Value.slice.injEq] at he2
 obtain ⟨rfl, -, rfl⟩ := he2
 rw [hx.len] at hxn hxi hxcell
 obtain ⟨bv, bsi, bf, bN⟩ := hB
 have HX := Lib.hid (And.intro hx (And.intro hc (And.intro hset (And.intro hb hxcell))))
 have hck := hc.kind
 have hbN := vN hc.b
 clear hx hc hset hb hxcell
 obtain ⟨ck, c_a, c_b, c_f, c_s⟩ := c
 dsimp only at *
 have hk5 : ck = 1 ∨ ck = 2 ∨ ck = 3 ∨ ck = 4 ∨ ck = 5 := by omega
 clear hck
 rcases hk5 with rfl | rfl | rfl | rfl | rfl
 ·have ha : c_a < S.sites := by have h := HX.out.2.1.a; simpa using h
  have h0 := satIn_new W S cv 1 c_a c_b c_f (.slice sa sn sc) c_s HX.out.2.2.2.2
  rw [show ((1 : Nat) : Int) = 1 from rfl] at h0
  have H0 := Lib.hid (And.intro h0 (below2' W (.cells #[.int .i64 (S.vars : Int), .int .i64 S.sites, .int .i64 S.fields, cv] 24) (.cells #[.int .i64 1, .int .i64 c_a, .int .i64 c_b, .int .i64 c_f, .slice sa sn sc] 48)))
  clear h0
  go_enter Tryz.func72, Tryz.ntmps72
  go_wp2_with fail
  refine wp_gen (fun Z => SatIn Z W.heap.size (W.heap.size + 1) S cv ⟨1, c_a, c_b, c_f, c_s⟩ (.slice sa sn sc) xa xs ∧ Below W.heap.size W Z) ⟨H0.out.1, H0.out.2⟩ ?_
  rintro W1 h1
  obtain ⟨bs, hbs⟩ : ∃ bs, bs = W.heap.size := ⟨_, rfl⟩
  obtain ⟨bc, hbc⟩ : ∃ bc, bc = W.heap.size + 1 := ⟨_, rfl⟩
  rw [← hbc, ← hbs] at h1 ⊢
  rw [hbs] at h1
  have hS1 := h1.1
  have H1 := Lib.hid h1
  clear h1 H0
  rw [← hbs] at hS1
  clear hbs hbc
  refine wp_region_mix [0, 1, 2, 3, 4, 5, 6] [7, 8] (fun w' => SatIn w' bs bc S cv ⟨1, c_a, c_b, c_f, c_s⟩ (.slice sa sn sc) xa xs) (by kernel_rfl) (by kernel_rfl) (by kernel_rfl) (hS1.grown (grownBy_drew0 _)) ?_
  repeat (
   refine wpHeads_cons (v := ?_) rfl (Or.inl ⟨by rfl, ?_⟩) ?_
   rotate_left
   ·(intro W hW; obtain ⟨⟨q1, q2, q3, q4, q5⟩, ⟨q6, q7, q8, q9⟩, q10, q11⟩ := hW; dsimp only at q1 q2 q3 q4; go_simp; try with_reducible rfl)
   simp only [Act.put, List.setIfInBounds_toArray])
  refine wpHeads_nil ?_
  refine wpTails_cons rfl ?_
  go_wp2_with fail
  refine (Has_S (rl := fun _ => 0) (((HX.out.1.mean c_b hbN).bel H1.out.2).ex (Ext.grown (grownBy_drew0 _))) c_a (by omega)).mono ?_
  rintro e W2 ⟨rfl, hq⟩
  have g2 : W1.grownBy W2 none := grownBy_trans (grownBy_drew0 _) (grownBy_qt hq)
  have H2 := Lib.hid (H1.out.2.grown g2 H1.out.2.size (by simp))
  go_wp2_with fail
  refine tail_mk (hS1.grown g2) ?_
  refine wpTails_one rfl ?_
  clear g2 hq hS1
  go_wp2_with fail
  refine thenQ_mk ?_
  go_wp2_with fail
  go_ret
  exact ⟨_, rfl, by simp [Holds], H2.out⟩
 ·have ha : c_a < S.N := vN (by have h := HX.out.2.1.a; simpa using h)
  have h0 := satIn_new W S cv 2 c_a c_b c_f (.slice sa sn sc) c_s HX.out.2.2.2.2
  rw [show ((2 : Nat) : Int) = 2 from rfl] at h0
  have H0 := Lib.hid (And.intro h0 (below2' W (.cells #[.int .i64 (S.vars : Int), .int .i64 S.sites, .int .i64 S.fields, cv] 24) (.cells #[.int .i64 2, .int .i64 c_a, .int .i64 c_b, .int .i64 c_f, .slice sa sn sc] 48)))
  clear h0
  go_enter Tryz.func72, Tryz.ntmps72
  go_wp2_with fail
  refine wp_gen (fun Z => SatIn Z W.heap.size (W.heap.size + 1) S cv ⟨2, c_a, c_b, c_f, c_s⟩ (.slice sa sn sc) xa xs ∧ Below W.heap.size W Z) ⟨H0.out.1, H0.out.2⟩ ?_
  rintro W1 h1
  obtain ⟨bs, hbs⟩ : ∃ bs, bs = W.heap.size := ⟨_, rfl⟩
  obtain ⟨bc, hbc⟩ : ∃ bc, bc = W.heap.size + 1 := ⟨_, rfl⟩
  rw [← hbc, ← hbs] at h1 ⊢
  rw [hbs] at h1
  have hS1 := h1.1
  have H1 := Lib.hid h1
  clear h1 H0
  rw [← hbs] at hS1
  clear hbs hbc
  refine wp_region_mix [0, 1, 2, 3, 4, 5, 6, 7, 8, 9] [10, 11] (fun w' => SatIn w' bs bc S cv ⟨2, c_a, c_b, c_f, c_s⟩ (.slice sa sn sc) xa xs) (by kernel_rfl) (by kernel_rfl) (by kernel_rfl) (hS1.grown (grownBy_drew0 _)) ?_
  repeat (
   refine wpHeads_cons (v := ?_) rfl (Or.inl ⟨by rfl, ?_⟩) ?_
   rotate_left
   ·(intro W hW; obtain ⟨⟨q1, q2, q3, q4, q5⟩, ⟨q6, q7, q8, q9⟩, q10, q11⟩ := hW; dsimp only at q1 q2 q3 q4; go_simp; try with_reducible rfl)
   simp only [Act.put, List.setIfInBounds_toArray])
  refine wpHeads_nil ?_
  refine wpTails_cons rfl ?_
  go_wp2_with fail
  refine (Within_S (rl := fun _ => 0) (((HX.out.1.mean c_a ha).bel H1.out.2).ex (Ext.grown (grownBy_drew0 _))) (((HX.out.1.mean c_b hbN).bel H1.out.2).ex (Ext.grown (grownBy_drew0 _)))).mono ?_
  rintro e W2 ⟨b, rfl, hb, hq⟩
  have g2 : W1.grownBy W2 none := grownBy_trans (grownBy_drew0 _) (grownBy_qt hq)
  have H2 := Lib.hid (And.intro hb (H1.out.2.grown g2 H1.out.2.size (by simp)))
  go_wp2_with fail
  refine tail_mk (hS1.grown g2) ?_
  refine wpTails_one rfl ?_
  clear g2 hq hS1 hb
  go_wp2_with fail
  refine thenQ_mk ?_
  go_wp2_with fail
  go_ret
  exact ⟨b, rfl, by rw [H2.out.1]; simp [Holds], H2.out.2⟩
 ·have ha : c_a < S.N := vN (by have h := HX.out.2.1.a; simpa using h)
  have hf : c_f < S.fields := HX.out.2.1.f (.inl rfl)
  have h0 := satIn_new W S cv 3 c_a c_b c_f (.slice sa sn sc) c_s HX.out.2.2.2.2
  rw [show ((3 : Nat) : Int) = 3 from rfl] at h0
  have H0 := Lib.hid (And.intro h0 (below2' W (.cells #[.int .i64 (S.vars : Int), .int .i64 S.sites, .int .i64 S.fields, cv] 24) (.cells #[.int .i64 3, .int .i64 c_a, .int .i64 c_b, .int .i64 c_f, .slice sa sn sc] 48)))
  obtain ⟨⟨q1, q2, q3, q4, q5⟩, ⟨q6, q7, q8, q9⟩, q10, -⟩ := h0
  have q11 := q10 c_a ha
  clear q10
  go_enter Tryz.func72, Tryz.ntmps72
  go_wp2_with fail
  refine (List_S ((HX.out.1.mean c_a ha).bel H0.out.2)).mono ?_
  rintro e W5 ⟨a5, c5, L, rfl, o5, mL, pL, lL, q5⟩
  have hB5 : Below W.heap.size W W5 := H0.out.2.trans (q5.mono H0.out.2.size)
  have HB5 := Lib.hid hB5
  have hS5 := H0.out.1.grown (grownBy_below q5)
  have hix : ∀ (x : Int), 0 ≤ x → x < L.length → ∀ Z, (Instr.indexAt 32 (.slice a5 L.length c5) (.int .i64 x)).run Tryz.prog Z = .ok (.pointer (some ⟨blk a5, ofs a5 + x.toNat, none⟩)) Z := by
   obtain ⟨a6, c6, he6, -, hidx6, -⟩ := o5.lst.out1 sInt
   simp only [Value.slice.injEq] at he6
   obtain ⟨rfl, he6, rfl⟩ := he6
   intro x h0 h1
   have := hidx6 .i64 x h0 (by rw [← he6]; exact h1)
   rw [← he6] at this; exact this
  have H5 := Lib.hid (And.intro hS5 (And.intro o5.lst mL))
  clear o5 mL pL q5 hB5 hS5
  go_wp2_with fail
  obtain ⟨bs, hbs⟩ : ∃ bs, bs = W.heap.size := ⟨_, rfl⟩
  obtain ⟨bc, hbc⟩ : ∃ bc, bc = W.heap.size + 1 := ⟨_, rfl⟩
  have H5' := H5.out.1
  rw [← hbc, ← hbs] at H5' ⊢
  have H55 := Lib.hid H5'
  clear H5' hbc hbs
  clear q1 q2 q3 q4 q5 q6 q7 q8 q9 q11
  go_loopw [8, 47] (fun _ x wr => ∃ j : Nat, j ≤ L.length ∧ x = .int .i64 j ∧ Hid (Below W5.heap.size W5 wr ∧ ∀ i, i < j → ∀ x, p (S.cell (nth L i) c_f) x = true → p c_b x = true)) (fun _ x _ => L.length - (intOf x).toNat)
  case atStart => exact ⟨0, by omega, rfl, Below.refl _ _, fun i hi => by omega⟩
  case round =>
   obtain ⟨j, hj, rfl, hh⟩ := hrel
   by_cases hlt : j < L.length
   ·have hys : nth L j < S.sites := HX.out.2.2.2.1 c_a _ ((H5.out.2.2 _).2 (nth_mem L j hlt))
    have hpa : p c_a (nth L j) = true := (H5.out.2.2 _).2 (nth_mem L j hlt)
    have hcl : wr.cell? ⟨blk a5, ofs a5 + j, none⟩ = some (.int .i64 ((nth L j : Nat) : Int)) := by
     obtain ⟨a6, c6, he6, -, -, hcell6, -⟩ := (H5.out.2.1.below hh.out.1).out1 sInt
     simp only [Value.slice.injEq] at he6
     obtain ⟨rfl, -, rfl⟩ := he6
     have := hcell6 j (by simpa using hlt)
     rw [this]; simp [nth, hlt]
    have hS5 := H55.out.grown (grownBy_below hh.out.1)
    have HF := Lib.hid (Syst.cell_lt hys hf)
    have HPA := Lib.hid hpa
    obtain ⟨y, hy⟩ : ∃ y, y = nth L j := ⟨_, rfl⟩
    rw [← hy] at hcl HF HPA hys
    have HYy := Lib.hid hy
    clear hy hpa
    go_wp2_with fail
    refine wp_region_mix [0, 1, 2, 3, 4, 8, 9, 10, 11, 12] [5, 6, 7, 13, 14] (fun w' => SatIn w' bs bc S cv ⟨3, c_a, c_b, c_f, c_s⟩ (.slice sa sn sc) xa xs) (by kernel_rfl) (by kernel_rfl) (by kernel_rfl) (hS5.grown (grownBy_drew0 _)) ?_
    repeat (
     refine wpHeads_cons (v := ?_) rfl (Or.inl ⟨by rfl, ?_⟩) ?_
     rotate_left
     ·(intro W hW; obtain ⟨⟨q1, q2, q3, q4, q5⟩, ⟨q6, q7, q8, q9⟩, q10, q11⟩ := hW; dsimp only at q1 q2 q3 q4; go_simp; try with_reducible rfl)
     simp only [Act.put, List.setIfInBounds_toArray])
    refine wpHeads_nil ?_
    refine wpTails_cons rfl ?_
    go_wp2_with fail
    obtain ⟨nn, hnn, hcl7⟩ := cell_is S y c_f cv (wr.drew) (by omega) (by omega) (by omega) (by omega)
    refine hcl7.mono ?_
    rintro e W7 ⟨rfl, q7⟩
    have g7 : wr.grownBy W7 none := grownBy_trans (grownBy_drew0 _) (grownBy_below q7)
    have hS7 := hS5.grown g7
    have hnN : nn < S.N := by rw [hnn]; exact HF.out
    have c7 := hS7.2.2.1 nn hnN
    have H7 := Lib.hid (And.intro ((hh.out.1).grown g7 hh.out.1.size (by simp)) (And.intro hS7 hnn))
    clear g7 q7 hS5 hcl7 hnn
    go_wp2_with fail
    refine tail_mk H7.out.2.1 ?_
    refine wpTails_cons rfl ?_
    go_wp2_with fail
    refine tail_mk H7.out.2.1 ?_
    refine wpTails_cons rfl ?_
    go_wp2_with fail
    refine tail_mk H7.out.2.1 ?_
    refine wpTails_cons rfl ?_
    go_wp2_with fail
    refine (Within_S (rl := fun _ => 0) ((HX.out.1.mean nn hnN).bel (HB5.out.trans (H7.out.1.mono HB5.out.size))) ((HX.out.1.mean c_b hbN).bel (HB5.out.trans (H7.out.1.mono HB5.out.size)))).mono ?_
    rintro e W8 ⟨b, rfl, hb, hq8⟩
    have H8 := Lib.hid (And.intro hb (And.intro (H7.out.1.grown (grownBy_qt hq8) H7.out.1.size (by simp)) (H7.out.2.1.grown (grownBy_qt hq8))))
    clear hb hq8 c7 hS7
    go_wp2_with fail
    refine tail_mk H8.out.2.2 ?_
    refine wpTails_one rfl ?_
    cases b
    ·go_wp2_with fail
     refine thenQ_mk ?_
     go_wp2_with fail
     go_ret
     refine ⟨false, rfl, ?_, HB5.out.trans (H8.out.2.1.mono HB5.out.size)⟩
     constructor
     ·intro h; cases h
     ·intro h
      exact H8.out.1.2 (fun x hx => by rw [H7.out.2.2] at *; exact h.2.2.1 rfl y HPA.out x hx)
    ·go_wp2_with fail
     refine thenQ_mk ?_
     go_wp2_with fail
     go_roundw
     case rel => exact ⟨j + 1, by omega, by go_num, H8.out.2.1, fun i hi x hx => by
      by_cases e : i = j
      ·subst e
       have h9 := H8.out.1.1 (by first | rfl | trivial) x
       rw [H7.out.2.2] at h9
       rw [← HYy.out] at hx; exact h9 hx
      ·exact hh.out.2 i (by omega) x hx⟩
     case measure => simp [intOf]; omega
   ·have HE := Lib.hid hh.out
    clear hh
    go_wp2_with fail
    go_ret
    refine ⟨true, rfl, ?_, HB5.out.trans (HE.out.1.mono HB5.out.size)⟩
    refine ⟨fun _ => ⟨fun h => by simp at h, fun h => by simp at h, fun _ y hy x hx => ?_, fun h => by simp at h, fun h => by simp at h⟩, fun _ => rfl⟩
    obtain ⟨i, hi, rfl⟩ := mem_nth ((H5.out.2.2 y).1 hy)
    exact HE.out.2 i (by omega) x hx
 ·have ha : c_a < S.N := vN (by have h := HX.out.2.1.a; simpa using h)
  have hf : c_f < S.fields := HX.out.2.1.f (.inr rfl)
  have h0 := satIn_new W S cv 4 c_a c_b c_f (.slice sa sn sc) c_s HX.out.2.2.2.2
  rw [show ((4 : Nat) : Int) = 4 from rfl] at h0
  have H0 := Lib.hid (And.intro h0 (below2' W (.cells #[.int .i64 (S.vars : Int), .int .i64 S.sites, .int .i64 S.fields, cv] 24) (.cells #[.int .i64 4, .int .i64 c_a, .int .i64 c_b, .int .i64 c_f, .slice sa sn sc] 48)))
  obtain ⟨⟨q1, q2, q3, q4, q5⟩, ⟨q6, q7, q8, q9⟩, q10, -⟩ := h0
  have q11 := q10 c_b hbN
  clear q10
  go_enter Tryz.func72, Tryz.ntmps72
  go_wp2_with fail
  refine (List_S ((HX.out.1.mean c_b hbN).bel H0.out.2)).mono ?_
  rintro e W5 ⟨a5, c5, L, rfl, o5, mL, pL, lL, q5⟩
  have hB5 : Below W.heap.size W W5 := H0.out.2.trans (q5.mono H0.out.2.size)
  have HB5 := Lib.hid hB5
  have hS5 := H0.out.1.grown (grownBy_below q5)
  have hix : ∀ (x : Int), 0 ≤ x → x < L.length → ∀ Z, (Instr.indexAt 32 (.slice a5 L.length c5) (.int .i64 x)).run Tryz.prog Z = .ok (.pointer (some ⟨blk a5, ofs a5 + x.toNat, none⟩)) Z := by
   obtain ⟨a6, c6, he6, -, hidx6, -⟩ := o5.lst.out1 sInt
   simp only [Value.slice.injEq] at he6
   obtain ⟨rfl, he6, rfl⟩ := he6
   intro x h0 h1
   have := hidx6 .i64 x h0 (by rw [← he6]; exact h1)
   rw [← he6] at this; exact this
  have H5 := Lib.hid (And.intro hS5 (And.intro o5.lst mL))
  clear o5 mL pL q5 hB5 hS5
  go_wp2_with fail
  obtain ⟨bs, hbs⟩ : ∃ bs, bs = W.heap.size := ⟨_, rfl⟩
  obtain ⟨bc, hbc⟩ : ∃ bc, bc = W.heap.size + 1 := ⟨_, rfl⟩
  have H5' := H5.out.1
  rw [← hbc, ← hbs] at H5' ⊢
  have H55 := Lib.hid H5'
  clear H5' hbc hbs
  clear q1 q2 q3 q4 q5 q6 q7 q8 q9 q11
  go_loopw [10, 76] (fun _ x wr => ∃ j : Nat, j ≤ L.length ∧ x = .int .i64 j ∧ Hid (Below W5.heap.size W5 wr ∧ ∀ i, i < j → ∀ x, p c_a x = true → p (S.cell (nth L i) c_f) x = true)) (fun _ x _ => L.length - (intOf x).toNat)
  case atStart => exact ⟨0, by omega, rfl, Below.refl _ _, fun i hi => by omega⟩
  case round =>
   obtain ⟨j, hj, rfl, hh⟩ := hrel
   by_cases hlt : j < L.length
   ·have hys : nth L j < S.sites := HX.out.2.2.2.1 c_b _ ((H5.out.2.2 _).2 (nth_mem L j hlt))
    have hpa : p c_b (nth L j) = true := (H5.out.2.2 _).2 (nth_mem L j hlt)
    have hcl : wr.cell? ⟨blk a5, ofs a5 + j, none⟩ = some (.int .i64 ((nth L j : Nat) : Int)) := by
     obtain ⟨a6, c6, he6, -, -, hcell6, -⟩ := (H5.out.2.1.below hh.out.1).out1 sInt
     simp only [Value.slice.injEq] at he6
     obtain ⟨rfl, -, rfl⟩ := he6
     have := hcell6 j (by simpa using hlt)
     rw [this]; simp [nth, hlt]
    have hS5 := H55.out.grown (grownBy_below hh.out.1)
    have HF := Lib.hid (Syst.cell_lt hys hf)
    have HPA := Lib.hid hpa
    obtain ⟨y, hy⟩ : ∃ y, y = nth L j := ⟨_, rfl⟩
    rw [← hy] at hcl HF HPA hys
    have HYy := Lib.hid hy
    clear hy hpa
    go_wp2_with fail
    refine wp_region_mix [0, 1, 2, 3, 4, 5, 6, 7, 8, 9] [10, 11, 12, 13, 14] (fun w' => SatIn w' bs bc S cv ⟨4, c_a, c_b, c_f, c_s⟩ (.slice sa sn sc) xa xs) (by kernel_rfl) (by kernel_rfl) (by kernel_rfl) (hS5.grown (grownBy_drew0 _)) ?_
    repeat (
     refine wpHeads_cons (v := ?_) rfl (Or.inl ⟨by rfl, ?_⟩) ?_
     rotate_left
     ·(intro W hW; obtain ⟨⟨q1, q2, q3, q4, q5⟩, ⟨q6, q7, q8, q9⟩, q10, q11⟩ := hW; dsimp only at q1 q2 q3 q4; go_simp; try with_reducible rfl)
     simp only [Act.put, List.setIfInBounds_toArray])
    refine wpHeads_nil ?_
    refine wpTails_cons rfl ?_
    go_wp2_with fail
    obtain ⟨nn, hnn, hcl7⟩ := cell_is S y c_f cv (wr.drew) (by omega) (by omega) (by omega) (by omega)
    refine hcl7.mono ?_
    rintro e W7 ⟨rfl, q7⟩
    have g7 : wr.grownBy W7 none := grownBy_trans (grownBy_drew0 _) (grownBy_below q7)
    have hS7 := hS5.grown g7
    have hnN : nn < S.N := by rw [hnn]; exact HF.out
    have c7 := hS7.2.2.1 nn hnN
    have H7 := Lib.hid (And.intro ((hh.out.1).grown g7 hh.out.1.size (by simp)) (And.intro hS7 hnn))
    clear g7 q7 hS5 hcl7 hnn
    go_wp2_with fail
    refine tail_mk H7.out.2.1 ?_
    refine wpTails_cons rfl ?_
    go_wp2_with fail
    refine tail_mk H7.out.2.1 ?_
    refine wpTails_cons rfl ?_
    go_wp2_with fail
    refine tail_mk H7.out.2.1 ?_
    refine wpTails_cons rfl ?_
    go_wp2_with fail
    refine (Within_S (rl := fun _ => 0) ((HX.out.1.mean c_a ha).bel (HB5.out.trans (H7.out.1.mono HB5.out.size))) ((HX.out.1.mean nn hnN).bel (HB5.out.trans (H7.out.1.mono HB5.out.size)))).mono ?_
    rintro e W8 ⟨b, rfl, hb, hq8⟩
    have H8 := Lib.hid (And.intro hb (And.intro (H7.out.1.grown (grownBy_qt hq8) H7.out.1.size (by simp)) (H7.out.2.1.grown (grownBy_qt hq8))))
    clear hb hq8 c7 hS7
    go_wp2_with fail
    refine tail_mk H8.out.2.2 ?_
    refine wpTails_one rfl ?_
    cases b
    ·go_wp2_with fail
     refine thenQ_mk ?_
     go_wp2_with fail
     go_ret
     refine ⟨false, rfl, ?_, HB5.out.trans (H8.out.2.1.mono HB5.out.size)⟩
     constructor
     ·intro h; cases h
     ·intro h
      exact H8.out.1.2 (fun x hx => by rw [H7.out.2.2] at *; exact h.2.2.2.1 rfl y HPA.out x hx)
    ·go_wp2_with fail
     refine thenQ_mk ?_
     go_wp2_with fail
     go_roundw
     case rel => exact ⟨j + 1, by omega, by go_num, H8.out.2.1, fun i hi x hx => by
      by_cases e : i = j
      ·subst e
       have h9 := H8.out.1.1 (by first | rfl | trivial) x
       rw [H7.out.2.2] at h9
       rw [← HYy.out]; exact h9 hx
      ·exact hh.out.2 i (by omega) x hx⟩
     case measure => simp [intOf]; omega
   ·have HE := Lib.hid hh.out
    clear hh
    go_wp2_with fail
    go_ret
    refine ⟨true, rfl, ?_, HB5.out.trans (HE.out.1.mono HB5.out.size)⟩
    refine ⟨fun _ => ⟨fun h => by simp at h, fun h => by simp at h, fun h => by simp at h, fun _ y hy x hx => ?_, fun h => by simp at h⟩, fun _ => rfl⟩
    obtain ⟨i, hi, rfl⟩ := mem_nth ((H5.out.2.2 y).1 hy)
    exact HE.out.2 i (by omega) x hx
 ·have ha : c_a < S.N := vN (by have h := HX.out.2.1.a; simpa using h)
  have h0 := satIn_new W S cv 5 c_a c_b c_f (.slice sa sn sc) c_s HX.out.2.2.2.2
  rw [show ((5 : Nat) : Int) = 5 from rfl] at h0
  have H0 := Lib.hid (And.intro h0 (below2' W (.cells #[.int .i64 (S.vars : Int), .int .i64 S.sites, .int .i64 S.fields, cv] 24) (.cells #[.int .i64 5, .int .i64 c_a, .int .i64 c_b, .int .i64 c_f, .slice sa sn sc] 48)))
  obtain ⟨⟨q1, q2, q3, q4, q5⟩, ⟨q6, q7, q8, q9⟩, q10, -⟩ := h0
  clear q10
  go_enter Tryz.func72, Tryz.ntmps72
  go_wp2_with fail
  refine (Of_S (rl := fun _ => 0) (HX.out.2.2.1.below H0.out.2) (fun x hx => by have := HX.out.2.1.s x hx; omega) (fun _ _ => rfl)).mono ?_
  rintro e W5 ⟨oa, on, oc, os, rfl, hos, hosm, q5'⟩
  have hB5 : Below W.heap.size W W5 := H0.out.2.trans (q5'.mono H0.out.2.size)
  have hS5 := H0.out.1.grown (grownBy_below q5')
  have H5 := Lib.hid (And.intro hB5 (And.intro hS5 (And.intro hos hosm)))
  clear q1 q2 q3 q4 q5 q6 q7 q8 q9 hB5 hos hosm q5'
  obtain ⟨bs, hbs⟩ : ∃ bs, bs = W.heap.size := ⟨_, rfl⟩
  obtain ⟨bc, hbc⟩ : ∃ bc, bc = W.heap.size + 1 := ⟨_, rfl⟩
  rw [← hbc, ← hbs] at hS5 ⊢
  clear hbc hbs
  go_wp2_with fail
  refine wp_region_mix [0, 1, 2, 3, 4, 5, 7, 8, 9, 10, 11] [6, 12, 13] (fun w' => SatIn w' bs bc S cv ⟨5, c_a, c_b, c_f, c_s⟩ (.slice sa sn sc) xa xs) (by kernel_rfl) (by kernel_rfl) (by kernel_rfl) (hS5.grown (grownBy_drew0 _)) ?_
  repeat (
   refine wpHeads_cons (v := ?_) rfl (Or.inl ⟨by rfl, ?_⟩) ?_
   rotate_left
   ·(intro W hW; obtain ⟨⟨q1, q2, q3, q4, q5⟩, ⟨q6, q7, q8, q9⟩, q10, q11⟩ := hW; dsimp only at q1 q2 q3 q4; go_simp; try with_reducible rfl)
   simp only [Act.put, List.setIfInBounds_toArray])
  refine wpHeads_nil ?_
  refine wpTails_cons rfl ?_
  go_wp2_with fail
  refine (Both_S (rl := fun _ => 0) (((HX.out.1.mean c_a ha).bel H5.out.1).ex (Ext.grown (grownBy_drew0 _))) (H5.out.2.2.1.ex (Ext.grown (grownBy_drew0 _))) (fun _ _ => rfl)).mono ?_
  rintro e W7 ⟨a7, n7, c7, rfl, o7, q7⟩
  have g7 : W5.grownBy W7 none := grownBy_trans (grownBy_drew0 _) (grownBy_below q7)
  have hS7 := hS5.grown g7
  have hB7 := H5.out.1.grown g7 H5.out.1.size (by simp)
  have H7 := Lib.hid (And.intro hB7 (And.intro o7 hS7))
  clear g7 q7 hB7 o7 hS5 hS7
  go_wp2_with fail
  refine tail_mk H7.out.2.2 ?_
  refine wpTails_cons rfl ?_
  go_wp2_with fail
  refine (Within_S (rl := fun _ => 0) H7.out.2.1 ((HX.out.1.mean c_b hbN).bel H7.out.1)).mono ?_
  rintro e W8 ⟨b, rfl, hb, hq8⟩
  have H8 := Lib.hid (And.intro hb (And.intro (H7.out.1.grown (grownBy_qt hq8) H7.out.1.size (by simp)) (H7.out.2.2.grown (grownBy_qt hq8))))
  clear hb hq8
  go_wp2_with fail
  refine tail_mk H8.out.2.2 ?_
  refine wpTails_one rfl ?_
  go_wp2_with fail
  refine thenQ_mk ?_
  go_wp2_with fail
  go_ret
  refine ⟨b, rfl, ?_, H8.out.2.1⟩
  rw [H8.out.1]
  constructor
  ·intro h
   refine ⟨fun h => by simp at h, fun h => by simp at h, fun h => by simp at h, fun h => by simp at h, fun _ x hx hs => h x ?_⟩
   simp only [Bool.and_eq_true]
   exact ⟨hx, (H5.out.2.2.2 x).2 hs⟩
  ·intro h x hx
   simp only [Bool.and_eq_true] at hx
   exact h.2.2.2.2 rfl x hx.1 ((H5.out.2.2.2 x).1 hx.2)
end Go.Proofs.YtgblfjccccdidaaGreat
end
section
namespace Go.And
open Go.Dfl (nth nth_mem mem_nth nth_eq nth_append)
def memP (ll : List (List Int)) (i x : Nat) : Bool := decide ((x : Int) ∈ nth ll i)
end Go.And
namespace Go.Proofs.YtgblfjccccdidaaGreat
open Go.RowKit Go.Dfl Go.And
theorem IsS.zero {rl : Nat → Nat} {W : World} {v : Value} {p : Nat → Bool} (h : IsS rl W v p) : IsS (fun _ => 0) W v p := by
 obtain ⟨r, h1, h2, h3, h4, -⟩ := h
 exact ⟨r, h1, h2, h3, h4, fun _ _ _ => rfl⟩
theorem _root_.Go.And.Sm.bnd {s : Sy} (h : Sm s) : Bnd s.S := ⟨by have := h.vars; show s.vars.toNat ≤ 40; omega, by have := h.sites; show s.sites.toNat ≤ 12; omega, by have := h.fields; show s.fields.toNat ≤ 5; omega, by show (s.cons.map R.C).length ≤ 101; rw [List.length_map]; exact h.cons⟩
structure Gath (B n : Nat) (ll : List (List Int)) (sites : Int) (rl : Nat → Nat) (W0 W : World) (v : Value) (vs : List Value) : Prop where
 sets : SetsC n rl B 1 W v vs (memP ll)
 fr : ∀ k, W.heap.size ≤ k → rl k = 0
 ok : ∀ i, i < n → subB (nth ll i) sites = true ∧ ascB (nth ll i) = true
 bel : Below B W0 W
theorem Gath.start {B : Nat} {ll : List (List Int)} {sites : Int} {W : World} : Gath B 0 ll sites (fun _ => 0) W W (.slice none 0 0) [] :=
 ⟨⟨Go.Dfl.Own.nil _ _ _ _, fun k hk => by simp [Value.ownBlock] at hk, rfl, fun i hi => by omega⟩, fun _ _ => rfl, fun i hi => by omega, Below.refl _ _⟩
theorem Gath.keep {B n : Nat} {ll : List (List Int)} {sites : Int} {rl : Nat → Nat} {W0 W W' : World} {v : Value} {vs : List Value} (h : Gath B n ll sites rl W0 W v vs) (hB : B ≤ W.heap.size) (hg : W.grownBy W' none) : Gath B n ll sites rl W0 W' v vs := by
 have hs : Stp rl rl 99 W W' none := ⟨hg, by simp, .inr rfl, fun _ _ => rfl⟩
 exact ⟨h.sets.step hs (by omega), fun k hk => h.fr k (Nat.le_trans hg.size hk), h.ok, h.bel.grown hg hB (by simp)⟩
theorem Gath.push {B n : Nat} {ll : List (List Int)} {sites : Int} {rl : Nat → Nat} {W0 W W' : World} {v v' u : Value} {vs : List Value} (h : Gath B n ll sites rl W0 W v vs) (hB : B ≤ W.heap.size) (hu : IsS rl W u (memP ll n)) (hok : subB (nth ll n) sites = true ∧ ascB (nth ll n) = true)
  (ho : Go.Dfl.Own (fun x : Value => x) W' B 66 v' (vs ++ [u])) (hg : W.grownBy W' v.ownBlock) (hl : v'.ownBlock = v.ownBlock ∨ v'.ownBlock = some W.heap.size) : Gath B (n + 1) ll sites (rol rl 1 v') W0 W' v' (vs ++ [u]) := by
 have hs := stp_app hg (X := 1) (by omega) h.sets.role hl
 refine ⟨⟨ho, fun k hk => by unfold rol; rw [if_pos hk], by simp [h.sets.len], fun i hi => ?_⟩, rol_fr h.fr hg.size (fun k hk => (ho.lt k hk).2), fun i hi => ?_, h.bel.grown hg hB (fun k hk => (h.sets.own.lt k hk).1)⟩
 ·rw [nth_append]
  by_cases e : i < vs.length
  ·rw [if_pos e]
   exact (h.sets.mean i (by rw [← h.sets.len]; exact e)).step hs
  ·rw [if_neg e]
   have hi' : i = n := by have := h.sets.len; omega
   subst hi'
   have : i - vs.length = 0 := by have := h.sets.len; omega
   rw [this]
   exact hu.step hs
 ·by_cases e : i < n
  ·exact h.ok i e
  ·have : i = n := by omega
   subst this; exact hok
def posn (a1 a2 : List (List Int)) : Nat → Nat
 | 0 => 0
 | 1 => a1.length
 | _ => a1.length + a2.length
set_option maxHeartbeats 12800000 in
set_option maxRecDepth 100000 in
theorem Closed_any (s : Sy) (cv u1 u2 : Value) (a1 a2 : List (List Int)) (W : World) (hc : ConsIn W cv s.cons) (hs : Sm s) (hu : PtsIn W u1 u2 a1 a2) (hl1 : a1.length ≤ 100) (hl2 : a2.length ≤ 100) :
  Calls Tryz.prog 45 #[SysV s cv, .agg #[u1, u2]] W fun e W' => ∃ b, e = .returned (.bool b) ∧ (b = true ↔ ClosedP s a1 a2) ∧ Below W.heap.size W W' := by
 obtain ⟨⟨us1, hu1⟩, us2, hu2⟩ := hu
 obtain ⟨ua1, uc1, e1, hm1, hi1, hcl1, hb1⟩ := hu1.1.out1 sInt2
 obtain ⟨ua2, uc2, e2, hm2, hi2, hcl2, hb2⟩ := hu2.1.out1 sInt2
 rw [hu1.2.1] at e1 hm1 hi1 hcl1 hb1
 rw [hu2.2.1] at e2 hm2 hi2 hcl2 hb2
 subst e1 e2
 obtain ⟨ca, cc, rfl, hlen, hci, hcc⟩ := hc.out
 have HC := Lib.hid (And.intro hc (And.intro hs (And.intro hu1 (And.intro hu2 (And.intro hcl1 (And.intro hb1 (And.intro hcl2 (And.intro hb2 hcc))))))))
 have hlc := hs.cons
 clear hc hs hu1 hu2 hcl1 hb1 hcl2 hb2 hcc
 unfold SysV
 have hbs := BoxS.new W s (.slice ca s.cons.length cc) 24
 have gB := grownBy_alloc (W.alloc (.cells #[.int .i64 s.vars, .int .i64 s.sites, .int .i64 s.fields, .slice ca s.cons.length cc] 24)) (.cells #[.slice ua1 a1.length uc1, .slice ua2 a2.length uc2] 34)
 have hbs2 := hbs.grown gB (by simp)
 have hpn := cells_new (W := W.alloc (.cells #[.int .i64 s.vars, .int .i64 s.sites, .int .i64 s.fields, .slice ca s.cons.length cc] 24)) (cs := [.slice ua1 a1.length uc1, .slice ua2 a2.length uc2]) (t := 34) (B := W.heap.size + 1) (by simp)
 have hbb := below2' W (.cells #[.int .i64 s.vars, .int .i64 s.sites, .int .i64 s.fields, .slice ca s.cons.length cc] 24) (.cells #[.slice ua1 a1.length uc1, .slice ua2 a2.length uc2] 34)
 have H0 := Lib.hid (And.intro hbs2 (And.intro (hpn 0 _ rfl) (And.intro (hpn 1 _ rfl) hbb)))
 clear hbs gB hbs2 hpn hbb
 go_enter Tryz.func45, Tryz.ntmps45
 go_wp2_with fail
 refine (Check_any s (.slice ca s.cons.length cc) _ (HC.out.1.below H0.out.2.2.2) HC.out.2.1).mono ?_
 rintro e W1 ⟨rfl, q1⟩
 have g1 := grownBy_below q1
 have hb1 : Below W.heap.size W W1 := H0.out.2.2.2.trans (q1.mono H0.out.2.2.2.size)
 have bx1 := H0.out.1.grown g1 (by simp)
 have p0 : W1.cell? ⟨W.heap.size + 1, 0, none⟩ = some (.slice ua1 a1.length uc1) := g1.cell H0.out.2.1 (by simp)
 have p1 : W1.cell? ⟨W.heap.size + 1, 1, none⟩ = some (.slice ua2 a2.length uc2) := g1.cell H0.out.2.2.1 (by simp)
 obtain ⟨d0, d1, d2, d3⟩ := bx1
 have H1 := Lib.hid hb1
 clear q1 g1 hb1 H0
 by_cases h0 : chkCode s = 0
 ·have hv := chkCode_ok.1 h0
  have ev : s.vars = (s.S.vars : Int) := (Int.toNat_of_nonneg hv.vars).symm
  have es : s.sites = (s.S.sites : Int) := (Int.toNat_of_nonneg hv.sites).symm
  have ef : s.fields = (s.S.fields : Int) := (Int.toNat_of_nonneg hv.fields).symm
  have hmul : s.sites * s.fields = ((s.S.sites * s.S.fields : Nat) : Int) := by rw [es, ef]; simp
  have hm0 : 0 ≤ s.sites * s.fields := by rw [hmul]; omega
  have hm1' : s.sites * s.fields ≤ 60 := by
   have b2 := HC.out.2.1.sites
   have b3 := HC.out.2.1.fields
   have h : s.sites * s.fields ≤ 12 * 5 := Int.mul_le_mul (by omega) (by omega) hv.fields (by omega)
   omega
  rw [h0]
  have HV := Lib.hid (And.intro h0 (And.intro hv (And.intro ev (And.intro es (And.intro ef hmul)))))
  clear h0 hv
  by_cases hl : (a1.length : Int) = s.vars
  ·have hne1 : ((a1.length : Int) != s.vars) = false := by simpa using hl
   by_cases hl' : (a2.length : Int) = s.sites * s.fields
   ·have hne2 : ((a2.length : Int) != s.sites * s.fields) = false := by simpa using hl'
    have HL := Lib.hid (And.intro hl hl')
    clear hl hl' ev es ef hmul
    go_wp2_with fail
    have gA := grownBy_alloc W1 (.cells #[.slice ua1 a1.length uc1, .slice ua2 a2.length uc2] 27)
    have ln := cells_new (W := W1) (cs := [.slice ua1 a1.length uc1, .slice ua2 a2.length uc2]) (t := 27) rfl
    refine wp_gen (fun Z => BoxS Z W.heap.size s (.slice ca s.cons.length cc) ∧ Z.cell? ⟨W1.heap.size, 0, none⟩ = some (.slice ua1 a1.length uc1) ∧ Z.cell? ⟨W1.heap.size, 1, none⟩ = some (.slice ua2 a2.length uc2) ∧ Below W.heap.size W Z ∧ W1.heap.size < Z.heap.size) ⟨⟨gA.cell d0 (by simp), gA.cell d1 (by simp), gA.cell d2 (by simp), gA.cell d3 (by simp)⟩, ln 0 _ rfl, ln 1 _ rfl, H1.out.grown gA H1.out.size (by simp), by simp⟩ ?_
    clear gA ln d0 d1 d2 d3 p0 p1 hm0 hm1'
    rintro W2 ⟨bx2, l0, l1, be2, lt2⟩
    obtain ⟨B, hB⟩ : ∃ B, B = W2.heap.size := ⟨_, rfl⟩
    obtain ⟨lb, hlb⟩ : ∃ lb, lb = W1.heap.size := ⟨_, rfl⟩
    obtain ⟨bs, hbs⟩ : ∃ bs, bs = W.heap.size := ⟨_, rfl⟩
    obtain ⟨bp, hbp⟩ : ∃ bp, bp = W.heap.size + 1 := ⟨_, rfl⟩
    have hbsB : bs < B := by rw [hB, hbs]; exact World.block_lt_of_cell? W2 ⟨W.heap.size, 0, none⟩ bx2.1
    have HB := Lib.hid (And.intro hB (And.intro be2 hbsB))
    rw [← hbs] at bx2
    have HBX := Lib.hid bx2
    have hlbB : lb < B := by omega
    rw [← hlb] at l0 l1
    have HLB := Lib.hid (And.intro l0 (And.intro l1 hlbB))
    rw [← hlb, ← hbp, ← hbs]
    have HBS := Lib.hid hbs
    clear hlb hbp hbs hB be2 lt2 bx2 l0 l1 hlbB hbsB
    have HU1 := Lib.hid (And.intro (fun j hj => by rw [HB.out.2.1.cell (p := ⟨blk ua1, ofs ua1 + j, none⟩) (HC.out.2.2.2.2.2.1 j hj)]; exact HC.out.2.2.2.2.1 j hj : ∀ j, j < a1.length → W2.cell? ⟨blk ua1, ofs ua1 + j, none⟩ = some (nth us1 j)) (And.intro (fun j hj => by have h1 := HC.out.2.2.2.2.2.1 j hj; have h2 := HB.out.2.1.size; have h3 := HB.out.1; omega : ∀ j, j < a1.length → blk ua1 < B) (HC.out.2.2.1.below HB.out.2.1)))
    have HU2 := Lib.hid (And.intro (fun j hj => by rw [HB.out.2.1.cell (p := ⟨blk ua2, ofs ua2 + j, none⟩) (HC.out.2.2.2.2.2.2.2.1 j hj)]; exact HC.out.2.2.2.2.2.2.1 j hj : ∀ j, j < a2.length → W2.cell? ⟨blk ua2, ofs ua2 + j, none⟩ = some (nth us2 j)) (And.intro (fun j hj => by have h1 := HC.out.2.2.2.2.2.2.2.1 j hj; have h2 := HB.out.2.1.size; have h3 := HB.out.1; omega : ∀ j, j < a2.length → blk ua2 < B) (HC.out.2.2.2.1.below HB.out.2.1)))
    go_loopw [5, 7, 42] (fun o _ x wr => ∃ (q n : Nat) (xa : Option Addr) (xc : Nat) (vs : List Value) (rl : Nat → Nat), q ≤ 2 ∧ x = .int .i64 q ∧ o = .slice xa n xc ∧ Hid (n = posn a1 a2 q ∧ Gath B n (a1 ++ a2) s.sites rl W2 wr (.slice xa n xc) vs)) (fun _ _ x _ => 2 - (intOf x).toNat)
    case atStart => exact ⟨0, 0, none, 0, [], _, by omega, rfl, rfl, rfl, Gath.start⟩
    case round =>
     obtain ⟨q, b0, xa0, xc0, vs0, rl0, hq, rfl, rfl, hhp⟩ := hrel
     have k0 : wr.cell? ⟨lb, 0, none⟩ = some (.slice ua1 a1.length uc1) := by rw [hhp.out.2.bel.cell (p := ⟨lb, 0, none⟩) HLB.out.2.2]; exact HLB.out.1
     have k1 : wr.cell? ⟨lb, 1, none⟩ = some (.slice ua2 a2.length uc2) := by rw [hhp.out.2.bel.cell (p := ⟨lb, 1, none⟩) HLB.out.2.2]; exact HLB.out.2.1
     have hh := Lib.hid hhp.out.2
     have hq3 : q = 0 ∨ q = 1 ∨ q = 2 := by omega
     rcases hq3 with rfl | rfl | rfl
     ·rw [show ((0 : Nat) : Int) = 0 from rfl]
      have Hb0 := Lib.hid (show b0 = 0 from hhp.out.1)
      have HU := HU1
      clear hhp
      go_wp2_with fail
      clear k0 k1
      go_loopw [5, 9, 10, 11, 48] (fun o _ _ _ x wr2 => ∃ (j : Nat) (xa : Option Addr) (xc : Nat) (vs : List Value) (rl : Nat → Nat), j ≤ a1.length ∧ x = .int .i64 j ∧ o = .slice xa (b0 + j) xc ∧ Hid (Gath B (b0 + j) (a1 ++ a2) s.sites rl W2 wr2 (.slice xa (b0 + j) xc) vs)) (fun _ _ _ _ x _ => a1.length - (intOf x).toNat)
      case atStart => exact ⟨0, _, _, vs0, rl0, by omega, rfl, rfl, hh.out⟩
      case round =>
       obtain ⟨j, xa, xc, vs, rl, hj, rfl, rfl, hg⟩ := hrel
       by_cases hlt : j < a1.length
       ·have hcu : wr.cell? ⟨blk ua1, ofs ua1 + j, none⟩ = some (nth us1 j) := by rw [hg.out.bel.cell (p := ⟨blk ua1, ofs ua1 + j, none⟩) (HU.out.2.1 j hlt)]; exact HU.out.1 j hlt
        have hint : Ints W2 (nth us1 j) (nth a1 j) := HU.out.2.2.2.2 j hlt
        obtain ⟨ea, ec, hea, hem, -⟩ := hint.out1 sInt
        rw [hea] at hcu hint
        have hnl : nth (a1 ++ a2) (b0 + j) = nth a1 j := by rw [nth_append]; rw [if_pos (by have := Hb0.out; omega), Hb0.out, Nat.zero_add]
        have dsites : wr.cell? ⟨bs, 1, none⟩ = some (.int .i64 s.sites) := by rw [hg.out.bel.cell (p := ⟨bs, 1, none⟩) HB.out.2.2]; exact HBX.out.2.1
        have hintr : Ints wr (.slice ea (nth a1 j).length ec) (nth a1 j) := hint.below (by rw [← HB.out.1]; exact hg.out.bel)
        have hin : b0 + j < (a1 ++ a2).length := by have := Hb0.out; simp; omega
        have HI := Lib.hid (And.intro hintr (And.intro hnl hin))
        obtain ⟨l, hl⟩ : ∃ l, l = nth a1 j := ⟨_, rfl⟩
        rw [← hl] at HI hcu
        have hBw : B ≤ wr.heap.size := by rw [HB.out.1]; exact hg.out.bel.size
        clear hint hea hintr hnl hl hin
        go_wp2_with fail
        refine (subset_any _ l s.sites _ HI.out.1).mono ?_
        rintro e W3 ⟨rfl, hq3⟩
        have hg3 := hg.out.keep hBw (grownBy_qt hq3)
        have HG3 := Lib.hid (And.intro hg3 (HI.out.1.qt hq3))
        have hB3 : B ≤ W3.heap.size := Nat.le_trans hBw (grownBy_qt hq3).size
        clear hg3 hq3
        cases hsb : subB l s.sites
        ·go_wp2_with fail
         go_ret
         refine ⟨false, rfl, ⟨fun h => absurd h Bool.false_ne_true, fun h => ?_⟩, HB.out.2.1.trans (HG3.out.1.bel.mono (by have := HB.out.1; have := HB.out.2.1.size; omega))⟩
         have := (h.ok (b0 + j) HI.out.2.2).1
         rw [HI.out.2.1, hsb] at this; cases this
        ·go_wp2_with fail
         refine (ascending_any _ l _ HG3.out.2).mono ?_
         rintro e W4 ⟨rfl, hq4⟩
         have hg4 := HG3.out.1.keep hB3 (grownBy_qt hq4)
         have HG4 := Lib.hid (And.intro hg4 (HG3.out.2.qt hq4))
         have hB4 : B ≤ W4.heap.size := Nat.le_trans hB3 (grownBy_qt hq4).size
         clear hg4 hq4
         cases has : ascB l
         ·go_wp2_with fail
          go_ret
          refine ⟨false, rfl, ⟨fun h => absurd h Bool.false_ne_true, fun h => ?_⟩, HB.out.2.1.trans (HG4.out.1.bel.mono (by have := HB.out.1; have := HB.out.2.1.size; omega))⟩
          have := (h.ok (b0 + j) HI.out.2.2).2
          rw [HI.out.2.1, has] at this; cases this
         ·have hpos : ∀ x ∈ l, 0 ≤ x ∧ x < s.sites := fun x hx => by
           obtain ⟨i, hi, rfl⟩ := mem_nth hx
           exact (subB_iff _ _).1 hsb i hi
          have hcast := cast_toNat (l := l) fun x hx => (hpos x hx).1
          have HO := Lib.hid (And.intro hpos (And.intro hcast (And.intro hsb has)))
          clear hpos hcast
          go_wp2_with fail
          refine (Of_S (rl := rl) (s := l.map Int.toNat) (by rw [HO.out.2.1]; exact HG4.out.2) (fun x hx => by obtain ⟨y, hy, rfl⟩ := List.mem_map.1 hx; have := HO.out.1 y hy; have := HC.out.2.1.sites; omega) HG4.out.1.fr).mono ?_
          rintro e W5 ⟨oa, on, oc, os, rfl, hos, hosm, q5⟩
          have hg5 := HG4.out.1.keep hB4 (grownBy_below q5)
          have hmem : IsS rl W5 (.slice oa on oc) (memP (a1 ++ a2) (b0 + j)) := hos.ext fun x => by
           have h1 : os x = true ↔ (x : Int) ∈ l := by
            rw [hosm]
            constructor
            ·intro h
             obtain ⟨y, hy, e⟩ := List.mem_map.1 h
             have := (HO.out.1 y hy).1
             have e2 : (x : Int) = y := by omega
             rw [e2]; exact hy
            ·intro h
             exact List.mem_map.2 ⟨_, h, by simp⟩
           unfold memP
           rw [HI.out.2.1]
           rw [Bool.eq_iff_iff, h1]; simp
          have hB5 : B ≤ W5.heap.size := Nat.le_trans hB4 q5.size
          have hgA := hg5.keep hB5 (grownBy_alloc W5 (.cells #[.slice oa on oc] 66))
          have HG5 := Lib.hid (And.intro hgA (hmem.ex (Ext.grown (rl := rl) (grownBy_alloc W5 (.cells #[.slice oa on oc] 66)))))
          have hb200 : b0 + j ≤ 300 := by have := Hb0.out; omega
          clear hg5 hmem hgA q5 hos hosm dsites hcu
          go_wp2_with (at_builtin; refine wp_appendS (f := fun x : Value => x) sBits2 rfl rfl _ _ rfl B (.slice xa (b0 + j) xc) vs rfl (.slice (some ⟨W5.heap.size, 0, none⟩) 1 1) [.slice oa on oc] rfl HG5.out.1.sets.own (src_one _ (cell_at1 rfl)) (fun y hy => by simp at hy; subst hy; rfl) (by have := HG5.out.1.sets.len; simp; omega) (by omega) (by simp; omega) ?_; intro v6 W6 o6 g6 l6)
          obtain ⟨s6, c6, rfl⟩ := o6.shape (n := b0 + (j + 1)) (by have := HG5.out.1.sets.len; simp; omega)
          have hp6 := HG5.out.1.push (by simp; omega) HG5.out.2 (by rw [HI.out.2.1]; exact HO.out.2.2) o6 g6 l6
          have H6 := Lib.hid hp6
          clear hp6 o6 g6 l6
          go_wp2_with fail
          go_roundw
          case rel => exact ⟨j + 1, s6, c6, _, _, by omega, by go_num, rfl, H6.out⟩
          case measure => simp [intOf]; omega
       ·obtain rfl : j = a1.length := by omega
        have H7 := Lib.hid hg.out
        clear hg
        go_wp2_with fail
        go_roundw
        case rel => exact ⟨1, b0 + a1.length, xa, xc, vs, rl, by omega, rfl, rfl, (by rw [Hb0.out, Nat.zero_add]; rfl), H7.out⟩
        case measure => simp [intOf]
     ·rw [show ((1 : Nat) : Int) = 1 from rfl]
      have Hb0 := Lib.hid (show b0 = a1.length from hhp.out.1)
      have HU := HU2
      clear hhp
      go_wp2_with fail
      clear k0 k1
      go_loopw [5, 9, 10, 11, 48] (fun o _ _ _ x wr2 => ∃ (j : Nat) (xa : Option Addr) (xc : Nat) (vs : List Value) (rl : Nat → Nat), j ≤ a2.length ∧ x = .int .i64 j ∧ o = .slice xa (b0 + j) xc ∧ Hid (Gath B (b0 + j) (a1 ++ a2) s.sites rl W2 wr2 (.slice xa (b0 + j) xc) vs)) (fun _ _ _ _ x _ => a2.length - (intOf x).toNat)
      case atStart => exact ⟨0, _, _, vs0, rl0, by omega, rfl, rfl, hh.out⟩
      case round =>
       obtain ⟨j, xa, xc, vs, rl, hj, rfl, rfl, hg⟩ := hrel
       by_cases hlt : j < a2.length
       ·have hcu : wr.cell? ⟨blk ua2, ofs ua2 + j, none⟩ = some (nth us2 j) := by rw [hg.out.bel.cell (p := ⟨blk ua2, ofs ua2 + j, none⟩) (HU.out.2.1 j hlt)]; exact HU.out.1 j hlt
        have hint : Ints W2 (nth us2 j) (nth a2 j) := HU.out.2.2.2.2 j hlt
        obtain ⟨ea, ec, hea, hem, -⟩ := hint.out1 sInt
        rw [hea] at hcu hint
        have hnl : nth (a1 ++ a2) (b0 + j) = nth a2 j := by rw [nth_append]; rw [if_neg (by have := Hb0.out; omega), Hb0.out, Nat.add_sub_cancel_left]
        have dsites : wr.cell? ⟨bs, 1, none⟩ = some (.int .i64 s.sites) := by rw [hg.out.bel.cell (p := ⟨bs, 1, none⟩) HB.out.2.2]; exact HBX.out.2.1
        have hintr : Ints wr (.slice ea (nth a2 j).length ec) (nth a2 j) := hint.below (by rw [← HB.out.1]; exact hg.out.bel)
        have hin : b0 + j < (a1 ++ a2).length := by have := Hb0.out; simp; omega
        have HI := Lib.hid (And.intro hintr (And.intro hnl hin))
        obtain ⟨l, hl⟩ : ∃ l, l = nth a2 j := ⟨_, rfl⟩
        rw [← hl] at HI hcu
        have hBw : B ≤ wr.heap.size := by rw [HB.out.1]; exact hg.out.bel.size
        clear hint hea hintr hnl hl hin
        go_wp2_with fail
        refine (subset_any _ l s.sites _ HI.out.1).mono ?_
        rintro e W3 ⟨rfl, hq3⟩
        have hg3 := hg.out.keep hBw (grownBy_qt hq3)
        have HG3 := Lib.hid (And.intro hg3 (HI.out.1.qt hq3))
        have hB3 : B ≤ W3.heap.size := Nat.le_trans hBw (grownBy_qt hq3).size
        clear hg3 hq3
        cases hsb : subB l s.sites
        ·go_wp2_with fail
         go_ret
         refine ⟨false, rfl, ⟨fun h => absurd h Bool.false_ne_true, fun h => ?_⟩, HB.out.2.1.trans (HG3.out.1.bel.mono (by have := HB.out.1; have := HB.out.2.1.size; omega))⟩
         have := (h.ok (b0 + j) HI.out.2.2).1
         rw [HI.out.2.1, hsb] at this; cases this
        ·go_wp2_with fail
         refine (ascending_any _ l _ HG3.out.2).mono ?_
         rintro e W4 ⟨rfl, hq4⟩
         have hg4 := HG3.out.1.keep hB3 (grownBy_qt hq4)
         have HG4 := Lib.hid (And.intro hg4 (HG3.out.2.qt hq4))
         have hB4 : B ≤ W4.heap.size := Nat.le_trans hB3 (grownBy_qt hq4).size
         clear hg4 hq4
         cases has : ascB l
         ·go_wp2_with fail
          go_ret
          refine ⟨false, rfl, ⟨fun h => absurd h Bool.false_ne_true, fun h => ?_⟩, HB.out.2.1.trans (HG4.out.1.bel.mono (by have := HB.out.1; have := HB.out.2.1.size; omega))⟩
          have := (h.ok (b0 + j) HI.out.2.2).2
          rw [HI.out.2.1, has] at this; cases this
         ·have hpos : ∀ x ∈ l, 0 ≤ x ∧ x < s.sites := fun x hx => by
           obtain ⟨i, hi, rfl⟩ := mem_nth hx
           exact (subB_iff _ _).1 hsb i hi
          have hcast := cast_toNat (l := l) fun x hx => (hpos x hx).1
          have HO := Lib.hid (And.intro hpos (And.intro hcast (And.intro hsb has)))
          clear hpos hcast
          go_wp2_with fail
          refine (Of_S (rl := rl) (s := l.map Int.toNat) (by rw [HO.out.2.1]; exact HG4.out.2) (fun x hx => by obtain ⟨y, hy, rfl⟩ := List.mem_map.1 hx; have := HO.out.1 y hy; have := HC.out.2.1.sites; omega) HG4.out.1.fr).mono ?_
          rintro e W5 ⟨oa, on, oc, os, rfl, hos, hosm, q5⟩
          have hg5 := HG4.out.1.keep hB4 (grownBy_below q5)
          have hmem : IsS rl W5 (.slice oa on oc) (memP (a1 ++ a2) (b0 + j)) := hos.ext fun x => by
           have h1 : os x = true ↔ (x : Int) ∈ l := by
            rw [hosm]
            constructor
            ·intro h
             obtain ⟨y, hy, e⟩ := List.mem_map.1 h
             have := (HO.out.1 y hy).1
             have e2 : (x : Int) = y := by omega
             rw [e2]; exact hy
            ·intro h
             exact List.mem_map.2 ⟨_, h, by simp⟩
           unfold memP
           rw [HI.out.2.1]
           rw [Bool.eq_iff_iff, h1]; simp
          have hB5 : B ≤ W5.heap.size := Nat.le_trans hB4 q5.size
          have hgA := hg5.keep hB5 (grownBy_alloc W5 (.cells #[.slice oa on oc] 66))
          have HG5 := Lib.hid (And.intro hgA (hmem.ex (Ext.grown (rl := rl) (grownBy_alloc W5 (.cells #[.slice oa on oc] 66)))))
          have hb200 : b0 + j ≤ 300 := by have := Hb0.out; omega
          clear hg5 hmem hgA q5 hos hosm dsites hcu
          go_wp2_with (at_builtin; refine wp_appendS (f := fun x : Value => x) sBits2 rfl rfl _ _ rfl B (.slice xa (b0 + j) xc) vs rfl (.slice (some ⟨W5.heap.size, 0, none⟩) 1 1) [.slice oa on oc] rfl HG5.out.1.sets.own (src_one _ (cell_at1 rfl)) (fun y hy => by simp at hy; subst hy; rfl) (by have := HG5.out.1.sets.len; simp; omega) (by omega) (by simp; omega) ?_; intro v6 W6 o6 g6 l6)
          obtain ⟨s6, c6, rfl⟩ := o6.shape (n := b0 + (j + 1)) (by have := HG5.out.1.sets.len; simp; omega)
          have hp6 := HG5.out.1.push (by simp; omega) HG5.out.2 (by rw [HI.out.2.1]; exact HO.out.2.2) o6 g6 l6
          have H6 := Lib.hid hp6
          clear hp6 o6 g6 l6
          go_wp2_with fail
          go_roundw
          case rel => exact ⟨j + 1, s6, c6, _, _, by omega, by go_num, rfl, H6.out⟩
          case measure => simp [intOf]; omega
       ·obtain rfl : j = a2.length := by omega
        have H7 := Lib.hid hg.out
        clear hg
        go_wp2_with fail
        go_roundw
        case rel => exact ⟨2, b0 + a2.length, xa, xc, vs, rl, by omega, rfl, rfl, (by rw [Hb0.out]; rfl), H7.out⟩
        case measure => simp [intOf]
     ·have hn : b0 = s.S.N := by
       have h1 : b0 = a1.length + a2.length := hhp.out.1
       have h2 := HL.out.1
       have h3 := HL.out.2
       rw [HV.out.2.2.1] at h2
       rw [HV.out.2.2.2.2.2] at h3
       rw [h1]; unfold Syst.N; omega
      have hN := Lib.hid (And.intro hn hhp.out.1)
      clear hhp k0 k1
      rw [show ((2 : Nat) : Int) = 2 from rfl]
      subst hn
      have dc : wr.cell? ⟨bs, 3, none⟩ = some (.slice ca s.cons.length cc) := by rw [hh.out.bel.cell (p := ⟨bs, 3, none⟩) HB.out.2.2]; exact HBX.out.2.2.2
      go_wp2_with fail
      clear dc
      obtain ⟨W6, hW6⟩ : ∃ W6, W6 = wr := ⟨_, rfl⟩
      have hB6 : Below W.heap.size W W6 := by rw [hW6]; exact HB.out.2.1.trans (hh.out.bel.mono (by have := HB.out.1; have := HB.out.2.1.size; omega))
      have hsets : SetsIn s.S.N W6 (.slice xa0 s.S.N xc0) vs0 (memP (a1 ++ a2)) := by rw [hW6]; exact ⟨hh.out.sets.own.lst, hh.out.sets.len, fun i hi => (hh.out.sets.mean i hi).zero⟩
      have hbx6 : BoxS W6 bs s (.slice ca s.cons.length cc) := by rw [hW6]; exact HBX.out.grown (row := none) ⟨hh.out.bel.os, hh.out.bel.tape, hh.out.bel.output, hh.out.bel.size, fun k hk _ => hh.out.bel.block k (by rw [HB.out.1]; exact hk)⟩ (by simp)
      have hok6 : ∀ i, i < s.S.N → subB (nth (a1 ++ a2) i) s.sites = true ∧ ascB (nth (a1 ++ a2) i) = true := hh.out.ok
      have H6 := Lib.hid (And.intro hB6 (And.intro hsets (And.intro hbx6 hok6)))
      rw [← hW6]
      clear hW6 hB6 hsets hbx6 hok6 hh
      go_loopw [13, 76] (fun _ x wr => ∃ k : Nat, k ≤ s.cons.length ∧ x = .int .i64 k ∧ Hid (Below W6.heap.size W6 wr ∧ ∀ i, i < k → Holds s.S (fun i x => memP (a1 ++ a2) i x = true) (nth s.S.cons i))) (fun _ x _ => s.cons.length - (intOf x).toNat)
      case atStart => exact ⟨0, by omega, rfl, Below.refl _ _, fun i hi => by omega⟩
      case round =>
       obtain ⟨k, hk, rfl, hh⟩ := hrel
       by_cases hlt : k < s.cons.length
       ·obtain ⟨sa, sn, sc, c0, c1, c2, c3, c4, hset, hbl⟩ := HC.out.2.2.2.2.2.2.2.2 k hlt
        have hbw : Below W.heap.size W wr := H6.out.1.trans (hh.out.1.mono H6.out.1.size)
        rw [← hbw.cell (p := ⟨blk ca, ofs ca + k * 5, none⟩) hbl] at c0
        rw [← hbw.cell (p := ⟨blk ca, ofs ca + k * 5 + 1, none⟩) hbl] at c1
        rw [← hbw.cell (p := ⟨blk ca, ofs ca + k * 5 + 2, none⟩) hbl] at c2
        rw [← hbw.cell (p := ⟨blk ca, ofs ca + k * 5 + 3, none⟩) hbl] at c3
        rw [← hbw.cell (p := ⟨blk ca, ofs ca + k * 5 + 4, none⟩) hbl] at c4
        have hvc := HV.out.2.1.cons _ (nth_mem _ _ hlt)
        have hjS : k < s.S.cons.length := by show k < (s.cons.map R.C).length; rw [List.length_map]; exact hlt
        have hcn : nth s.S.cons k = (nth s.cons k).C := nth_map' _ _ _ hlt
        have hok := HV.out.2.1.ok _ (nth_mem _ _ hjS)
        have k0 : (nth s.cons k).k = ((nth s.S.cons k).k : Int) := by rw [hcn]; have := hvc.kind; show _ = (((nth s.cons k).k.toNat : Nat) : Int); omega
        have k1 : (nth s.cons k).a = ((nth s.S.cons k).a : Int) := by rw [hcn]; have := hvc.a.1; show _ = (((nth s.cons k).a.toNat : Nat) : Int); omega
        have k2 : (nth s.cons k).b = ((nth s.S.cons k).b : Int) := by rw [hcn]; have := hvc.b.1; show _ = (((nth s.cons k).b.toNat : Nat) : Int); omega
        have k3 : (nth s.cons k).f = ((nth s.S.cons k).f : Int) := by rw [hcn]; have := hvc.f'; show _ = (((nth s.cons k).f.toNat : Nat) : Int); omega
        have k4 : (nth s.cons k).s = (nth s.S.cons k).s.map (fun x : Nat => (x : Int)) := by
         rw [hcn]; exact (cast_toNat fun x hx => (hvc.s x hx).1).symm
        rw [k0] at c0
        rw [k1] at c1
        rw [k2] at c2
        rw [k3] at c3
        rw [k4] at hset
        obtain ⟨d0, d1, d2, d3⟩ := H6.out.2.2.1.grown (grownBy_below hh.out.1) (by simp)
        obtain ⟨c, hc⟩ : ∃ c, c = nth s.S.cons k := ⟨_, rfl⟩
        rw [← hc] at c0 c1 c2 c3 hset hok
        have hg9 := grownBy_alloc wr (.cells #[.int .i64 (c.k : Int), .int .i64 c.a, .int .i64 c.b, .int .i64 c.f, .slice sa sn sc] 48)
        have HS := Lib.hid (And.intro hok (And.intro (hset.below hbw) (And.intro hc hg9)))
        have hbwl : bs < wr.heap.size := World.block_lt_of_cell? wr ⟨bs, 0, none⟩ d0
        have n1 : bs ≠ wr.heap.size := by omega
        clear hbw hvc hjS hcn hok k0 k1 k2 k3 k4 hset hc hbl hg9
        go_wp2_with fail
        have hsat := satisfied_any s.S (.slice ca s.cons.length cc) c sa sn sc xa0 xc0 vs0 (memP (a1 ++ a2)) (wr.alloc (.cells #[.int .i64 (c.k : Int), .int .i64 c.a, .int .i64 c.b, .int .i64 c.f, .slice sa sn sc] 48)) ((H6.out.2.1.below hh.out.1).below ((Below.refl _ _).alloc (Nat.le_refl _) _)) HS.out.1
         ⟨by have := HC.out.2.1.vars; show s.vars.toNat ≤ 40; omega, by have := HC.out.2.1.sites; show s.sites.toNat ≤ 12; omega, by have := HC.out.2.1.fields; show s.fields.toNat ≤ 5; omega, HC.out.2.1.bnd.N⟩
         (HS.out.2.1.grown HS.out.2.2.2 (by simp)) (fun i x hx => by
          unfold memP at hx
          simp only [decide_eq_true_eq] at hx
          by_cases hi : i < s.S.N
          ·have := (H6.out.2.2.2 i hi).1
           obtain ⟨q, hq, e⟩ := mem_nth hx
           have h3 := (subB_iff _ _).1 this q hq
           rw [e] at h3
           show x < s.sites.toNat
           omega
          ·rw [nth_out _ _ (by have h1 : s.S.N = a1.length + a2.length := hN.out.2; simp; omega)] at hx
           cases hx)
        rw [← HV.out.2.2.1, ← HV.out.2.2.2.1, ← HV.out.2.2.2.2.1] at hsat
        refine hsat.mono ?_
        clear hsat
        rintro e W8 ⟨b, rfl, hb, q8⟩
        have g8 := grownBy_trans HS.out.2.2.2 (grownBy_below q8)
        have H8 := Lib.hid (And.intro hb (hh.out.1.grown g8 hh.out.1.size (by simp)))
        clear hb g8 q8 c0 c1 c2 c3 c4 d0 d1 d2 d3
        cases b
        ·go_wp2_with fail
         go_ret
         refine ⟨false, rfl, ⟨fun h => absurd h Bool.false_ne_true, fun h => ?_⟩, H6.out.1.trans (H8.out.2.mono H6.out.1.size)⟩
         refine absurd (H8.out.1.2 ?_) Bool.false_ne_true
         have := h.shut c (by rw [HS.out.2.2.1]; exact nth_mem _ _ (by show k < (s.cons.map R.C).length; rw [List.length_map]; exact hlt))
         simpa [memP] using this
        ·go_wp2_with fail
         go_roundw
         case rel => exact ⟨k + 1, by omega, by go_num, H8.out.2, fun i hi => by
          by_cases e : i = k
          ·subst e
           rw [← HS.out.2.2.1]
           exact H8.out.1.1 (by first | rfl | trivial)
          ·exact hh.out.2 i (by omega)⟩
         case measure => simp [intOf]; omega
       ·have HE := Lib.hid hh.out
        clear hh
        go_wp2_with fail
        go_ret
        refine ⟨true, rfl, ⟨fun _ => ⟨HV.out.1, ?_, ?_, ?_, ?_⟩, fun _ => rfl⟩, H6.out.1.trans (HE.out.1.mono H6.out.1.size)⟩
        ·have h2 := HL.out.1
         rw [HV.out.2.2.1] at h2; omega
        ·have h2 := HL.out.2
         rw [HV.out.2.2.2.2.2] at h2; omega
        ·intro i hi
         refine H6.out.2.2.2 i ?_
         have h1 : s.S.N = a1.length + a2.length := hN.out.2
         simp at hi; omega
        ·intro c hc
         obtain ⟨i, hi, rfl⟩ := mem_nth hc
         have := HE.out.2 i (by have : i < (s.cons.map R.C).length := hi; rw [List.length_map] at this; omega)
         simpa [memP] using this
   ·have hne2 : ((a2.length : Int) != s.sites * s.fields) = true := by simpa using hl'
    clear ev es ef hmul
    go_wp2_with fail
    go_ret
    refine ⟨false, rfl, ⟨fun h => absurd h Bool.false_ne_true, fun h => ?_⟩, H1.out⟩
    exact absurd (by rw [HV.out.2.2.2.2.2, h.l2]) hl'
  ·have hne1 : ((a1.length : Int) != s.vars) = true := by simpa using hl
   clear ev es ef hmul
   go_wp2_with fail
   go_ret
   refine ⟨false, rfl, ⟨fun h => absurd h Bool.false_ne_true, fun h => ?_⟩, H1.out⟩
   exact absurd (by rw [HV.out.2.2.1, h.l1]) hl
 ·have hz : (chkCode s != 0) = true := by simpa using h0
  have HZ := Lib.hid h0
  clear h0
  go_wp2_with fail
  go_ret
  exact ⟨false, rfl, ⟨fun h => absurd h Bool.false_ne_true, fun h => absurd h.chk HZ.out⟩, H1.out⟩
end Go.Proofs.YtgblfjccccdidaaGreat
end
section
namespace Go.Proofs.YtgblfjccccdidaaGreat
open Go.RowKit Go.Dfl Go.And
theorem IsSol.small {S : Syst} {i : Nat} {l : List Int} (h : IsSol S i l) (hS : S.Ok) (hs : S.sites ≤ 12) : (∀ x ∈ l, 0 ≤ x ∧ x < S.sites) ∧ l.length ≤ 12 := by
 refine ⟨fun x hx => ?_, ?_⟩
 ·obtain ⟨h0, hp⟩ := (h.mem x).1 hx
  have := (pts_bound hS hp).2
  omega
 ·obtain ⟨L, rfl, h1, h2⟩ := h
  rw [List.length_map]
  have := sorted_len' h1 fun x hx => (pts_bound hS ((h2 x).1 hx)).2
  omega
theorem Sol.inR {S : Syst} {lu lv : List (List Int)} (h : Sol S lu lv) (hS : S.Ok) (hs : S.sites ≤ 12) : InR lu ∧ InR lv ∧ (∀ i, i < lu.length → (nth lu i).length ≤ 12) ∧ ∀ i, i < lv.length → (nth lv i).length ≤ 12 :=
 ⟨fun i hi x hx => by have := ((h.2.2.1 i (by rw [← h.1]; exact hi)).small hS hs).1 x hx; omega, fun i hi x hx => by have := ((h.2.2.2 i (by rw [← h.2.1]; exact hi)).small hS hs).1 x hx; omega,
  fun i hi => ((h.2.2.1 i (by rw [← h.1]; exact hi)).small hS hs).2, fun i hi => ((h.2.2.2 i (by rw [← h.2.1]; exact hi)).small hS hs).2⟩
def DeriveP (s : Sy) (a1 a2 : List (List Int)) : Prop := ClosedP s a1 a2 ∧ ∃ lu lv, Sol s.S lu lv ∧ winB a1 lu = true ∧ winB a2 lv = true
theorem PtsIn.shape {W : World} {u v : Value} {a b : List (List Int)} (h : PtsIn W u v a b) : ∃ ua uc va vc, u = .slice ua a.length uc ∧ v = .slice va b.length vc := by
 obtain ⟨⟨us, h1⟩, vs, h2⟩ := h
 obtain ⟨ua, uc, e1, -⟩ := h1.1.out1 sInt2
 obtain ⟨va, vc, e2, -⟩ := h2.1.out1 sInt2
 rw [h1.2.1] at e1
 rw [h2.2.1] at e2
 exact ⟨ua, uc, va, vc, e1, e2⟩
set_option maxHeartbeats 3200000 in
set_option maxRecDepth 100000 in
theorem Derive_any (s : Sy) (cv u1 u2 : Value) (a1 a2 : List (List Int)) (W : World) (hc : ConsIn W cv s.cons) (hs : Sm s) (hu : PtsIn W u1 u2 a1 a2) (hl1 : a1.length ≤ 100) (hl2 : a2.length ≤ 100) (r1 : InR a1) (r2 : InR a2) :
  Calls Tryz.prog 24 #[SysV s cv, .agg #[u1, u2]] W fun e W' => ∃ b, e = .returned (.bool b) ∧ (b = true ↔ DeriveP s a1 a2) ∧ Below W.heap.size W W' := by
 obtain ⟨ua1, uc1, ua2, uc2, rfl, rfl⟩ := hu.shape
 obtain ⟨ca, cc, rfl, -⟩ := hc.out
 have HC := Lib.hid (And.intro hc (And.intro hs (And.intro hu (And.intro r1 r2))))
 clear hc hs hu r1 r2
 unfold SysV
 have hbs := BoxS.new W s (.slice ca s.cons.length cc) 24
 have gB := grownBy_alloc (W.alloc (.cells #[.int .i64 s.vars, .int .i64 s.sites, .int .i64 s.fields, .slice ca s.cons.length cc] 24)) (.cells #[.slice ua1 a1.length uc1, .slice ua2 a2.length uc2] 34)
 have hbs2 := hbs.grown gB (by simp)
 have hpn := cells_new (W := W.alloc (.cells #[.int .i64 s.vars, .int .i64 s.sites, .int .i64 s.fields, .slice ca s.cons.length cc] 24)) (cs := [.slice ua1 a1.length uc1, .slice ua2 a2.length uc2]) (t := 34) (B := W.heap.size + 1) (by simp)
 have hbb := below2' W (.cells #[.int .i64 s.vars, .int .i64 s.sites, .int .i64 s.fields, .slice ca s.cons.length cc] 24) (.cells #[.slice ua1 a1.length uc1, .slice ua2 a2.length uc2] 34)
 have H0 := Lib.hid (And.intro hbs2 (And.intro (hpn 0 _ rfl) (And.intro (hpn 1 _ rfl) hbb)))
 clear hbs gB hbs2 hpn hbb
 go_enter Tryz.func24, Tryz.ntmps24
 go_wp2_with fail
 refine (Closed_any s (.slice ca s.cons.length cc) _ _ a1 a2 _ (HC.out.1.below H0.out.2.2.2) HC.out.2.1 (HC.out.2.2.1.below H0.out.2.2.2) hl1 hl2).mono ?_
 rintro e W1 ⟨b, rfl, hb, q1⟩
 have g1 := grownBy_below q1
 have hb1 : Below W.heap.size W W1 := H0.out.2.2.2.trans (q1.mono H0.out.2.2.2.size)
 obtain ⟨d0, d1, d2, d3⟩ := H0.out.1.grown g1 (by simp)
 have p0 : W1.cell? ⟨W.heap.size + 1, 0, none⟩ = some (.slice ua1 a1.length uc1) := g1.cell H0.out.2.1 (by simp)
 have p1 : W1.cell? ⟨W.heap.size + 1, 1, none⟩ = some (.slice ua2 a2.length uc2) := g1.cell H0.out.2.2.1 (by simp)
 have H1 := Lib.hid (And.intro hb1 hb)
 clear q1 g1 hb1 hb H0
 cases b
 ·go_wp2_with fail
  go_ret
  exact ⟨false, rfl, ⟨fun h => absurd h Bool.false_ne_true, fun h => absurd (H1.out.2.2 h.1) Bool.false_ne_true⟩, H1.out.1⟩
 ·have hcl : ClosedP s a1 a2 := H1.out.2.1 rfl
  have HCL := Lib.hid hcl
  clear hcl
  go_wp2_with fail
  refine (Solve_any s (.slice ca s.cons.length cc) _ (HC.out.1.below H1.out.1) HC.out.2.1).mono ?_
  rintro e W2 (⟨hbad, -⟩ | ⟨-, xa, xc, ya, yc, lu, lv, rfl, hpts, hsol, q2⟩)
  ·exact absurd HCL.out.chk hbad
  have g2 := grownBy_below q2
  have p2 : W2.cell? ⟨W.heap.size + 1, 0, none⟩ = some (.slice ua1 a1.length uc1) := g2.cell p0 (by simp)
  have p3 : W2.cell? ⟨W.heap.size + 1, 1, none⟩ = some (.slice ua2 a2.length uc2) := g2.cell p1 (by simp)
  have hb2 : Below W.heap.size W W2 := H1.out.1.trans (q2.mono H1.out.1.size)
  have hb3 : Below W.heap.size W (W2.alloc (.cells #[.slice xa s.S.vars xc, .slice ya (s.S.sites * s.S.fields) yc] 34)) := hb2.alloc hb2.size _
  have hpt3 := hpts.below (W' := W2.alloc (.cells #[.slice xa s.S.vars xc, .slice ya (s.S.sites * s.S.fields) yc] 34)) ((Below.refl _ _).alloc (Nat.le_refl _) _)
  have hInR := hsol.inR (chkCode_ok.1 HCL.out.chk).ok (by have := HC.out.2.1.sites; show s.sites.toNat ≤ 12; omega)
  have hplt : W.heap.size + 1 < W2.heap.size := World.block_lt_of_cell? W2 ⟨W.heap.size + 1, 0, none⟩ p2
  have hpn : W.heap.size + 1 ≠ W2.heap.size := by omega
  have H2 := Lib.hid (And.intro hb3 (And.intro hpt3 (And.intro hsol hInR)))
  clear hb2 hb3 hpt3 hsol hInR hpts q2 g2 p0 p1 d0 d1 d2 d3
  go_wp2_with fail
  refine (WithinP_any _ _ _ _ a1 a2 lu lv _ (HC.out.2.2.1.below H2.out.1) H2.out.2.1 HC.out.2.2.2.1 HC.out.2.2.2.2 H2.out.2.2.2.1 H2.out.2.2.2.2.1 (fun i hi => Nat.le_trans (H2.out.2.2.2.2.2.1 i hi) (by omega)) (fun i hi => Nat.le_trans (H2.out.2.2.2.2.2.2 i hi) (by omega))).mono ?_
  rintro e W3 ⟨rfl, q3⟩
  have H3 := Lib.hid (H2.out.1.trans (q3.mono H2.out.1.size))
  clear q3 p2 p3
  generalize hw : (winB a1 lu && winB a2 lv) = bb at *
  have HW := Lib.hid hw
  clear hw
  go_wp2_with fail
  go_ret
  refine ⟨bb, rfl, ?_, H3.out⟩
  rw [← HW.out, Bool.and_eq_true]
  constructor
  ·intro h
   exact ⟨HCL.out, lu, lv, H2.out.2.2.1, h⟩
  ·rintro ⟨-, lu', lv', hs', h'⟩
   obtain ⟨rfl, rfl⟩ := H2.out.2.2.1.unique hs'
   exact h'
end Go.Proofs.YtgblfjccccdidaaGreat
end
section
namespace Go.Proofs.YtgblfjccccdidaaGreat
open Go.ChangeShapes Go.WideShapes Go.ChangeAt Go.RowKit Go.Dfl Go.Clp Go.Tj
open Go.And (R Sy Vld Sm chkCode chkCode_ok colC_sm Syst)
set_option maxHeartbeats 12800000 in
set_option maxRecDepth 100000 in
theorem CollapseEqual_walk (s : Sy) (cv : Value) (W : World) (hc : ConsIn W cv s.cons) :
  Calls Tryz.prog 7 #[SysV s cv] W (TruePost W) := by
 obtain ⟨ca, cc, rfl, -⟩ := hc.out
 have HC := Lib.hid hc
 clear hc
 unfold SysV
 go_enter Tryz.func7, Tryz.ntmps7
 go_wp2_with fail
 refine calls_gen (fun Z => EqI W W.heap.size s (.slice ca s.cons.length cc) [] Z) ⟨SysB.new HC.out 24, (Below.refl _ _).alloc (Nat.le_refl _) _, fun q hq => by simp at hq⟩ ?_
 rintro Z0 h0
 obtain ⟨bs, hbs⟩ : ∃ bs, bs = W.heap.size := ⟨_, rfl⟩
 have H0 : Hid (EqI W bs s (.slice ca s.cons.length cc) [] Z0) := by rw [hbs]; exact h0
 rw [← hbs]
 clear h0 hbs HC
 refine (rSml_any s (.slice ca s.cons.length cc) _ H0.out.sys.cons).mono ?_
 rintro e W1 ⟨b1, rfl, hb1, r1⟩
 have H1 := Lib.hid (H0.out.below r1)
 obtain ⟨d0, d1, d2, d3⟩ := H1.out.sys.box
 clear H0
 cases b1
 ·go_wp2_with fail
  refine (awake_any _).mono ?_
  rintro e W2 ⟨rfl, r2⟩
  clear d0 d1 d2 d3
  have H2 := Lib.hid (H1.out.bel.trans (r2.mono H1.out.bel.size))
  clear r2 hb1
  go_wp2_with fail
  go_ret
  exact ⟨rfl, H2.out⟩
 ·have hsm := (hb1.1 rfl).sm
  have HSM := Lib.hid hsm
  have hv24 := (hb1.1 rfl).2.1
  clear hsm hb1
  go_wp2_with fail
  refine (awake_any _).mono ?_
  rintro e W2 ⟨rfl, r2⟩
  clear d0 d1 d2 d3
  have H2 := Lib.hid (H1.out.below r2)
  obtain ⟨d0, d1, d2, d3⟩ := H2.out.sys.box
  clear H1
  go_wp2_with fail
  clear d0 d1 d2 d3
  refine (Solve_any s (.slice ca s.cons.length cc) _ H2.out.sys.cons HSM.out).mono ?_
  rintro e W3 (⟨h0, rfl, r3⟩ | ⟨h0, xa, xc, ya, yc, lu, lv, rfl, hpts, hsol, r3⟩)
  ·have hz : (chkCode s != 0) = true := by simpa using h0
   have H3 := Lib.hid (H2.out.bel.trans (r3.mono H2.out.bel.size))
   clear h0 r3
   go_wp2_with fail
   go_ret
   exact ⟨rfl, H3.out.alloc H3.out.size _⟩
  ·have hv := chkCode_ok.1 h0
   have hb3 := sol_bnd hv hsol HSM.out
   have hin := hsol.inR hv.ok (by have := HSM.out.sites; show s.sites.toNat ≤ 12; omega)
   have HV := Lib.hid (And.intro h0 (And.intro hv (And.intro hsol (And.intro hb3 hin))))
   have H3 := Lib.hid ((H2.out.below r3).push hpts 34)
   obtain ⟨d0, d1, d2, d3⟩ := H3.out.sys.box
   obtain ⟨p0, p1, -⟩ := H3.out.pts _ (.head _)
   dsimp only at p0 p1
   clear h0 hv hsol hpts r3 H2
   clear hb3 hin
   go_wp2_with fail
   clear d0 d1 d2 d3 p0 p1
   refine (gSolve_any s (.slice ca s.cons.length cc) _ H3.out.sys.cons HSM.out).mono ?_
   rintro e W4 (⟨hbad, -⟩ | ⟨-, ua, uc, va, vc, lu2, lv2, hd, rfl, hpts, hsol, -, r4⟩)
   ·exact absurd (by rw [colC_sm HSM.out]; exact HV.out.1) hbad
   obtain ⟨rfl, rfl⟩ := HV.out.2.2.1.unique hsol
   obtain ⟨n, hn⟩ : ∃ n : Int, n = ((offH s.S.vars hd : Nat) : Int) := ⟨_, rfl⟩
   have hn0 : decide (n < 0) = false := by rw [decide_eq_false_iff_not]; omega
   have hn1 : decide (s.vars < n) = false := by
    have h1 := off_le s.S.vars hd
    have h2 : s.S.vars = s.vars.toNat := rfl
    have h3 := HV.out.2.1.vars
    rw [decide_eq_false_iff_not]; omega
   rw [← hn]
   clear hn
   have H4 := Lib.hid ((H3.out.below r4).push hpts 34)
   obtain ⟨d0, d1, d2, d3⟩ := H4.out.sys.box
   clear hpts hsol r4 H3
   go_wp2_with fail
   clear d0 d1 d2 d3
   refine (gReduce_any s (.slice ca s.cons.length cc) _ H4.out.sys.cons (by have := HSM.out.cons; omega)).mono ?_
   rintro e W5 (⟨hbad, -⟩ | ⟨-, l, ra, rc, rv, rfl, hl, hct, hir, r5⟩)
   ·exact absurd (by rw [colC_sm HSM.out]; exact HV.out.1) hbad
   have HL := Lib.hid (And.intro hl (And.intro (red_vld HV.out.2.1 hl) (red_sm (l := l) HSM.out)))
   obtain ⟨m, hm⟩ : ∃ m, m = (redL l s.cons).length := ⟨_, rfl⟩
   rw [← hm] at hct ⊢
   have hct : ConsIn W5 (.slice ra m rc) (red s l).cons := hct
   rw [show SysV (red s l) (.slice ra m rc) = .agg #[.int .i64 s.vars, .int .i64 s.sites, .int .i64 s.fields, .slice ra m rc] from rfl]
   have ha5 : Below W5.heap.size W5 (W5.alloc (.cells #[.int .i64 s.vars, .int .i64 s.sites, .int .i64 s.fields, .slice ra m rc] 24)) := (Below.refl _ _).alloc (Nat.le_refl _) _
   have hs5 : SysB W5.heap.size (red s l) (.slice ra m rc) (W5.alloc (.cells #[.int .i64 s.vars, .int .i64 s.sites, .int .i64 s.fields, .slice ra m rc] 24)) := SysB.new hct 24
   have H5 := Lib.hid (And.intro ((H4.out.below r5).below ha5) (And.intro hs5 (hir.below ha5)))
   obtain ⟨d0, d1, d2, d3⟩ := H5.out.2.1.box
   have d0 : World.cell? _ ⟨W5.heap.size, 0, none⟩ = some (.int .i64 s.vars) := d0
   have d1 : World.cell? _ ⟨W5.heap.size, 1, none⟩ = some (.int .i64 s.sites) := d1
   have d2 : World.cell? _ ⟨W5.heap.size, 2, none⟩ = some (.int .i64 s.fields) := d2
   clear hl hm hct ha5 hs5 hir r5 H4
   go_wp2_with fail
   clear d0 d1 d2 d3
   refine (Solve_any (red s l) (.slice ra m rc) _ H5.out.2.1.cons HL.out.2.2).mono ?_
   rintro e W6 (⟨hbad, -⟩ | ⟨-, xa2, xc2, ya2, yc2, lu3, lv3, rfl, hpts, hsol, r6⟩)
   ·exact absurd (chkCode_ok.2 HL.out.2.1) hbad
   have e3 : (red s l).S.vars = s.S.vars := rfl
   have e4 : (red s l).S.sites * (red s l).S.fields = s.S.sites * s.S.fields := rfl
   rw [e3, e4] at hpts ⊢
   have ha6 : Below W6.heap.size W6 (W6.alloc (.cells #[.slice xa2 s.S.vars xc2, .slice ya2 (s.S.sites * s.S.fields) yc2] 34)) := (Below.refl _ _).alloc (Nat.le_refl _) _
   have H6 := Lib.hid (And.intro ((H5.out.1.below r6).push hpts 34) ((H5.out.2.2.below r6).below ha6))
   have HS := Lib.hid hsol
   obtain ⟨p0, p1, -⟩ := H6.out.1.pts _ (.head _)
   dsimp only at p0 p1
   clear e3 e4 hpts hsol ha6 r6 H5
   go_wp2_with fail
   clear p0 p1
   obtain ⟨-, -, ⟨us, gu⟩, vs, gv⟩ := H6.out.1.pts _ (.head _)
   dsimp only at gu gv
   have hb := sol_bnd HL.out.2.1 HS.out HL.out.2.2
   refine (Expand_any _ _ _ us vs lu3 lv3 l _ gu gv H6.out.2 (fun i hi => Nat.le_trans (hb.1 i hi).2 (by omega)) (fun i hi => Nat.le_trans (hb.2 i hi).2 (by omega)) (by have h1 := HS.out.2.1; have h2 := HL.out.2.2.bnd.N; have h3 : (red s l).S.N = (red s l).S.vars + (red s l).S.sites * (red s l).S.fields := rfl; omega)).mono ?_
   rintro e W7 (⟨hbad, -⟩ | ⟨-, hbad, -⟩ | ⟨-, -, ka, kc, ma, mc, rfl, ho, r7⟩)
   ·exact absurd (HL.out.1.1.trans HS.out.1.symm) hbad
   ·exact absurd (chk_lds HL.out.1 (by have := HSM.out.vars; omega)) hbad
   obtain ⟨e1, e2⟩ := HV.out.2.2.1.unique (sol_exp HV.out.2.1 HL.out.1 HS.out)
   have hpts : PtsIn W7 (.slice ka l.length kc) (.slice ma lv3.length mc) lu lv := by rw [e1, e2]; exact ho.pts
   have H7 := Lib.hid ((H6.out.1.below r7).push hpts 34)
   obtain ⟨d0, d1, d2, d3⟩ := H7.out.sys.box
   obtain ⟨p0, p1, -⟩ := H7.out.pts _ (.tail _ (.tail _ (.tail _ (.head _))))
   obtain ⟨q0, q1, -⟩ := H7.out.pts _ (.tail _ (.tail _ (.head _)))
   dsimp only at p0 p1 q0 q1
   clear gu gv us vs hb ho e1 e2 hpts r7 H6
   have hlu := Lib.hid (fun i (hi : i < lu.length) => Nat.le_trans (HV.out.2.2.2.1.1 i hi).2 (show 12 ≤ 1000000 by omega))
   have hlv := Lib.hid (fun i (hi : i < lv.length) => Nat.le_trans (HV.out.2.2.2.1.2 i hi).2 (show 12 ≤ 1000000 by omega))
   go_wp2_with fail
   clear d0 d1 d2 d3 p0 p1 q0 q1
   refine (WithinP_any _ _ _ _ lu lv lu lv _ (H7.out.pts _ (.tail _ (.tail _ (.tail _ (.head _))))).pts (H7.out.pts _ (.tail _ (.tail _ (.head _)))).pts HV.out.2.2.2.2.1 HV.out.2.2.2.2.2.1 HV.out.2.2.2.2.1 HV.out.2.2.2.2.2.1 hlu.out hlv.out).mono ?_
   rintro e W8 ⟨rfl, r8⟩
   rw [winB_refl, winB_refl, Bool.and_true]
   have H8 := Lib.hid (H7.out.below r8)
   clear r8 H7
   obtain ⟨d0, d1, d2, d3⟩ := H8.out.sys.box
   obtain ⟨p0, p1, -⟩ := H8.out.pts _ (.tail _ (.tail _ (.tail _ (.head _))))
   obtain ⟨q0, q1, -⟩ := H8.out.pts _ (.tail _ (.tail _ (.head _)))
   dsimp only at p0 p1 q0 q1
   go_wp2_with fail
   clear d0 d1 d2 d3 p0 p1 q0 q1
   refine (WithinP_any _ _ _ _ lu lv lu lv _ (H8.out.pts _ (.tail _ (.tail _ (.head _)))).pts (H8.out.pts _ (.tail _ (.tail _ (.tail _ (.head _))))).pts HV.out.2.2.2.2.1 HV.out.2.2.2.2.2.1 HV.out.2.2.2.2.1 HV.out.2.2.2.2.2.1 hlu.out hlv.out).mono ?_
   rintro e W9 ⟨rfl, r9⟩
   rw [winB_refl, winB_refl, Bool.and_true]
   have H9 := Lib.hid (H8.out.below r9)
   clear r9 H8
   obtain ⟨d0, d1, d2, d3⟩ := H9.out.sys.box
   obtain ⟨p0, p1, -⟩ := H9.out.pts _ (.tail _ (.tail _ (.tail _ (.head _))))
   obtain ⟨q0, q1, -⟩ := H9.out.pts _ (.head _)
   dsimp only at p0 p1 q0 q1
   go_wp2_with fail
   clear d0 d1 d2 d3 p0 p1 q0 q1
   refine (WithinP_any _ _ _ _ lu lv lu lv _ (H9.out.pts _ (.tail _ (.tail _ (.tail _ (.head _))))).pts (H9.out.pts _ (.head _)).pts HV.out.2.2.2.2.1 HV.out.2.2.2.2.2.1 HV.out.2.2.2.2.1 HV.out.2.2.2.2.2.1 hlu.out hlv.out).mono ?_
   rintro e W10 ⟨rfl, r10⟩
   rw [winB_refl, winB_refl, Bool.and_true]
   have H10 := Lib.hid (H9.out.below r10)
   clear r10 H9
   obtain ⟨d0, d1, d2, d3⟩ := H10.out.sys.box
   obtain ⟨p0, p1, -⟩ := H10.out.pts _ (.tail _ (.tail _ (.tail _ (.head _))))
   obtain ⟨q0, q1, -⟩ := H10.out.pts _ (.head _)
   dsimp only at p0 p1 q0 q1
   go_wp2_with fail
   clear d0 d1 d2 d3 p0 p1 q0 q1
   refine (WithinP_any _ _ _ _ lu lv lu lv _ (H10.out.pts _ (.head _)).pts (H10.out.pts _ (.tail _ (.tail _ (.tail _ (.head _))))).pts HV.out.2.2.2.2.1 HV.out.2.2.2.2.2.1 HV.out.2.2.2.2.1 HV.out.2.2.2.2.2.1 hlu.out hlv.out).mono ?_
   rintro e W11 ⟨rfl, r11⟩
   rw [winB_refl, winB_refl, Bool.and_true]
   have H11 := Lib.hid (H10.out.below r11)
   clear r11 H10
   obtain ⟨d0, d1, d2, d3⟩ := H11.out.sys.box
   obtain ⟨p0, p1, -⟩ := H11.out.pts _ (.tail _ (.tail _ (.tail _ (.head _))))
   obtain ⟨q0, q1, -⟩ := H11.out.pts _ (.tail _ (.tail _ (.head _)))
   dsimp only at p0 p1 q0 q1
   go_wp2_with fail
   clear d0 d1 d2 d3 p0 p1 q0 q1
   refine (Derive_any s (.slice ca s.cons.length cc) _ _ lu lv _ H11.out.sys.cons HSM.out (H11.out.pts _ (.tail _ (.tail _ (.head _)))).pts (by have h1 := HV.out.2.2.1.1; have h2 := HSM.out.vars; have h3 : s.S.vars = s.vars.toNat := rfl; omega) (by have h1 := HV.out.2.2.1.2.1; have h2 := HSM.out.bnd.N; have h3 : s.S.N = s.S.vars + s.S.sites * s.S.fields := rfl; omega) HV.out.2.2.2.2.1 HV.out.2.2.2.2.2.1).mono ?_
   rintro e W12 ⟨b6, rfl, hb6, r12⟩
   obtain rfl : b6 = true := hb6.2 ⟨sol_closed HV.out.1 HV.out.2.2.1, lu, lv, HV.out.2.2.1, winB_refl _, winB_refl _⟩
   clear hb6
   have H12 := Lib.hid (H11.out.bel.trans (r12.mono H11.out.bel.size))
   clear r12
   go_wp2_with fail
   go_ret
   exact ⟨rfl, H12.out⟩
set_option maxRecDepth 100000 in
theorem CollapseEqual_lifted (os : Os) (started : os.Started) (H : Type) (enc : TypeId × Value → H) :
  ReturnsInHanded {} Tryz.checked os 7 .any (Rows.collapseEqualSpec.pre6 enc Tryz.prog Tryz.f7 Rows.collapseEqualRow.domain false) (Rows.collapseEqualSpec.post enc Tryz.prog Tryz.f7 false true false false) := by
 refine returnsInHanded_of_change (C := Tryz.checked) own started (by kernel_rfl) Tryz.func7
  (ChangeSpec.witness6 (enc := enc) (C := Tryz.checked) false ⟨#[], #[.agg #[.int .i64 0, .int .i64 0, .int .i64 0, .slice none 0 0]], []⟩ 8 (by kernel_rfl) (by kernel_rfl) (by kernel_rfl) (by kernel_rfl)) ?_
 intro W base args ds gs before hval0 hW hcnd _
 have hval : ∀ (j : Nat) t v, Tryz.f7.params[j]? = some t → args[j]? = some v → Value.okWide Tryz.prog W .any base t v := hval0
 have hW' := hW
 obtain ⟨p, q, hA0, hV, rfl, hfz, hnd⟩ := hW
 have hA : DataW.TrodAll enc Tryz.prog W 0 (fun _ => true) true Tryz.f7.params.toList args.toList ds p := hA0
 rw [Tryz.params7] at hA hval
 obtain ⟨v0, vs0, d0, ds0, p0, q0, hargs, rfl, rfl, h0, r0⟩ := trodAll_cons hA
 obtain ⟨rfl, rfl, rfl⟩ := trodAll_nil r0
 obtain rfl : args = #[v0] := by cases args; simp_all
 obtain ⟨rfl, rfl⟩ := trodVars_none hV
 obtain ⟨c0, rfl, sz0⟩ := okWide_struct Tryz.underlying24 (hval 0 24 v0 rfl rfl)
 have k0 := h0
 obtain ⟨sy0, cv0, eq0, hC0⟩ := sys_of_trod sz0 h0
 obtain rfl : c0 = #[.int .i64 sy0.vars, .int .i64 sy0.sites, .int .i64 sy0.fields, cv0] := by simpa [SysV] using eq0
 have lt0 : ∀ x ∈ p0, x.block < W.heap.size := by obtain ⟨m, hm⟩ := k0; exact DataW.trod_lt m _ _ _ hm
 clear hA0 hval0
 refine (CollapseEqual_walk sy0 cv0 W hC0).mono fun e W' ⟨he, bel⟩ => ?_
 subst he
 exact ⟨_, rfl, _, _, _, [], _, [], hW', trodAll_mk1 (shut_bool Tryz.underlying4 _), (trodAll_cons_mk (Below.trod laidOut (by kernel_rfl) (of_decide_eq_true (by kernel_rfl)) k0 bel lt0) trodAll_mk0), rfl, bel.frame _, fun h => by cases h⟩
theorem CollapseEqual_holds : Rows.CollapseEqualSaid :=
 OpenClaim.holds_of_wide 7 Tryz.f7 rfl rfl rfl rfl rfl rfl rfl ⟨rfl, rfl, rfl, rfl, rfl⟩ rfl rfl rfl rfl rfl (by kernel_rfl) Tryz.func7 (by kernel_rfl)
  (of_decide_eq_true (by kernel_rfl)) (by unfold Func.isWrapper; first | (rw [if_pos (by decide +kernel)]; kernel_rfl) | (rw [if_neg (by decide +kernel)]; exact ⟨rfl, rfl⟩))
  (fun os started H enc _ => CollapseEqual_lifted os started H enc)
end Go.Proofs.YtgblfjccccdidaaGreat
end
