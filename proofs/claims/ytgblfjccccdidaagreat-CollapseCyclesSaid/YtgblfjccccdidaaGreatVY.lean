/- CollapseCycles: for any system with at most 24 variables, 100 constraints and sets of at most 40 numbers, the cycles and the errors are those of the reference. Conditions: none. -/
import Derived.WalkKit
import Derived.Lib.Hide
import Derived.WalkSpells
import Derived.Deep.QuietTactic
import Derived.BigQuiet
import Derived.WalkLawsBesides
import Derived.ChangeKeysEq
import Derived.StillTailTactics
import Derived.Test.YtgblfjccccdidaaGreatRows
import Derived.Laws.CopyOwn
import Derived.Deep.AppendLies
import Derived.Deep.RegionHeld3
import Derived.StillTail
import Derived.OrdersHeld
import Derived.Maps.OwnSet
import Derived.DeepKeys4
import Derived.OneCell
import Derived.Laws.EntriesVeiled
import Derived.Deep.LoopGhost
import Derived.Laws.ResultCell
import Derived.Shelf.SlSortCmp.Whole1
import Derived.Shelf.SlicesE.DeleteFunc
import Derived.Deep.RegionLaw
import Derived.Shelf.SlSortCmp.NoneTotal
import Derived.Shelf.SlSortCmp.WholeK
import Derived.Shelf.SlSorted.Search
import Derived.Shelf.SlicesE.Clone
import Derived.Test.YtgblfjccccdidaaGreatProg
import Derived.Sort.Grow
import Derived.Laws.StructEq
import Derived.Lib.SliceRun
import Derived.Shelf.SlicesE.Kit
import Derived.RangeFuncNested
import Derived.RangeFuncWrites
import Derived.RangeFuncBound
import Derived.RangeFuncCalls
import Derived.RangeFuncLeaves
import Derived.Shelf.Abstract
import Derived.Shelf.RegionOpen
import Derived.OwnWalkIn
import Derived.TacticsInMore
import Derived.LoopNIn
import Derived.LoopIn
import Derived.RegionIn
import Derived.Maps.OwnIn
import Derived.Sort.CutIn
import Derived.Maps.AppendAt
import Derived.Deep.Cut
import Derived.ProofKit
import Derived.OpenShut
import Derived.ShutString
import Derived.ChangeOld
import Derived.Deep.SlicePairs
import Derived.Deep.Slices
import Derived.Test.YtgblfjccccdidaaGreatVb
section
namespace Go.And
open Go.Dfl (nth nth_mem mem_nth nth_eq)
def amB (x n : Int) : Bool := decide (0 ≤ x) && decide (x < n)
end Go.And
namespace Go.Proofs.YtgblfjccccdidaaGreat
open Go.RowKit Go.Dfl Go.And
set_option maxHeartbeats 400000 in
theorem rAmong_any (x n : Int) (w : World) :
  Calls Tryz.prog 115 #[.int .i64 x, .int .i64 n] w fun e w' => e = .returned (.bool (amB x n)) ∧ Qt w w' := by
 by_cases h1 : 0 ≤ x
 ·by_cases h2 : x < n
  ·go_enter Tryz.func115, Tryz.ntmps115
   go_wp2_with fail
   go_ret
   exact ⟨ret_bool (by simp [amB, h1, h2]), Qt.refl _⟩
  ·go_enter Tryz.func115, Tryz.ntmps115
   go_wp2_with fail
   go_ret
   exact ⟨ret_bool (by simp [amB, h1, h2]), Qt.refl _⟩
 ·go_enter Tryz.func115, Tryz.ntmps115
  go_wp2_with fail
  go_ret
  exact ⟨ret_bool (by simp [amB]; omega), Qt.refl _⟩
end Go.Proofs.YtgblfjccccdidaaGreat
end
section
namespace Go.And
open Go.Dfl (nth nth_mem mem_nth nth_eq)
theorem amB_t {x n : Int} (h : amB x n = true) : 0 ≤ x ∧ x < n := by simpa [amB] using h
theorem amB_f {x n : Int} (h : amB x n = false) : x < 0 ∨ n ≤ x := by
 have h1 : ¬ (0 ≤ x ∧ x < n) := fun h2 => by simp [amB, h2.1, h2.2] at h
 omega
theorem con4 {s : Sy} {c : R} (h0 : 1 ≤ c.k ∧ c.k ≤ 5) (h : (c.a < 0 ∨ mostOf s c ≤ c.a ∨ c.b < 0 ∨ s.vars ≤ c.b) ∨ ((c.k = 3 ∨ c.k = 4) ∧ (c.f < 0 ∨ s.fields ≤ c.f)) ∨ subB c.s s.sites = false) : conCode s c = 4 := by
 unfold conCode
 rw [if_neg (by omega)]
 by_cases e : c.a < 0 ∨ mostOf s c ≤ c.a ∨ c.b < 0 ∨ s.vars ≤ c.b
 ·rw [if_pos e]
 ·rw [if_neg e, if_pos (h.resolve_left e)]
theorem conRest {s : Sy} {c : R} (h0 : 1 ≤ c.k ∧ c.k ≤ 5) (h1 : ¬ (c.a < 0 ∨ mostOf s c ≤ c.a ∨ c.b < 0 ∨ s.vars ≤ c.b)) (h2 : (c.k = 3 ∨ c.k = 4) → ¬ (c.f < 0 ∨ s.fields ≤ c.f)) (h3 : subB c.s s.sites = true) :
  conCode s c = if (c.k ≠ 3 ∧ c.k ≠ 4 ∧ c.f ≠ 0) ∨ (c.k ≠ 5 ∧ 0 < c.s.length) then 1 else if ascB c.s = false then 13 else 0 := by
 unfold conCode
 rw [if_neg (by omega), if_neg h1, if_neg]
 rintro (⟨h4, h5⟩ | h4)
 ·exact h2 h4 h5
 ·rw [h3] at h4; cases h4
end Go.And
namespace Go.Proofs.YtgblfjccccdidaaGreat
open Go.RowKit Go.Dfl Go.And
structure ConR (W : World) (b0 b1 : Nat) (vars sites fields k a b f : Int) (sa : Option Addr) (sc : Nat) (cs : List Int) (Z : World) : Prop where
 s0 : Z.cell? ⟨b0, 0, none⟩ = some (.int .i64 vars)
 s1 : Z.cell? ⟨b0, 1, none⟩ = some (.int .i64 sites)
 s2 : Z.cell? ⟨b0, 2, none⟩ = some (.int .i64 fields)
 c0 : Z.cell? ⟨b1, 0, none⟩ = some (.int .i64 k)
 c1 : Z.cell? ⟨b1, 1, none⟩ = some (.int .i64 a)
 c2 : Z.cell? ⟨b1, 2, none⟩ = some (.int .i64 b)
 c3 : Z.cell? ⟨b1, 3, none⟩ = some (.int .i64 f)
 c4 : Z.cell? ⟨b1, 4, none⟩ = some (.slice sa cs.length sc)
 set : Ints Z (.slice sa cs.length sc) cs
 bel : Below W.heap.size W Z
theorem ConR.new (W : World) (cv : Value) (vars sites fields k a b f : Int) (sa : Option Addr) (sc : Nat) (cs : List Int) (h : Ints W (.slice sa cs.length sc) cs) :
  ConR W W.heap.size (W.heap.size + 1) vars sites fields k a b f sa sc cs ((W.alloc (.cells #[.int .i64 vars, .int .i64 sites, .int .i64 fields, cv] 24)).alloc (.cells #[.int .i64 k, .int .i64 a, .int .i64 b, .int .i64 f, .slice sa cs.length sc] 48)) := by
 have h1 := cells_new (W := W) (cs := [.int .i64 vars, .int .i64 sites, .int .i64 fields, cv]) (t := 24) rfl
 have h2 := cells_new (W := W.alloc (.cells #[.int .i64 vars, .int .i64 sites, .int .i64 fields, cv] 24)) (cs := [.int .i64 k, .int .i64 a, .int .i64 b, .int .i64 f, .slice sa cs.length sc]) (t := 48) rfl
 rw [World.size_alloc] at h2
 have g := grownBy_alloc (W.alloc (.cells #[.int .i64 vars, .int .i64 sites, .int .i64 fields, cv] 24)) (.cells #[.int .i64 k, .int .i64 a, .int .i64 b, .int .i64 f, .slice sa cs.length sc] 48)
 have hb : Below W.heap.size W _ := ((Below.refl W.heap.size W).alloc (Nat.le_refl _) (.cells #[.int .i64 vars, .int .i64 sites, .int .i64 fields, cv] 24)).alloc (by simp) (.cells #[.int .i64 k, .int .i64 a, .int .i64 b, .int .i64 f, .slice sa cs.length sc] 48)
 exact ⟨g.cell (h1 0 _ rfl) (by simp), g.cell (h1 1 _ rfl) (by simp), g.cell (h1 2 _ rfl) (by simp), h2 0 _ rfl, h2 1 _ rfl, h2 2 _ rfl, h2 3 _ rfl, h2 4 _ rfl, h.below hb, hb⟩
set_option maxHeartbeats 6400000 in
theorem rCon_any (s : Sy) (cv : Value) (c : R) (sv : Value) (W : World) (hset : Ints W sv c.s) :
  Calls Tryz.prog 84 #[SysV s cv, .agg #[.int .i64 c.k, .int .i64 c.a, .int .i64 c.b, .int .i64 c.f, sv]] W fun e W' => e = .returned (.int .i64 (conCode s c)) ∧ Below W.heap.size W W' := by
 obtain ⟨sa, sc, rfl, hm, hidx, hcell, hblk⟩ := hset.out1 sInt
 have HS := Lib.hid hset
 clear hset hcell hblk
 unfold SysV
 obtain ⟨vars, sites, fields, cons⟩ := s
 obtain ⟨k, a, b, f, cs⟩ := c
 dsimp only at *
 have hbel2 : ∀ n, Below W.heap.size W (((W.alloc (.cells #[.int .i64 vars, .int .i64 sites, .int .i64 fields, cv] 24)).alloc (.cells #[.int .i64 k, .int .i64 a, .int .i64 b, .int .i64 f, .slice sa cs.length sc] 48)).drewN n) := fun n => below_drewN (((Below.refl W.heap.size W).alloc (Nat.le_refl _) _).alloc (by simp) _) n
 by_cases h1 : k < 1
 ·go_enter Tryz.func84, Tryz.ntmps84
  go_wp2_with fail
  go_ret
  exact ⟨ret_int (by unfold conCode; dsimp only; rw [if_pos (by omega)]), hbel2 0⟩
 by_cases h2 : 5 < k
 ·go_enter Tryz.func84, Tryz.ntmps84
  go_wp2_with fail
  go_ret
  exact ⟨ret_int (by unfold conCode; dsimp only; rw [if_pos (by omega)]), hbel2 0⟩
 have hk : k = 1 ∨ k = 2 ∨ k = 3 ∨ k = 4 ∨ k = 5 := by omega
 clear h1 h2 hbel2
 rcases hk with rfl | rfl | rfl | rfl | rfl
 ·go_enter Tryz.func84, Tryz.ntmps84
  go_wp2_with fail
  refine calls_gen (fun Z => ConR W W.heap.size (W.heap.size + 1) vars sites fields 1 a b f sa sc cs Z) (ConR.new W cv _ _ _ _ _ _ _ _ _ _ HS.out) ?_
  rintro Z hz
  obtain ⟨b1, hb1⟩ : ∃ b1, b1 = W.heap.size + 1 := ⟨_, rfl⟩
  obtain ⟨b0, hb0⟩ : ∃ b0, b0 = W.heap.size := ⟨_, rfl⟩
  have HZ : Hid (ConR W b0 b1 vars sites fields 1 a b f sa sc cs Z) := by rw [hb0, hb1]; exact hz
  rw [← hb1, ← hb0]
  clear hz hb1 hb0 HS
  obtain ⟨s0, s1, s2, c0, c1, c2, c3, c4, -, -⟩ := HZ.out
  refine (rAmong_any a sites Z).mono ?_
  rintro e W1 ⟨rfl, n1, rfl⟩
  have hcl : ∀ i, i < cs.length → Z.cell? ⟨blk sa, ofs sa + i, none⟩ = some (.int .i64 (nth cs i)) := by
   obtain ⟨a9, c9, e9, -, -, h9, -⟩ := HZ.out.set.out1 sInt
   simp only [Value.slice.injEq] at e9
   obtain ⟨rfl, -, rfl⟩ := e9
   exact h9
  have hmost : mostOf ⟨vars, sites, fields, cons⟩ ⟨1, a, b, f, cs⟩ = sites := by simp [mostOf]
  have HM := Lib.hid hmost
  clear hmost
  cases ha : amB a sites
  ·have HA := Lib.hid (amB_f ha)
   clear ha
   go_wp2_with fail
   go_ret
   exact ⟨ret_int (con4 (by dsimp only; omega) (.inl (by rw [HM.out]; have := HA.out; dsimp only; omega))).symm, by first | exact below_drewN HZ.out.bel _ | exact below_drewN (below_drewN HZ.out.bel _) _⟩
  have HA := Lib.hid (amB_t ha)
  clear ha
  go_wp2_with fail
  refine (rAmong_any b vars _).mono ?_
  rintro e W2 ⟨rfl, n2, rfl⟩
  cases hb : amB b vars
  ·have HBB := Lib.hid (amB_f hb)
   clear hb
   go_wp2_with fail
   go_ret
   exact ⟨ret_int (con4 (by dsimp only; omega) (.inl (by have := HBB.out; dsimp only; omega))).symm, by first | exact below_drewN HZ.out.bel _ | exact below_drewN (below_drewN HZ.out.bel _) _⟩
  have HBB := Lib.hid (amB_t hb)
  clear hb
  go_wp2_with fail
  have HF : Hid ((1 : Int) ≠ 3 ∧ (1 : Int) ≠ 4) := Lib.hid (by omega)
  go_loopw [7] (fun x wr => ∃ j : Nat, j ≤ cs.length ∧ x = .int .i64 j ∧ Qt Z wr ∧ Hid (∀ i, i < j → 0 ≤ nth cs i ∧ nth cs i < sites)) (fun x _ => cs.length - (intOf x).toNat)
  case atStart => exact ⟨0, by omega, rfl, by exact (by first | exact Qt.refl _ | exact Qt.drewN _ _ | exact (Qt.drewN _ _).trans (Qt.drewN _ _) | exact ((Qt.drewN _ _).trans (Qt.drewN _ _)).trans (Qt.drewN _ _) | exact Qt.drew _ | exact (Qt.drewN _ _).trans (Qt.drew _)), fun i hi => by omega⟩
  case round =>
   obtain ⟨j, hj, rfl, ⟨nw, rfl⟩, hch⟩ := hrel
   by_cases hlt : j < cs.length
   ·have hck := hcl j hlt
    have hcall : ∀ n, Calls Tryz.prog 115 #[.int .i64 (nth cs j), .int .i64 sites] (Z.drewN n) fun e w' => e = .returned (.bool (amB (nth cs j) sites)) ∧ Qt (Z.drewN n) w' := fun n => rAmong_any _ _ _
    obtain ⟨d, hd⟩ : ∃ d, d = amB (nth cs j) sites := ⟨_, rfl⟩
    rw [← hd] at hcall
    have HCall := Lib.hid hcall
    clear hcall
    cases d
    ·have HD := Lib.hid (amB_f hd.symm)
     clear hd
     go_wp2_with fail
     go_quiet ((go_at_call 115; exact Qt.quiet2 (HCall.out _)))
     go_wp2_with fail
     go_ret
     exact ⟨ret_int (con4 (by dsimp only; omega) (.inr (.inr (by rw [Bool.eq_false_iff]; intro hh; have h1 := (subB_iff _ _).1 hh j hlt; have := HD.out; dsimp only at h1; omega)))).symm, by first | exact below_drewN HZ.out.bel _ | exact below_drewN (below_drewN HZ.out.bel _) _⟩
    ·have HD := Lib.hid (amB_t hd.symm)
     clear hd
     go_wp2_with fail
     go_quiet ((go_at_call 115; exact Qt.quiet2 (HCall.out _)))
     go_wp2_with fail
     go_roundw
     case rel => exact ⟨j + 1, by omega, by go_num, (by first | exact Qt.refl _ | exact Qt.drewN _ _ | exact (Qt.drewN _ _).trans (Qt.drewN _ _) | exact ((Qt.drewN _ _).trans (Qt.drewN _ _)).trans (Qt.drewN _ _) | exact Qt.drew _ | exact (Qt.drewN _ _).trans (Qt.drew _)), fun i hi => by
      by_cases e : i = j
      ·subst e; exact HD.out
      ·exact hch.out i (by omega)⟩
     case measure => simp [intOf]; omega
   ·obtain rfl : j = cs.length := by omega
    have hrest := conRest (s := ⟨vars, sites, fields, cons⟩) (c := ⟨1, a, b, f, cs⟩) (by dsimp only; omega) (by rw [HM.out]; have := HA.out; have := HBB.out; dsimp only; omega) (by have := HF.out; dsimp only at *; omega) ((subB_iff _ _).2 hch.out)
    have HRest := Lib.hid hrest
    clear hrest
    clear hch
    go_wp2_with fail
    all_goals first
     | (go_ret
        exact ⟨ret_int (by rw [HRest.out]; (try dsimp only); rw [if_pos (by omega)]), by first | exact below_drewN HZ.out.bel _ | exact below_drewN (below_drewN HZ.out.bel _) _⟩)
     | (go_ret
        have hf0 : f = 0 := by assumption
        subst hf0
        exact ⟨ret_int (by rw [HRest.out]; (try dsimp only); rw [if_pos (by omega)]), by first | exact below_drewN HZ.out.bel _ | exact below_drewN (below_drewN HZ.out.bel _) _⟩)
     | (skip
        go_loopw [8] (fun x wr => ∃ j : Nat, 1 ≤ j ∧ x = .int .i64 j ∧ Qt Z wr ∧ (j ≤ cs.length ∨ j = 1) ∧ Hid (∀ i, i + 1 < j → nth cs i < nth cs (i + 1))) (fun x _ => cs.length + 1 - (intOf x).toNat)
        case atStart => exact ⟨1, by omega, rfl, by exact (by first | exact Qt.refl _ | exact Qt.drewN _ _ | exact (Qt.drewN _ _).trans (Qt.drewN _ _) | exact ((Qt.drewN _ _).trans (Qt.drewN _ _)).trans (Qt.drewN _ _) | exact Qt.drew _ | exact (Qt.drewN _ _).trans (Qt.drew _)), by omega, fun i hi => by omega⟩
        case round =>
         obtain ⟨j, hj, rfl, ⟨nw, rfl⟩, hj2, hch⟩ := hrel
         by_cases hlt : j < cs.length
         ·first
           | (exfalso; omega)
           | (skip
              obtain ⟨m, rfl⟩ : ∃ m, j = m + 1 := ⟨j - 1, by omega⟩
              have hck := hcl (m + 1) hlt
              have hck2 := hcl m (by omega)
              have hw : IntKind.i64.wrap (m : Int) = m := IntWalk.i64_in _ (by omega)
              have hm1 : (m : Int) < (cs.length : Int) := by omega
              have hm2 : (m : Int) + 1 < (cs.length : Int) := by omega
              have hm3 : (0 : Int) ≤ (m : Int) := by omega
              have hm4 : (0 : Int) ≤ (m : Int) + 1 := by omega
              have hm5 : ((m : Int) + 1).toNat = m + 1 := by omega
              by_cases h1 : nth cs (m + 1) ≤ nth cs m
              ·have hd : decide (nth cs (m + 1) ≤ nth cs m) = true := by simpa using h1
               go_wp2_with fail
               go_quiet (fail)
               go_wp2_with fail
               go_ret
               exact ⟨ret_int (by rw [HRest.out]; (try dsimp only); rw [if_neg (by omega), if_pos (by rw [Bool.eq_false_iff]; intro hh; have := (ascB_iff _).1 hh m hlt; omega)]), by first | exact below_drewN HZ.out.bel _ | exact below_drewN (below_drewN HZ.out.bel _) _⟩
              ·have hd : decide (nth cs (m + 1) ≤ nth cs m) = false := by simpa using h1
               go_wp2_with fail
               go_quiet (fail)
               go_wp2_with fail
               go_roundw
               case rel => exact ⟨m + 2, by omega, by go_num, (by first | exact Qt.refl _ | exact Qt.drewN _ _ | exact (Qt.drewN _ _).trans (Qt.drewN _ _) | exact ((Qt.drewN _ _).trans (Qt.drewN _ _)).trans (Qt.drewN _ _) | exact Qt.drew _ | exact (Qt.drewN _ _).trans (Qt.drew _)), by omega, fun i hi => by
                by_cases e : i = m
                ·subst e; omega
                ·exact hch.out i (by omega)⟩
               case measure => simp [intOf]; omega
              )
         ·have hasc : ascB cs = true := (ascB_iff _).2 fun i hi => hch.out i (by omega)
          have HAsc := Lib.hid hasc
          clear hasc
          go_wp2_with fail
          go_ret
          exact ⟨ret_int (by rw [HRest.out]; (try dsimp only); rw [if_neg (by omega), if_neg (by rw [HAsc.out]; simp)]), below_drewN HZ.out.bel _⟩
        )
 ·go_enter Tryz.func84, Tryz.ntmps84
  go_wp2_with fail
  refine calls_gen (fun Z => ConR W W.heap.size (W.heap.size + 1) vars sites fields 2 a b f sa sc cs Z) (ConR.new W cv _ _ _ _ _ _ _ _ _ _ HS.out) ?_
  rintro Z hz
  obtain ⟨b1, hb1⟩ : ∃ b1, b1 = W.heap.size + 1 := ⟨_, rfl⟩
  obtain ⟨b0, hb0⟩ : ∃ b0, b0 = W.heap.size := ⟨_, rfl⟩
  have HZ : Hid (ConR W b0 b1 vars sites fields 2 a b f sa sc cs Z) := by rw [hb0, hb1]; exact hz
  rw [← hb1, ← hb0]
  clear hz hb1 hb0 HS
  obtain ⟨s0, s1, s2, c0, c1, c2, c3, c4, -, -⟩ := HZ.out
  refine (rAmong_any a vars Z).mono ?_
  rintro e W1 ⟨rfl, n1, rfl⟩
  have hcl : ∀ i, i < cs.length → Z.cell? ⟨blk sa, ofs sa + i, none⟩ = some (.int .i64 (nth cs i)) := by
   obtain ⟨a9, c9, e9, -, -, h9, -⟩ := HZ.out.set.out1 sInt
   simp only [Value.slice.injEq] at e9
   obtain ⟨rfl, -, rfl⟩ := e9
   exact h9
  have hmost : mostOf ⟨vars, sites, fields, cons⟩ ⟨2, a, b, f, cs⟩ = vars := by simp [mostOf]
  have HM := Lib.hid hmost
  clear hmost
  cases ha : amB a vars
  ·have HA := Lib.hid (amB_f ha)
   clear ha
   go_wp2_with fail
   go_ret
   exact ⟨ret_int (con4 (by dsimp only; omega) (.inl (by rw [HM.out]; have := HA.out; dsimp only; omega))).symm, by first | exact below_drewN HZ.out.bel _ | exact below_drewN (below_drewN HZ.out.bel _) _⟩
  have HA := Lib.hid (amB_t ha)
  clear ha
  go_wp2_with fail
  refine (rAmong_any b vars _).mono ?_
  rintro e W2 ⟨rfl, n2, rfl⟩
  cases hb : amB b vars
  ·have HBB := Lib.hid (amB_f hb)
   clear hb
   go_wp2_with fail
   go_ret
   exact ⟨ret_int (con4 (by dsimp only; omega) (.inl (by have := HBB.out; dsimp only; omega))).symm, by first | exact below_drewN HZ.out.bel _ | exact below_drewN (below_drewN HZ.out.bel _) _⟩
  have HBB := Lib.hid (amB_t hb)
  clear hb
  go_wp2_with fail
  have HF : Hid ((2 : Int) ≠ 3 ∧ (2 : Int) ≠ 4) := Lib.hid (by omega)
  go_loopw [7] (fun x wr => ∃ j : Nat, j ≤ cs.length ∧ x = .int .i64 j ∧ Qt Z wr ∧ Hid (∀ i, i < j → 0 ≤ nth cs i ∧ nth cs i < sites)) (fun x _ => cs.length - (intOf x).toNat)
  case atStart => exact ⟨0, by omega, rfl, by exact (by first | exact Qt.refl _ | exact Qt.drewN _ _ | exact (Qt.drewN _ _).trans (Qt.drewN _ _) | exact ((Qt.drewN _ _).trans (Qt.drewN _ _)).trans (Qt.drewN _ _) | exact Qt.drew _ | exact (Qt.drewN _ _).trans (Qt.drew _)), fun i hi => by omega⟩
  case round =>
   obtain ⟨j, hj, rfl, ⟨nw, rfl⟩, hch⟩ := hrel
   by_cases hlt : j < cs.length
   ·have hck := hcl j hlt
    have hcall : ∀ n, Calls Tryz.prog 115 #[.int .i64 (nth cs j), .int .i64 sites] (Z.drewN n) fun e w' => e = .returned (.bool (amB (nth cs j) sites)) ∧ Qt (Z.drewN n) w' := fun n => rAmong_any _ _ _
    obtain ⟨d, hd⟩ : ∃ d, d = amB (nth cs j) sites := ⟨_, rfl⟩
    rw [← hd] at hcall
    have HCall := Lib.hid hcall
    clear hcall
    cases d
    ·have HD := Lib.hid (amB_f hd.symm)
     clear hd
     go_wp2_with fail
     go_quiet ((go_at_call 115; exact Qt.quiet2 (HCall.out _)))
     go_wp2_with fail
     go_ret
     exact ⟨ret_int (con4 (by dsimp only; omega) (.inr (.inr (by rw [Bool.eq_false_iff]; intro hh; have h1 := (subB_iff _ _).1 hh j hlt; have := HD.out; dsimp only at h1; omega)))).symm, by first | exact below_drewN HZ.out.bel _ | exact below_drewN (below_drewN HZ.out.bel _) _⟩
    ·have HD := Lib.hid (amB_t hd.symm)
     clear hd
     go_wp2_with fail
     go_quiet ((go_at_call 115; exact Qt.quiet2 (HCall.out _)))
     go_wp2_with fail
     go_roundw
     case rel => exact ⟨j + 1, by omega, by go_num, (by first | exact Qt.refl _ | exact Qt.drewN _ _ | exact (Qt.drewN _ _).trans (Qt.drewN _ _) | exact ((Qt.drewN _ _).trans (Qt.drewN _ _)).trans (Qt.drewN _ _) | exact Qt.drew _ | exact (Qt.drewN _ _).trans (Qt.drew _)), fun i hi => by
      by_cases e : i = j
      ·subst e; exact HD.out
      ·exact hch.out i (by omega)⟩
     case measure => simp [intOf]; omega
   ·obtain rfl : j = cs.length := by omega
    have hrest := conRest (s := ⟨vars, sites, fields, cons⟩) (c := ⟨2, a, b, f, cs⟩) (by dsimp only; omega) (by rw [HM.out]; have := HA.out; have := HBB.out; dsimp only; omega) (by have := HF.out; dsimp only at *; omega) ((subB_iff _ _).2 hch.out)
    have HRest := Lib.hid hrest
    clear hrest
    clear hch
    go_wp2_with fail
    all_goals first
     | (go_ret
        exact ⟨ret_int (by rw [HRest.out]; (try dsimp only); rw [if_pos (by omega)]), by first | exact below_drewN HZ.out.bel _ | exact below_drewN (below_drewN HZ.out.bel _) _⟩)
     | (go_ret
        have hf0 : f = 0 := by assumption
        subst hf0
        exact ⟨ret_int (by rw [HRest.out]; (try dsimp only); rw [if_pos (by omega)]), by first | exact below_drewN HZ.out.bel _ | exact below_drewN (below_drewN HZ.out.bel _) _⟩)
     | (skip
        go_loopw [8] (fun x wr => ∃ j : Nat, 1 ≤ j ∧ x = .int .i64 j ∧ Qt Z wr ∧ (j ≤ cs.length ∨ j = 1) ∧ Hid (∀ i, i + 1 < j → nth cs i < nth cs (i + 1))) (fun x _ => cs.length + 1 - (intOf x).toNat)
        case atStart => exact ⟨1, by omega, rfl, by exact (by first | exact Qt.refl _ | exact Qt.drewN _ _ | exact (Qt.drewN _ _).trans (Qt.drewN _ _) | exact ((Qt.drewN _ _).trans (Qt.drewN _ _)).trans (Qt.drewN _ _) | exact Qt.drew _ | exact (Qt.drewN _ _).trans (Qt.drew _)), by omega, fun i hi => by omega⟩
        case round =>
         obtain ⟨j, hj, rfl, ⟨nw, rfl⟩, hj2, hch⟩ := hrel
         by_cases hlt : j < cs.length
         ·first
           | (exfalso; omega)
           | (skip
              obtain ⟨m, rfl⟩ : ∃ m, j = m + 1 := ⟨j - 1, by omega⟩
              have hck := hcl (m + 1) hlt
              have hck2 := hcl m (by omega)
              have hw : IntKind.i64.wrap (m : Int) = m := IntWalk.i64_in _ (by omega)
              have hm1 : (m : Int) < (cs.length : Int) := by omega
              have hm2 : (m : Int) + 1 < (cs.length : Int) := by omega
              have hm3 : (0 : Int) ≤ (m : Int) := by omega
              have hm4 : (0 : Int) ≤ (m : Int) + 1 := by omega
              have hm5 : ((m : Int) + 1).toNat = m + 1 := by omega
              by_cases h1 : nth cs (m + 1) ≤ nth cs m
              ·have hd : decide (nth cs (m + 1) ≤ nth cs m) = true := by simpa using h1
               go_wp2_with fail
               go_quiet (fail)
               go_wp2_with fail
               go_ret
               exact ⟨ret_int (by rw [HRest.out]; (try dsimp only); rw [if_neg (by omega), if_pos (by rw [Bool.eq_false_iff]; intro hh; have := (ascB_iff _).1 hh m hlt; omega)]), by first | exact below_drewN HZ.out.bel _ | exact below_drewN (below_drewN HZ.out.bel _) _⟩
              ·have hd : decide (nth cs (m + 1) ≤ nth cs m) = false := by simpa using h1
               go_wp2_with fail
               go_quiet (fail)
               go_wp2_with fail
               go_roundw
               case rel => exact ⟨m + 2, by omega, by go_num, (by first | exact Qt.refl _ | exact Qt.drewN _ _ | exact (Qt.drewN _ _).trans (Qt.drewN _ _) | exact ((Qt.drewN _ _).trans (Qt.drewN _ _)).trans (Qt.drewN _ _) | exact Qt.drew _ | exact (Qt.drewN _ _).trans (Qt.drew _)), by omega, fun i hi => by
                by_cases e : i = m
                ·subst e; omega
                ·exact hch.out i (by omega)⟩
               case measure => simp [intOf]; omega
              )
         ·have hasc : ascB cs = true := (ascB_iff _).2 fun i hi => hch.out i (by omega)
          have HAsc := Lib.hid hasc
          clear hasc
          go_wp2_with fail
          go_ret
          exact ⟨ret_int (by rw [HRest.out]; (try dsimp only); rw [if_neg (by omega), if_neg (by rw [HAsc.out]; simp)]), below_drewN HZ.out.bel _⟩
        )
 ·go_enter Tryz.func84, Tryz.ntmps84
  go_wp2_with fail
  refine calls_gen (fun Z => ConR W W.heap.size (W.heap.size + 1) vars sites fields 3 a b f sa sc cs Z) (ConR.new W cv _ _ _ _ _ _ _ _ _ _ HS.out) ?_
  rintro Z hz
  obtain ⟨b1, hb1⟩ : ∃ b1, b1 = W.heap.size + 1 := ⟨_, rfl⟩
  obtain ⟨b0, hb0⟩ : ∃ b0, b0 = W.heap.size := ⟨_, rfl⟩
  have HZ : Hid (ConR W b0 b1 vars sites fields 3 a b f sa sc cs Z) := by rw [hb0, hb1]; exact hz
  rw [← hb1, ← hb0]
  clear hz hb1 hb0 HS
  obtain ⟨s0, s1, s2, c0, c1, c2, c3, c4, -, -⟩ := HZ.out
  refine (rAmong_any a vars Z).mono ?_
  rintro e W1 ⟨rfl, n1, rfl⟩
  have hcl : ∀ i, i < cs.length → Z.cell? ⟨blk sa, ofs sa + i, none⟩ = some (.int .i64 (nth cs i)) := by
   obtain ⟨a9, c9, e9, -, -, h9, -⟩ := HZ.out.set.out1 sInt
   simp only [Value.slice.injEq] at e9
   obtain ⟨rfl, -, rfl⟩ := e9
   exact h9
  have hmost : mostOf ⟨vars, sites, fields, cons⟩ ⟨3, a, b, f, cs⟩ = vars := by simp [mostOf]
  have HM := Lib.hid hmost
  clear hmost
  cases ha : amB a vars
  ·have HA := Lib.hid (amB_f ha)
   clear ha
   go_wp2_with fail
   go_ret
   exact ⟨ret_int (con4 (by dsimp only; omega) (.inl (by rw [HM.out]; have := HA.out; dsimp only; omega))).symm, by first | exact below_drewN HZ.out.bel _ | exact below_drewN (below_drewN HZ.out.bel _) _⟩
  have HA := Lib.hid (amB_t ha)
  clear ha
  go_wp2_with fail
  refine (rAmong_any b vars _).mono ?_
  rintro e W2 ⟨rfl, n2, rfl⟩
  cases hb : amB b vars
  ·have HBB := Lib.hid (amB_f hb)
   clear hb
   go_wp2_with fail
   go_ret
   exact ⟨ret_int (con4 (by dsimp only; omega) (.inl (by have := HBB.out; dsimp only; omega))).symm, by first | exact below_drewN HZ.out.bel _ | exact below_drewN (below_drewN HZ.out.bel _) _⟩
  have HBB := Lib.hid (amB_t hb)
  clear hb
  go_wp2_with fail
  refine (rAmong_any f fields _).mono ?_
  rintro e W3 ⟨rfl, n3, rfl⟩
  cases hf : amB f fields
  ·have HF := Lib.hid (amB_f hf)
   clear hf
   go_wp2_with fail
   go_ret
   exact ⟨ret_int (con4 (by dsimp only; omega) (.inr (.inl ⟨by dsimp only; omega, by have := HF.out; dsimp only; omega⟩))).symm, by first | exact below_drewN HZ.out.bel _ | exact below_drewN (below_drewN HZ.out.bel _) _⟩
  have HF := Lib.hid (amB_t hf)
  clear hf
  go_wp2_with fail
  go_loopw [7] (fun x wr => ∃ j : Nat, j ≤ cs.length ∧ x = .int .i64 j ∧ Qt Z wr ∧ Hid (∀ i, i < j → 0 ≤ nth cs i ∧ nth cs i < sites)) (fun x _ => cs.length - (intOf x).toNat)
  case atStart => exact ⟨0, by omega, rfl, by exact (by first | exact Qt.refl _ | exact Qt.drewN _ _ | exact (Qt.drewN _ _).trans (Qt.drewN _ _) | exact ((Qt.drewN _ _).trans (Qt.drewN _ _)).trans (Qt.drewN _ _) | exact Qt.drew _ | exact (Qt.drewN _ _).trans (Qt.drew _)), fun i hi => by omega⟩
  case round =>
   obtain ⟨j, hj, rfl, ⟨nw, rfl⟩, hch⟩ := hrel
   by_cases hlt : j < cs.length
   ·have hck := hcl j hlt
    have hcall : ∀ n, Calls Tryz.prog 115 #[.int .i64 (nth cs j), .int .i64 sites] (Z.drewN n) fun e w' => e = .returned (.bool (amB (nth cs j) sites)) ∧ Qt (Z.drewN n) w' := fun n => rAmong_any _ _ _
    obtain ⟨d, hd⟩ : ∃ d, d = amB (nth cs j) sites := ⟨_, rfl⟩
    rw [← hd] at hcall
    have HCall := Lib.hid hcall
    clear hcall
    cases d
    ·have HD := Lib.hid (amB_f hd.symm)
     clear hd
     go_wp2_with fail
     go_quiet ((go_at_call 115; exact Qt.quiet2 (HCall.out _)))
     go_wp2_with fail
     go_ret
     exact ⟨ret_int (con4 (by dsimp only; omega) (.inr (.inr (by rw [Bool.eq_false_iff]; intro hh; have h1 := (subB_iff _ _).1 hh j hlt; have := HD.out; dsimp only at h1; omega)))).symm, by first | exact below_drewN HZ.out.bel _ | exact below_drewN (below_drewN HZ.out.bel _) _⟩
    ·have HD := Lib.hid (amB_t hd.symm)
     clear hd
     go_wp2_with fail
     go_quiet ((go_at_call 115; exact Qt.quiet2 (HCall.out _)))
     go_wp2_with fail
     go_roundw
     case rel => exact ⟨j + 1, by omega, by go_num, (by first | exact Qt.refl _ | exact Qt.drewN _ _ | exact (Qt.drewN _ _).trans (Qt.drewN _ _) | exact ((Qt.drewN _ _).trans (Qt.drewN _ _)).trans (Qt.drewN _ _) | exact Qt.drew _ | exact (Qt.drewN _ _).trans (Qt.drew _)), fun i hi => by
      by_cases e : i = j
      ·subst e; exact HD.out
      ·exact hch.out i (by omega)⟩
     case measure => simp [intOf]; omega
   ·obtain rfl : j = cs.length := by omega
    have hrest := conRest (s := ⟨vars, sites, fields, cons⟩) (c := ⟨3, a, b, f, cs⟩) (by dsimp only; omega) (by rw [HM.out]; have := HA.out; have := HBB.out; dsimp only; omega) (by have := HF.out; dsimp only at *; omega) ((subB_iff _ _).2 hch.out)
    have HRest := Lib.hid hrest
    clear hrest
    clear hch
    go_wp2_with fail
    all_goals first
     | (go_ret
        exact ⟨ret_int (by rw [HRest.out]; (try dsimp only); rw [if_pos (by omega)]), by first | exact below_drewN HZ.out.bel _ | exact below_drewN (below_drewN HZ.out.bel _) _⟩)
     | (go_ret
        have hf0 : f = 0 := by assumption
        subst hf0
        exact ⟨ret_int (by rw [HRest.out]; (try dsimp only); rw [if_pos (by omega)]), by first | exact below_drewN HZ.out.bel _ | exact below_drewN (below_drewN HZ.out.bel _) _⟩)
     | (skip
        go_loopw [8] (fun x wr => ∃ j : Nat, 1 ≤ j ∧ x = .int .i64 j ∧ Qt Z wr ∧ (j ≤ cs.length ∨ j = 1) ∧ Hid (∀ i, i + 1 < j → nth cs i < nth cs (i + 1))) (fun x _ => cs.length + 1 - (intOf x).toNat)
        case atStart => exact ⟨1, by omega, rfl, by exact (by first | exact Qt.refl _ | exact Qt.drewN _ _ | exact (Qt.drewN _ _).trans (Qt.drewN _ _) | exact ((Qt.drewN _ _).trans (Qt.drewN _ _)).trans (Qt.drewN _ _) | exact Qt.drew _ | exact (Qt.drewN _ _).trans (Qt.drew _)), by omega, fun i hi => by omega⟩
        case round =>
         obtain ⟨j, hj, rfl, ⟨nw, rfl⟩, hj2, hch⟩ := hrel
         by_cases hlt : j < cs.length
         ·first
           | (exfalso; omega)
           | (skip
              obtain ⟨m, rfl⟩ : ∃ m, j = m + 1 := ⟨j - 1, by omega⟩
              have hck := hcl (m + 1) hlt
              have hck2 := hcl m (by omega)
              have hw : IntKind.i64.wrap (m : Int) = m := IntWalk.i64_in _ (by omega)
              have hm1 : (m : Int) < (cs.length : Int) := by omega
              have hm2 : (m : Int) + 1 < (cs.length : Int) := by omega
              have hm3 : (0 : Int) ≤ (m : Int) := by omega
              have hm4 : (0 : Int) ≤ (m : Int) + 1 := by omega
              have hm5 : ((m : Int) + 1).toNat = m + 1 := by omega
              by_cases h1 : nth cs (m + 1) ≤ nth cs m
              ·have hd : decide (nth cs (m + 1) ≤ nth cs m) = true := by simpa using h1
               go_wp2_with fail
               go_quiet (fail)
               go_wp2_with fail
               go_ret
               exact ⟨ret_int (by rw [HRest.out]; (try dsimp only); rw [if_neg (by omega), if_pos (by rw [Bool.eq_false_iff]; intro hh; have := (ascB_iff _).1 hh m hlt; omega)]), by first | exact below_drewN HZ.out.bel _ | exact below_drewN (below_drewN HZ.out.bel _) _⟩
              ·have hd : decide (nth cs (m + 1) ≤ nth cs m) = false := by simpa using h1
               go_wp2_with fail
               go_quiet (fail)
               go_wp2_with fail
               go_roundw
               case rel => exact ⟨m + 2, by omega, by go_num, (by first | exact Qt.refl _ | exact Qt.drewN _ _ | exact (Qt.drewN _ _).trans (Qt.drewN _ _) | exact ((Qt.drewN _ _).trans (Qt.drewN _ _)).trans (Qt.drewN _ _) | exact Qt.drew _ | exact (Qt.drewN _ _).trans (Qt.drew _)), by omega, fun i hi => by
                by_cases e : i = m
                ·subst e; omega
                ·exact hch.out i (by omega)⟩
               case measure => simp [intOf]; omega
              )
         ·have hasc : ascB cs = true := (ascB_iff _).2 fun i hi => hch.out i (by omega)
          have HAsc := Lib.hid hasc
          clear hasc
          go_wp2_with fail
          go_ret
          exact ⟨ret_int (by rw [HRest.out]; (try dsimp only); rw [if_neg (by omega), if_neg (by rw [HAsc.out]; simp)]), below_drewN HZ.out.bel _⟩
        )
 ·go_enter Tryz.func84, Tryz.ntmps84
  go_wp2_with fail
  refine calls_gen (fun Z => ConR W W.heap.size (W.heap.size + 1) vars sites fields 4 a b f sa sc cs Z) (ConR.new W cv _ _ _ _ _ _ _ _ _ _ HS.out) ?_
  rintro Z hz
  obtain ⟨b1, hb1⟩ : ∃ b1, b1 = W.heap.size + 1 := ⟨_, rfl⟩
  obtain ⟨b0, hb0⟩ : ∃ b0, b0 = W.heap.size := ⟨_, rfl⟩
  have HZ : Hid (ConR W b0 b1 vars sites fields 4 a b f sa sc cs Z) := by rw [hb0, hb1]; exact hz
  rw [← hb1, ← hb0]
  clear hz hb1 hb0 HS
  obtain ⟨s0, s1, s2, c0, c1, c2, c3, c4, -, -⟩ := HZ.out
  refine (rAmong_any a vars Z).mono ?_
  rintro e W1 ⟨rfl, n1, rfl⟩
  have hcl : ∀ i, i < cs.length → Z.cell? ⟨blk sa, ofs sa + i, none⟩ = some (.int .i64 (nth cs i)) := by
   obtain ⟨a9, c9, e9, -, -, h9, -⟩ := HZ.out.set.out1 sInt
   simp only [Value.slice.injEq] at e9
   obtain ⟨rfl, -, rfl⟩ := e9
   exact h9
  have hmost : mostOf ⟨vars, sites, fields, cons⟩ ⟨4, a, b, f, cs⟩ = vars := by simp [mostOf]
  have HM := Lib.hid hmost
  clear hmost
  cases ha : amB a vars
  ·have HA := Lib.hid (amB_f ha)
   clear ha
   go_wp2_with fail
   go_ret
   exact ⟨ret_int (con4 (by dsimp only; omega) (.inl (by rw [HM.out]; have := HA.out; dsimp only; omega))).symm, by first | exact below_drewN HZ.out.bel _ | exact below_drewN (below_drewN HZ.out.bel _) _⟩
  have HA := Lib.hid (amB_t ha)
  clear ha
  go_wp2_with fail
  refine (rAmong_any b vars _).mono ?_
  rintro e W2 ⟨rfl, n2, rfl⟩
  cases hb : amB b vars
  ·have HBB := Lib.hid (amB_f hb)
   clear hb
   go_wp2_with fail
   go_ret
   exact ⟨ret_int (con4 (by dsimp only; omega) (.inl (by have := HBB.out; dsimp only; omega))).symm, by first | exact below_drewN HZ.out.bel _ | exact below_drewN (below_drewN HZ.out.bel _) _⟩
  have HBB := Lib.hid (amB_t hb)
  clear hb
  go_wp2_with fail
  refine (rAmong_any f fields _).mono ?_
  rintro e W3 ⟨rfl, n3, rfl⟩
  cases hf : amB f fields
  ·have HF := Lib.hid (amB_f hf)
   clear hf
   go_wp2_with fail
   go_ret
   exact ⟨ret_int (con4 (by dsimp only; omega) (.inr (.inl ⟨by dsimp only; omega, by have := HF.out; dsimp only; omega⟩))).symm, by first | exact below_drewN HZ.out.bel _ | exact below_drewN (below_drewN HZ.out.bel _) _⟩
  have HF := Lib.hid (amB_t hf)
  clear hf
  go_wp2_with fail
  go_loopw [7] (fun x wr => ∃ j : Nat, j ≤ cs.length ∧ x = .int .i64 j ∧ Qt Z wr ∧ Hid (∀ i, i < j → 0 ≤ nth cs i ∧ nth cs i < sites)) (fun x _ => cs.length - (intOf x).toNat)
  case atStart => exact ⟨0, by omega, rfl, by exact (by first | exact Qt.refl _ | exact Qt.drewN _ _ | exact (Qt.drewN _ _).trans (Qt.drewN _ _) | exact ((Qt.drewN _ _).trans (Qt.drewN _ _)).trans (Qt.drewN _ _) | exact Qt.drew _ | exact (Qt.drewN _ _).trans (Qt.drew _)), fun i hi => by omega⟩
  case round =>
   obtain ⟨j, hj, rfl, ⟨nw, rfl⟩, hch⟩ := hrel
   by_cases hlt : j < cs.length
   ·have hck := hcl j hlt
    have hcall : ∀ n, Calls Tryz.prog 115 #[.int .i64 (nth cs j), .int .i64 sites] (Z.drewN n) fun e w' => e = .returned (.bool (amB (nth cs j) sites)) ∧ Qt (Z.drewN n) w' := fun n => rAmong_any _ _ _
    obtain ⟨d, hd⟩ : ∃ d, d = amB (nth cs j) sites := ⟨_, rfl⟩
    rw [← hd] at hcall
    have HCall := Lib.hid hcall
    clear hcall
    cases d
    ·have HD := Lib.hid (amB_f hd.symm)
     clear hd
     go_wp2_with fail
     go_quiet ((go_at_call 115; exact Qt.quiet2 (HCall.out _)))
     go_wp2_with fail
     go_ret
     exact ⟨ret_int (con4 (by dsimp only; omega) (.inr (.inr (by rw [Bool.eq_false_iff]; intro hh; have h1 := (subB_iff _ _).1 hh j hlt; have := HD.out; dsimp only at h1; omega)))).symm, by first | exact below_drewN HZ.out.bel _ | exact below_drewN (below_drewN HZ.out.bel _) _⟩
    ·have HD := Lib.hid (amB_t hd.symm)
     clear hd
     go_wp2_with fail
     go_quiet ((go_at_call 115; exact Qt.quiet2 (HCall.out _)))
     go_wp2_with fail
     go_roundw
     case rel => exact ⟨j + 1, by omega, by go_num, (by first | exact Qt.refl _ | exact Qt.drewN _ _ | exact (Qt.drewN _ _).trans (Qt.drewN _ _) | exact ((Qt.drewN _ _).trans (Qt.drewN _ _)).trans (Qt.drewN _ _) | exact Qt.drew _ | exact (Qt.drewN _ _).trans (Qt.drew _)), fun i hi => by
      by_cases e : i = j
      ·subst e; exact HD.out
      ·exact hch.out i (by omega)⟩
     case measure => simp [intOf]; omega
   ·obtain rfl : j = cs.length := by omega
    have hrest := conRest (s := ⟨vars, sites, fields, cons⟩) (c := ⟨4, a, b, f, cs⟩) (by dsimp only; omega) (by rw [HM.out]; have := HA.out; have := HBB.out; dsimp only; omega) (by have := HF.out; dsimp only at *; omega) ((subB_iff _ _).2 hch.out)
    have HRest := Lib.hid hrest
    clear hrest
    clear hch
    go_wp2_with fail
    all_goals first
     | (go_ret
        exact ⟨ret_int (by rw [HRest.out]; (try dsimp only); rw [if_pos (by omega)]), by first | exact below_drewN HZ.out.bel _ | exact below_drewN (below_drewN HZ.out.bel _) _⟩)
     | (go_ret
        have hf0 : f = 0 := by assumption
        subst hf0
        exact ⟨ret_int (by rw [HRest.out]; (try dsimp only); rw [if_pos (by omega)]), by first | exact below_drewN HZ.out.bel _ | exact below_drewN (below_drewN HZ.out.bel _) _⟩)
     | (skip
        go_loopw [8] (fun x wr => ∃ j : Nat, 1 ≤ j ∧ x = .int .i64 j ∧ Qt Z wr ∧ (j ≤ cs.length ∨ j = 1) ∧ Hid (∀ i, i + 1 < j → nth cs i < nth cs (i + 1))) (fun x _ => cs.length + 1 - (intOf x).toNat)
        case atStart => exact ⟨1, by omega, rfl, by exact (by first | exact Qt.refl _ | exact Qt.drewN _ _ | exact (Qt.drewN _ _).trans (Qt.drewN _ _) | exact ((Qt.drewN _ _).trans (Qt.drewN _ _)).trans (Qt.drewN _ _) | exact Qt.drew _ | exact (Qt.drewN _ _).trans (Qt.drew _)), by omega, fun i hi => by omega⟩
        case round =>
         obtain ⟨j, hj, rfl, ⟨nw, rfl⟩, hj2, hch⟩ := hrel
         by_cases hlt : j < cs.length
         ·first
           | (exfalso; omega)
           | (skip
              obtain ⟨m, rfl⟩ : ∃ m, j = m + 1 := ⟨j - 1, by omega⟩
              have hck := hcl (m + 1) hlt
              have hck2 := hcl m (by omega)
              have hw : IntKind.i64.wrap (m : Int) = m := IntWalk.i64_in _ (by omega)
              have hm1 : (m : Int) < (cs.length : Int) := by omega
              have hm2 : (m : Int) + 1 < (cs.length : Int) := by omega
              have hm3 : (0 : Int) ≤ (m : Int) := by omega
              have hm4 : (0 : Int) ≤ (m : Int) + 1 := by omega
              have hm5 : ((m : Int) + 1).toNat = m + 1 := by omega
              by_cases h1 : nth cs (m + 1) ≤ nth cs m
              ·have hd : decide (nth cs (m + 1) ≤ nth cs m) = true := by simpa using h1
               go_wp2_with fail
               go_quiet (fail)
               go_wp2_with fail
               go_ret
               exact ⟨ret_int (by rw [HRest.out]; (try dsimp only); rw [if_neg (by omega), if_pos (by rw [Bool.eq_false_iff]; intro hh; have := (ascB_iff _).1 hh m hlt; omega)]), by first | exact below_drewN HZ.out.bel _ | exact below_drewN (below_drewN HZ.out.bel _) _⟩
              ·have hd : decide (nth cs (m + 1) ≤ nth cs m) = false := by simpa using h1
               go_wp2_with fail
               go_quiet (fail)
               go_wp2_with fail
               go_roundw
               case rel => exact ⟨m + 2, by omega, by go_num, (by first | exact Qt.refl _ | exact Qt.drewN _ _ | exact (Qt.drewN _ _).trans (Qt.drewN _ _) | exact ((Qt.drewN _ _).trans (Qt.drewN _ _)).trans (Qt.drewN _ _) | exact Qt.drew _ | exact (Qt.drewN _ _).trans (Qt.drew _)), by omega, fun i hi => by
                by_cases e : i = m
                ·subst e; omega
                ·exact hch.out i (by omega)⟩
               case measure => simp [intOf]; omega
              )
         ·have hasc : ascB cs = true := (ascB_iff _).2 fun i hi => hch.out i (by omega)
          have HAsc := Lib.hid hasc
          clear hasc
          go_wp2_with fail
          go_ret
          exact ⟨ret_int (by rw [HRest.out]; (try dsimp only); rw [if_neg (by omega), if_neg (by rw [HAsc.out]; simp)]), below_drewN HZ.out.bel _⟩
        )
 ·go_enter Tryz.func84, Tryz.ntmps84
  go_wp2_with fail
  refine calls_gen (fun Z => ConR W W.heap.size (W.heap.size + 1) vars sites fields 5 a b f sa sc cs Z) (ConR.new W cv _ _ _ _ _ _ _ _ _ _ HS.out) ?_
  rintro Z hz
  obtain ⟨b1, hb1⟩ : ∃ b1, b1 = W.heap.size + 1 := ⟨_, rfl⟩
  obtain ⟨b0, hb0⟩ : ∃ b0, b0 = W.heap.size := ⟨_, rfl⟩
  have HZ : Hid (ConR W b0 b1 vars sites fields 5 a b f sa sc cs Z) := by rw [hb0, hb1]; exact hz
  rw [← hb1, ← hb0]
  clear hz hb1 hb0 HS
  obtain ⟨s0, s1, s2, c0, c1, c2, c3, c4, -, -⟩ := HZ.out
  refine (rAmong_any a vars Z).mono ?_
  rintro e W1 ⟨rfl, n1, rfl⟩
  have hcl : ∀ i, i < cs.length → Z.cell? ⟨blk sa, ofs sa + i, none⟩ = some (.int .i64 (nth cs i)) := by
   obtain ⟨a9, c9, e9, -, -, h9, -⟩ := HZ.out.set.out1 sInt
   simp only [Value.slice.injEq] at e9
   obtain ⟨rfl, -, rfl⟩ := e9
   exact h9
  have hmost : mostOf ⟨vars, sites, fields, cons⟩ ⟨5, a, b, f, cs⟩ = vars := by simp [mostOf]
  have HM := Lib.hid hmost
  clear hmost
  cases ha : amB a vars
  ·have HA := Lib.hid (amB_f ha)
   clear ha
   go_wp2_with fail
   go_ret
   exact ⟨ret_int (con4 (by dsimp only; omega) (.inl (by rw [HM.out]; have := HA.out; dsimp only; omega))).symm, by first | exact below_drewN HZ.out.bel _ | exact below_drewN (below_drewN HZ.out.bel _) _⟩
  have HA := Lib.hid (amB_t ha)
  clear ha
  go_wp2_with fail
  refine (rAmong_any b vars _).mono ?_
  rintro e W2 ⟨rfl, n2, rfl⟩
  cases hb : amB b vars
  ·have HBB := Lib.hid (amB_f hb)
   clear hb
   go_wp2_with fail
   go_ret
   exact ⟨ret_int (con4 (by dsimp only; omega) (.inl (by have := HBB.out; dsimp only; omega))).symm, by first | exact below_drewN HZ.out.bel _ | exact below_drewN (below_drewN HZ.out.bel _) _⟩
  have HBB := Lib.hid (amB_t hb)
  clear hb
  go_wp2_with fail
  have HF : Hid ((5 : Int) ≠ 3 ∧ (5 : Int) ≠ 4) := Lib.hid (by omega)
  go_loopw [7] (fun x wr => ∃ j : Nat, j ≤ cs.length ∧ x = .int .i64 j ∧ Qt Z wr ∧ Hid (∀ i, i < j → 0 ≤ nth cs i ∧ nth cs i < sites)) (fun x _ => cs.length - (intOf x).toNat)
  case atStart => exact ⟨0, by omega, rfl, by exact (by first | exact Qt.refl _ | exact Qt.drewN _ _ | exact (Qt.drewN _ _).trans (Qt.drewN _ _) | exact ((Qt.drewN _ _).trans (Qt.drewN _ _)).trans (Qt.drewN _ _) | exact Qt.drew _ | exact (Qt.drewN _ _).trans (Qt.drew _)), fun i hi => by omega⟩
  case round =>
   obtain ⟨j, hj, rfl, ⟨nw, rfl⟩, hch⟩ := hrel
   by_cases hlt : j < cs.length
   ·have hck := hcl j hlt
    have hcall : ∀ n, Calls Tryz.prog 115 #[.int .i64 (nth cs j), .int .i64 sites] (Z.drewN n) fun e w' => e = .returned (.bool (amB (nth cs j) sites)) ∧ Qt (Z.drewN n) w' := fun n => rAmong_any _ _ _
    obtain ⟨d, hd⟩ : ∃ d, d = amB (nth cs j) sites := ⟨_, rfl⟩
    rw [← hd] at hcall
    have HCall := Lib.hid hcall
    clear hcall
    cases d
    ·have HD := Lib.hid (amB_f hd.symm)
     clear hd
     go_wp2_with fail
     go_quiet ((go_at_call 115; exact Qt.quiet2 (HCall.out _)))
     go_wp2_with fail
     go_ret
     exact ⟨ret_int (con4 (by dsimp only; omega) (.inr (.inr (by rw [Bool.eq_false_iff]; intro hh; have h1 := (subB_iff _ _).1 hh j hlt; have := HD.out; dsimp only at h1; omega)))).symm, by first | exact below_drewN HZ.out.bel _ | exact below_drewN (below_drewN HZ.out.bel _) _⟩
    ·have HD := Lib.hid (amB_t hd.symm)
     clear hd
     go_wp2_with fail
     go_quiet ((go_at_call 115; exact Qt.quiet2 (HCall.out _)))
     go_wp2_with fail
     go_roundw
     case rel => exact ⟨j + 1, by omega, by go_num, (by first | exact Qt.refl _ | exact Qt.drewN _ _ | exact (Qt.drewN _ _).trans (Qt.drewN _ _) | exact ((Qt.drewN _ _).trans (Qt.drewN _ _)).trans (Qt.drewN _ _) | exact Qt.drew _ | exact (Qt.drewN _ _).trans (Qt.drew _)), fun i hi => by
      by_cases e : i = j
      ·subst e; exact HD.out
      ·exact hch.out i (by omega)⟩
     case measure => simp [intOf]; omega
   ·obtain rfl : j = cs.length := by omega
    have hrest := conRest (s := ⟨vars, sites, fields, cons⟩) (c := ⟨5, a, b, f, cs⟩) (by dsimp only; omega) (by rw [HM.out]; have := HA.out; have := HBB.out; dsimp only; omega) (by have := HF.out; dsimp only at *; omega) ((subB_iff _ _).2 hch.out)
    have HRest := Lib.hid hrest
    clear hrest
    clear hch
    go_wp2_with fail
    all_goals first
     | (go_ret
        exact ⟨ret_int (by rw [HRest.out]; (try dsimp only); rw [if_pos (by omega)]), by first | exact below_drewN HZ.out.bel _ | exact below_drewN (below_drewN HZ.out.bel _) _⟩)
     | (go_ret
        have hf0 : f = 0 := by assumption
        subst hf0
        exact ⟨ret_int (by rw [HRest.out]; (try dsimp only); rw [if_pos (by omega)]), by first | exact below_drewN HZ.out.bel _ | exact below_drewN (below_drewN HZ.out.bel _) _⟩)
     | (skip
        go_loopw [8] (fun x wr => ∃ j : Nat, 1 ≤ j ∧ x = .int .i64 j ∧ Qt Z wr ∧ (j ≤ cs.length ∨ j = 1) ∧ Hid (∀ i, i + 1 < j → nth cs i < nth cs (i + 1))) (fun x _ => cs.length + 1 - (intOf x).toNat)
        case atStart => exact ⟨1, by omega, rfl, by exact (by first | exact Qt.refl _ | exact Qt.drewN _ _ | exact (Qt.drewN _ _).trans (Qt.drewN _ _) | exact ((Qt.drewN _ _).trans (Qt.drewN _ _)).trans (Qt.drewN _ _) | exact Qt.drew _ | exact (Qt.drewN _ _).trans (Qt.drew _)), by omega, fun i hi => by omega⟩
        case round =>
         obtain ⟨j, hj, rfl, ⟨nw, rfl⟩, hj2, hch⟩ := hrel
         by_cases hlt : j < cs.length
         ·first
           | (exfalso; omega)
           | (skip
              obtain ⟨m, rfl⟩ : ∃ m, j = m + 1 := ⟨j - 1, by omega⟩
              have hck := hcl (m + 1) hlt
              have hck2 := hcl m (by omega)
              have hw : IntKind.i64.wrap (m : Int) = m := IntWalk.i64_in _ (by omega)
              have hm1 : (m : Int) < (cs.length : Int) := by omega
              have hm2 : (m : Int) + 1 < (cs.length : Int) := by omega
              have hm3 : (0 : Int) ≤ (m : Int) := by omega
              have hm4 : (0 : Int) ≤ (m : Int) + 1 := by omega
              have hm5 : ((m : Int) + 1).toNat = m + 1 := by omega
              by_cases h1 : nth cs (m + 1) ≤ nth cs m
              ·have hd : decide (nth cs (m + 1) ≤ nth cs m) = true := by simpa using h1
               go_wp2_with fail
               go_quiet (fail)
               go_wp2_with fail
               go_ret
               exact ⟨ret_int (by rw [HRest.out]; (try dsimp only); rw [if_neg (by omega), if_pos (by rw [Bool.eq_false_iff]; intro hh; have := (ascB_iff _).1 hh m hlt; omega)]), by first | exact below_drewN HZ.out.bel _ | exact below_drewN (below_drewN HZ.out.bel _) _⟩
              ·have hd : decide (nth cs (m + 1) ≤ nth cs m) = false := by simpa using h1
               go_wp2_with fail
               go_quiet (fail)
               go_wp2_with fail
               go_roundw
               case rel => exact ⟨m + 2, by omega, by go_num, (by first | exact Qt.refl _ | exact Qt.drewN _ _ | exact (Qt.drewN _ _).trans (Qt.drewN _ _) | exact ((Qt.drewN _ _).trans (Qt.drewN _ _)).trans (Qt.drewN _ _) | exact Qt.drew _ | exact (Qt.drewN _ _).trans (Qt.drew _)), by omega, fun i hi => by
                by_cases e : i = m
                ·subst e; omega
                ·exact hch.out i (by omega)⟩
               case measure => simp [intOf]; omega
              )
         ·have hasc : ascB cs = true := (ascB_iff _).2 fun i hi => hch.out i (by omega)
          have HAsc := Lib.hid hasc
          clear hasc
          go_wp2_with fail
          go_ret
          exact ⟨ret_int (by rw [HRest.out]; (try dsimp only); rw [if_neg (by omega), if_neg (by rw [HAsc.out]; simp)]), below_drewN HZ.out.bel _⟩
        )
end Go.Proofs.YtgblfjccccdidaaGreat
end
section
namespace Go.Proofs.YtgblfjccccdidaaGreat
open Go.RowKit Go.Dfl Go.And
def CkIn (bw b o : Nat) (s : Sy) (cv : Value) (c : R) (sv : Value) (W : World) : Prop :=
 BoxS W bw s cv ∧ W.cell? ⟨b, o, none⟩ = some (.int .i64 c.k) ∧ W.cell? ⟨b, o + 1, none⟩ = some (.int .i64 c.a) ∧ W.cell? ⟨b, o + 2, none⟩ = some (.int .i64 c.b) ∧ W.cell? ⟨b, o + 3, none⟩ = some (.int .i64 c.f) ∧ W.cell? ⟨b, o + 4, none⟩ = some sv
theorem CkIn.grown {bw b o : Nat} {s : Sy} {cv : Value} {c : R} {sv : Value} {W W' : World} (h : CkIn bw b o s cv c sv W) (hg : W.grownBy W' none) : CkIn bw b o s cv c sv W' :=
 ⟨h.1.grown hg (by simp), hg.cell h.2.1 (by simp), hg.cell h.2.2.1 (by simp), hg.cell h.2.2.2.1 (by simp), hg.cell h.2.2.2.2.1 (by simp), hg.cell h.2.2.2.2.2 (by simp)⟩
end Go.Proofs.YtgblfjccccdidaaGreat
end
section
namespace Go.Proofs.YtgblfjccccdidaaGreat
open Go.RowKit Go.Dfl Go.And
set_option maxHeartbeats 3200000 in
theorem rCheckC_any (s : Sy) (cv : Value) (W : World) (hc : ConsIn W cv s.cons) (hl9 : s.cons.length ≤ 1000) :
  Calls Tryz.prog 53 #[SysV s cv] W fun e W' => e = .returned (.int .i64 (chkG s)) ∧ Below W.heap.size W W' := by
 obtain ⟨ca, cc, rfl, hlen, hci, hcc⟩ := hc.out
 have HC := Lib.hid (And.intro hcc hc)
 clear hcc hc
 unfold SysV
 by_cases h1 : s.vars < 0
 ·go_enter Tryz.func53, Tryz.ntmps53
  go_wp2_with fail
  go_ret
  exact ⟨ret_int (by unfold chkG; rw [if_pos (by omega)]), (Below.refl _ _).alloc (Nat.le_refl _) _⟩
 by_cases h2 : s.sites < 0
 ·go_enter Tryz.func53, Tryz.ntmps53
  go_wp2_with fail
  go_ret
  exact ⟨ret_int (by unfold chkG; rw [if_pos (by omega)]), (Below.refl _ _).alloc (Nat.le_refl _) _⟩
 by_cases h3 : s.fields < 0
 ·go_enter Tryz.func53, Tryz.ntmps53
  go_wp2_with fail
  go_ret
  exact ⟨ret_int (by unfold chkG; rw [if_pos (by omega)]), (Below.refl _ _).alloc (Nat.le_refl _) _⟩
 by_cases g1 : 65536 < s.vars
 ·go_enter Tryz.func53, Tryz.ntmps53
  go_wp2_with fail
  go_ret
  exact ⟨ret_int (by unfold chkG bigS; rw [if_neg (by omega), if_pos (by simp; omega)]), (Below.refl _ _).alloc (Nat.le_refl _) _⟩
 by_cases g2 : 1024 < s.sites
 ·go_enter Tryz.func53, Tryz.ntmps53
  go_wp2_with fail
  go_ret
  exact ⟨ret_int (by unfold chkG bigS; rw [if_neg (by omega), if_pos (by simp; omega)]), (Below.refl _ _).alloc (Nat.le_refl _) _⟩
 by_cases g3 : 1024 < s.fields
 ·go_enter Tryz.func53, Tryz.ntmps53
  go_wp2_with fail
  go_ret
  exact ⟨ret_int (by unfold chkG bigS; rw [if_neg (by omega), if_pos (by simp; omega)]), (Below.refl _ _).alloc (Nat.le_refl _) _⟩
 have hm0 : 0 ≤ s.sites * s.fields := Int.mul_nonneg (by omega) (by omega)
 have hm1 : s.sites * s.fields ≤ 1048576 := by
  have h : s.sites * s.fields ≤ 1024 * 1024 := Int.mul_le_mul (by omega) (by omega) (by omega) (by omega)
  omega
 by_cases g4 : 65536 < s.sites * s.fields
 ·go_enter Tryz.func53, Tryz.ntmps53
  go_wp2_with fail
  go_ret
  exact ⟨ret_int (by unfold chkG bigS; rw [if_neg (by omega), if_pos (by simp; omega)]), (Below.refl _ _).alloc (Nat.le_refl _) _⟩
 have hcode : chkG s = fromCode s 0 := by unfold chkG fromCode bigS; rw [if_neg (by omega), if_neg (by simp; omega)]; rfl
 have HK := Lib.hid hcode
 clear hcode
 go_enter Tryz.func53, Tryz.ntmps53
 go_wp2_with fail
 refine wp_gen (fun Z => BoxS Z W.heap.size s (.slice ca s.cons.length cc) ∧ Below W.heap.size W Z) ⟨BoxS.new _ _ _ _, (Below.refl _ _).alloc (Nat.le_refl _) _⟩ ?_
 rintro W1 h5
 obtain ⟨bw, hbw⟩ : ∃ bw, bw = W.heap.size := ⟨_, rfl⟩
 rw [← hbw] at h5 ⊢
 have H5 := Lib.hid h5
 have Hbw := Lib.hid hbw
 clear h5 hbw hm0 hm1 h1 h2 h3 g1 g2 g3 g4
 go_loopw [3, 4] (fun x _ wr => ∃ k : Nat, k ≤ s.cons.length ∧ x = .int .i64 k ∧ Hid (BoxS wr bw s (.slice ca s.cons.length cc) ∧ Below bw W wr ∧ chkG s = fromCode s k)) (fun x _ _ => s.cons.length - (intOf x).toNat)
 case atStart => exact ⟨0, by omega, rfl, H5.out.1, H5.out.2, HK.out⟩
 case round =>
  obtain ⟨k, hk, rfl, hh⟩ := hrel
  by_cases hlt : k < s.cons.length
  ·obtain ⟨sa, sn, sc, c0, c1, c2, c3, c4, hset, hbl⟩ := HC.out.1 k hlt
   have hbel := hh.out.2.1
   have hbl' : blk ca < bw := by rw [Hbw.out]; exact hbl
   rw [← hbel.cell (p := ⟨blk ca, ofs ca + k * 5, none⟩) hbl'] at c0
   rw [← hbel.cell (p := ⟨blk ca, ofs ca + k * 5 + 1, none⟩) hbl'] at c1
   rw [← hbel.cell (p := ⟨blk ca, ofs ca + k * 5 + 2, none⟩) hbl'] at c2
   rw [← hbel.cell (p := ⟨blk ca, ofs ca + k * 5 + 3, none⟩) hbl'] at c3
   rw [← hbel.cell (p := ⟨blk ca, ofs ca + k * 5 + 4, none⟩) hbl'] at c4
   obtain ⟨d0, d1, d2, d3⟩ := hh.out.1
   have hstep := fromCode_step hlt
   have hwr : W.heap.size ≤ wr.heap.size := by rw [← Hbw.out]; exact Nat.le_trans (by rw [Hbw.out]; exact Nat.le_refl _) hbel.size
   have hset' : Ints wr (.slice sa sn sc) (nth s.cons k).s := hset.below (by rw [← Hbw.out]; exact hbel)
   have hbwl : bw < wr.heap.size := World.block_lt_of_cell? wr _ d0
   have n1 : bw ≠ wr.heap.size := by omega
   have HS := Lib.hid (And.intro hstep (And.intro hset' (And.intro hbel (And.intro hh.out.2.2 hh.out.1))))
   clear hstep hset' hbel hset hbl hbl' hh
   generalize nth s.cons k = c at *
   have hck : CkIn bw (blk ca) (ofs ca + k * 5) s (.slice ca s.cons.length cc) c (.slice sa sn sc) wr := ⟨⟨d0, d1, d2, d3⟩, c0, c1, c2, c3, c4⟩
   have HCK := Lib.hid hck
   clear hck d0 d1 d2 c0 c1 c2 c3 c4
   go_wp2_with fail
   refine wp_region_mix [0, 1, 2, 3, 4, 5] [6, 7] (fun w' => CkIn bw (blk ca) (ofs ca + k * 5) s (.slice ca s.cons.length cc) c (.slice sa sn sc) w') (by kernel_rfl) (by kernel_rfl) (by kernel_rfl) (HCK.out.grown (grownBy_drew0 _)) ?_
   repeat (
    refine wpHeads_cons (v := ?_) rfl (Or.inl ⟨by rfl, ?_⟩) ?_
    rotate_left
    ·(intro W hW; obtain ⟨⟨q1, q2, q3, q4⟩, q5, q6, q7, q8, q9⟩ := hW; go_simp; try with_reducible rfl)
    simp only [Act.put, List.setIfInBounds_toArray])
   refine wpHeads_nil ?_
   refine wpTails_cons rfl ?_
   go_wp2_with fail
   refine (rCon_any s (.slice ca s.cons.length cc) c (.slice sa sn sc) _ (HS.out.2.1.grown (grownBy_drew0 _) (by simp))).mono ?_
   rintro e W7 ⟨rfl, q7⟩
   have g7 := grownBy_trans (grownBy_drew0 wr) (grownBy_below q7)
   have bx7 := HS.out.2.2.2.2.grown g7 (by simp)
   have be7 := HS.out.2.2.1.grown g7 (by omega) (by simp)
   have H7 := Lib.hid (And.intro bx7 be7)
   have HCK7 := Lib.hid (HCK.out.grown g7)
   clear bx7 be7 g7 q7 d3
   go_wp2_with fail
   refine tail_mk HCK7.out ?_
   refine wpTails_one rfl ?_
   go_wp2_with fail
   refine thenQ_mk ?_
   by_cases h0 : conCode s c = 0
   ·have hz : ((0 : Int) != 0) = false := rfl
    rw [h0]
    have hst := HS.out.1
    rw [if_pos h0] at hst
    have HT := Lib.hid hst
    clear hst h0
    go_wp2_with fail
    go_roundw
    case rel => exact ⟨k + 1, by omega, by go_num, H7.out.1, H7.out.2, by rw [HS.out.2.2.2.1, HT.out]⟩
    case measure => simp [intOf]; omega
   ·have hst := HS.out.1
    rw [if_neg h0] at hst
    have HT := Lib.hid hst
    have hz : (conCode s c != 0) = true := by simpa using h0
    clear hst
    generalize conCode s c = code at *
    go_wp2_with fail
    go_ret
    exact ⟨ret_int (by rw [HS.out.2.2.2.1, HT.out]), by rw [← Hbw.out]; exact H7.out.2⟩
  ·obtain rfl : k = s.cons.length := by omega
   have HE := Lib.hid hh.out
   clear hh
   obtain ⟨d0, d1, d2, d3⟩ := HE.out.1
   go_wp2_with fail
   go_ret
   exact ⟨ret_int (by rw [HE.out.2.2, fromCode_end]), by rw [← Hbw.out]; exact HE.out.2.1⟩
open Go.Clp Go.Gra in
set_option maxHeartbeats 1600000 in
theorem rCk19_any (s : Sy) (cv : Value) (W : World) (hc : ConsIn W cv s.cons) (hck : ∀ Z, ConsIn Z cv s.cons → Calls Tryz.prog 53 #[SysV s cv] Z fun e W' => e = .returned (.int .i64 (chkG s)) ∧ Below Z.heap.size Z W') :
  Calls Tryz.prog 27 #[SysV s cv] W fun e W' => e = .returned (.int .i64 (colC s)) ∧ Below W.heap.size W W' := by
 have hbs := BoxS.new W s cv 24
 have hb0 := (Below.refl W.heap.size W).alloc (Nat.le_refl _) (.cells #[.int .i64 s.vars, .int .i64 s.sites, .int .i64 s.fields, cv] 24)
 obtain ⟨ca, cc, rfl, -⟩ := hc.out
 have hk := hck _ (hc.below hb0)
 have HK := Lib.hid (And.intro hk (And.intro hb0 hbs))
 clear hc hck hk hb0 hbs
 unfold SysV at *
 go_enter Tryz.func27, Tryz.ntmps27
 go_wp2_with fail
 refine HK.out.1.mono ?_
 rintro e W1 ⟨rfl, q1⟩
 obtain ⟨d0, -, -, -⟩ := HK.out.2.2.grown (grownBy_below q1) (by simp)
 have H1 := Lib.hid (HK.out.2.1.trans (q1.mono HK.out.2.1.size))
 clear q1
 by_cases h0 : chkG s = 0
 ·rw [h0]
  have hz : ((0 : Int) != 0) = false := rfl
  by_cases h1 : 8192 < s.vars
  ·have he : colC s = 3 := by unfold colC; rw [if_neg (by simpa using h0), if_pos h1]
   have HE := Lib.hid he
   clear he h0
   go_wp2_with fail
   go_ret
   exact ⟨ret_int HE.out.symm, H1.out⟩
  ·have he : colC s = 0 := by unfold colC; rw [if_neg (by simpa using h0), if_neg h1]
   have HE := Lib.hid he
   clear he h0
   go_wp2_with fail
   go_ret
   exact ⟨ret_int HE.out.symm, H1.out⟩
 ·have he : colC s = chkG s := by unfold colC; rw [if_pos h0]
  have HE := Lib.hid he
  have hz : (chkG s != 0) = true := by simpa using h0
  clear he h0
  generalize chkG s = code at *
  go_wp2_with fail
  go_ret
  exact ⟨ret_int HE.out.symm, H1.out⟩
open Go.Clp Go.Gra in
set_option maxHeartbeats 3200000 in
set_option maxRecDepth 100000 in
theorem rCopiesO_any (s : Sy) (cv : Value) (W : World) (hc : ConsIn W cv s.cons) (hl9 : s.cons.length ≤ 1000) :
  Calls Tryz.prog 29 #[SysV s cv] W fun e W' => (∃ ea ec, e = .returned (.slice ea (copE s.cons).length ec) ∧ OwnE elE W' (W.heap.size + 1) 60 (.slice ea (copE s.cons).length ec) (copE s.cons)) ∧ Below W.heap.size W W' := by
 obtain ⟨ca, cc, rfl, hlen, hci, hcc⟩ := hc.out
 have hbs := BoxS.new W s (.slice ca s.cons.length cc) 24
 have hb0 := (Below.refl W.heap.size W).alloc (Nat.le_refl _) (.cells #[.int .i64 s.vars, .int .i64 s.sites, .int .i64 s.fields, .slice ca s.cons.length cc] 24)
 have H0 := Lib.hid (And.intro hbs (And.intro hb0 (And.intro hcc (show OwnE elE (W.alloc (.cells #[.int .i64 s.vars, .int .i64 s.sites, .int .i64 s.fields, .slice ca s.cons.length cc] 24)) (W.heap.size + 1) 60 (.slice none 0 0) [] from OwnE.nil _ _ _ _))))
 clear hbs hb0 hcc hc
 unfold SysV
 go_enter Tryz.func29, Tryz.ntmps29
 go_wp2_with fail
 refine wp_gen (fun Z => BoxS Z W.heap.size s (.slice ca s.cons.length cc) ∧ Below W.heap.size W Z ∧ OwnE elE Z (W.heap.size + 1) 60 (.slice none 0 0) []) ⟨H0.out.1, H0.out.2.1, H0.out.2.2.2⟩ ?_
 intro Z0 hZ0
 obtain ⟨bw, hbw⟩ : ∃ bw, bw = W.heap.size := ⟨_, rfl⟩
 rw [← hbw] at hZ0 ⊢
 have HZ0 := Lib.hid (And.intro hZ0 hbw)
 clear hZ0 hbw
 go_loopw [3, 4] (fun y x wr => ∃ (k : Nat) (ea : Option Addr) (ec : Nat), k ≤ s.cons.length ∧ x = .int .i64 k ∧ y = .slice ea (copE (s.cons.take k)).length ec ∧ Hid (BoxS wr bw s (.slice ca s.cons.length cc) ∧ Below bw W wr ∧ OwnE elE wr (bw + 1) 60 (.slice ea (copE (s.cons.take k)).length ec) (copE (s.cons.take k)))) (fun _ x _ => s.cons.length - (intOf x).toNat)
 case atStart => exact ⟨0, none, 0, by omega, rfl, rfl, HZ0.out.1.1, HZ0.out.1.2.1, HZ0.out.1.2.2⟩
 case round =>
  obtain ⟨k, ea, ec, hk, rfl, rfl, hh⟩ := hrel
  obtain ⟨d0, d1, d2, d3⟩ := hh.out.1
  have hwz : bw + 1 ≤ wr.heap.size := World.block_lt_of_cell? wr _ d0
  have hbel := hh.out.2.1
  by_cases hlt : k < s.cons.length
  ·obtain ⟨sa, sn, sc, c0, c1, c2, c3, c4, hset, hbl⟩ := H0.out.2.2.1 k hlt
   have hbl' : blk ca < bw := by rw [HZ0.out.2]; exact hbl
   rw [← hbel.cell (p := ⟨blk ca, ofs ca + k * 5, none⟩) hbl'] at c0
   rw [← hbel.cell (p := ⟨blk ca, ofs ca + k * 5 + 1, none⟩) hbl'] at c1
   rw [← hbel.cell (p := ⟨blk ca, ofs ca + k * 5 + 2, none⟩) hbl'] at c2
   have hel : (copE (s.cons.take k)).length ≤ 1000 := Nat.le_trans (copE_len _) (by simp; omega)
   obtain ⟨c, hcd⟩ : ∃ c, c = nth s.cons k := ⟨_, rfl⟩
   rw [← hcd] at c0 c1 c2
   have HX := Lib.hid (And.intro hh.out (And.intro hcd (And.intro hbl' hwz)))
   clear hh hbel hbl hbl' hset c3 c4 hwz
   by_cases h2 : c.k = 2
   ·have hw : (c.k == 2) = true := by simpa using h2
    have hyes := copE_yes hlt (by rw [← hcd]; exact h2)
    rw [← hcd] at hyes
    have HY := Lib.hid hyes
    clear hyes h2 hcd
    generalize hE : copE (s.cons.take k) = E at *
    go_wp2_with fail
    refine wp_region_mix [0, 1, 2, 3, 4, 5, 6, 7, 8, 9, 10, 11, 12, 13] [14, 15, 16] (fun w' => w'.cell? ⟨bw, 3, none⟩ = some (.slice ca s.cons.length cc) ∧ w'.cell? ⟨blk ca, ofs ca + k * 5 + 1, none⟩ = some (.int .i64 c.a) ∧ w'.cell? ⟨blk ca, ofs ca + k * 5 + 2, none⟩ = some (.int .i64 c.b)) (by kernel_rfl) (by kernel_rfl) (by kernel_rfl) ⟨d3, c1, c2⟩ ?_
    repeat (
     refine wpHeads_cons (v := ?_) rfl (Or.inl ⟨by rfl, ?_⟩) ?_
     rotate_left
     ·(intro W hW; obtain ⟨x1, x2, x3⟩ := hW; go_simp; try with_reducible rfl)
     simp only [Act.put, List.setIfInBounds_toArray, List.getElem_toArray, List.getElem_cons_zero, List.getElem_cons_succ, List.set_cons_succ, List.set_cons_zero])
    refine wpHeads_nil ?_
    refine wpTails_cons rfl ?_
    go_wp2_with fail
    have hA := grownBy_trans (grownBy_drew0 wr) (grownBy_alloc wr.drew (.cells #[.int .i64 c.a, .int .i64 c.b] 60))
    have hSA : (wr.drew.alloc (.cells #[.int .i64 c.a, .int .i64 c.b] 60)).cell? ⟨bw, 3, none⟩ = some (.slice ca s.cons.length cc) ∧ (wr.drew.alloc (.cells #[.int .i64 c.a, .int .i64 c.b] 60)).cell? ⟨blk ca, ofs ca + k * 5 + 1, none⟩ = some (.int .i64 c.a) ∧ (wr.drew.alloc (.cells #[.int .i64 c.a, .int .i64 c.b] 60)).cell? ⟨blk ca, ofs ca + k * 5 + 2, none⟩ = some (.int .i64 c.b) := ⟨hA.cell d3 (by simp), hA.cell c1 (by simp), hA.cell c2 (by simp)⟩
    have HSA := Lib.hid hSA
    have hsz : bw + 1 ≤ (wr.drew.alloc (.cells #[.int .i64 c.a, .int .i64 c.b] 60)).heap.size := Nat.le_trans HX.out.2.2.2 hA.size
    have HA := Lib.hid (And.intro (HX.out.1.1.grown hA (by simp)) (And.intro (HX.out.1.2.1.grown hA (by have := HX.out.2.2.2; omega) (by simp)) (And.intro (OwnE.grown HX.out.1.2.2 hA (by cases (Value.slice ea E.length ec).ownBlock <;> simp)) hsz)))
    clear hA hSA hsz d0 d1 d2 d3 c0 c1 c2
    refine tail_mk HSA.out ?_
    refine wpTails_cons rfl ?_
    refine wp_appendE (E := elE) sEdge rfl rfl _ _ rfl (v := .slice ea E.length ec) (l := E) (base := bw + 1) rfl wr.heap.size rfl HA.out.2.2.1 (c.a, c.b) (cells_new (W := wr.drew) (cs := [.int .i64 c.a, .int .i64 c.b]) (t := 60) rfl) (by omega) (by omega) HA.out.2.2.2 ?_
    intro v' w3 hown hgr hat
    obtain ⟨s9, c9, rfl⟩ := hown.shape (n := E.length + 1) (by simp)
    have hrow : ∀ q, (Value.slice ea E.length ec).ownBlock = some q → bw + 1 ≤ q := fun q hq => (OwnE.lt HX.out.1.2.2 q hq).1
    have r1 := HA.out.1.grown hgr (fun e => by have := hrow _ e.symm; omega)
    have r2 := HA.out.2.1.grown hgr (by have := HA.out.2.2.2; omega) (fun q hq => by have := hrow q hq; omega)
    have nb : ∀ q : Nat, q ≤ bw → some q ≠ (Value.slice ea E.length ec).ownBlock := fun q hq e => by have := hrow q e.symm; omega
    have hS3 : w3.cell? ⟨bw, 3, none⟩ = some (.slice ca s.cons.length cc) ∧ w3.cell? ⟨blk ca, ofs ca + k * 5 + 1, none⟩ = some (.int .i64 c.a) ∧ w3.cell? ⟨blk ca, ofs ca + k * 5 + 2, none⟩ = some (.int .i64 c.b) := ⟨hgr.cell HSA.out.1 (nb _ (Nat.le_refl _)), hgr.cell HSA.out.2.1 (nb _ (Nat.le_of_lt HX.out.2.2.1)), hgr.cell HSA.out.2.2 (nb _ (Nat.le_of_lt HX.out.2.2.1))⟩
    have HR := Lib.hid (And.intro (And.intro r1 (And.intro r2 hown)) hS3)
    clear r1 r2 hown hgr hat hrow nb hS3
    refine tail_mk HR.out.2 ?_
    refine wpTails_one rfl ?_
    go_wp2_with fail
    refine thenQ_mk ?_
    go_wp2_with fail
    go_roundw
    case rel => exact ⟨k + 1, s9, c9, by omega, by go_num, by rw [HY.out]; simp, by
     rw [HY.out, List.length_append]
     exact HR.out.1⟩
    case measure => simp [intOf]; omega
   ·have hw : (c.k == 2) = false := by simpa using h2
    have hno := copE_no hlt (by rw [← hcd]; exact h2)
    have HN := Lib.hid hno
    clear hno h2 hcd
    go_wp2_with fail
    go_roundw
    case rel => exact ⟨k + 1, ea, ec, by omega, by go_num, by rw [HN.out], by rw [HN.out]; exact HX.out.1⟩
    case measure => simp [intOf]; omega
  ·obtain rfl : k = s.cons.length := by omega
   rw [List.take_length] at hh ⊢
   have HH := Lib.hid hh.out
   clear hh
   go_wp2_with fail
   go_ret
   have h1 := HH.out.2.1
   have h2 := HH.out.2.2
   rw [HZ0.out.2] at h1 h2
   exact ⟨⟨_, _, rfl, h2⟩, h1⟩
open Go.Clp Go.Gra in
theorem rCopies_any (s : Sy) (cv : Value) (W : World) (hc : ConsIn W cv s.cons) (hl9 : s.cons.length ≤ 1000) :
  Calls Tryz.prog 29 #[SysV s cv] W fun e W' => (∃ rv, e = .returned rv ∧ Pairs W' rv (copE s.cons)) ∧ Below W.heap.size W W' :=
 (rCopiesO_any s cv W hc hl9).mono fun _ _ ⟨⟨_, _, he, ho⟩, hb⟩ => ⟨⟨_, he, own_pairs ho⟩, hb⟩
end Go.Proofs.YtgblfjccccdidaaGreat
end
section
namespace Go.Clp
open Go.Dfl (nth nth_set nth_mem mem_nth nth_eq nth_ext nth_append nth_out take_snoc)
open Go.Tj (Rt Sc IsHd)
def RtP (E : Nat → Nat → Prop) (a b : Nat) : Prop := ∃ x, E a x ∧ Rt E x b
theorem RtP.step {E : Nat → Nat → Prop} {a b c : Nat} (h : RtP E a b) (k : E b c) : RtP E a c := h.imp fun _ h => ⟨h.1, .step h.2 k⟩
def falses (l : List Bool) : Nat := (l.filter fun b => !b).length
theorem falses_set : ∀ {l : List Bool} {i : Nat}, i < l.length → nth l i = false → falses (l.set i true) + 1 = falses l
 | [], i, h, _ => by simp at h
 | b :: l, 0, _, h => by
   have : b = false := h
   subst this
   simp [falses]
 | b :: l, i + 1, h, h0 => by
   have := falses_set (l := l) (i := i) (by simpa using h) h0
   unfold falses at this ⊢
   cases b <;> simp <;> omega
structure RcI (es : List (Int × Int)) (v n : Nat) (l0 l : List Bool) (k : Nat) (m : Bool) : Prop where
 len : l.length = n
 snd : ∀ w, w < n → nth l w = true → RtP (eI es) v w
 ok : m = false → l = l0 ∧ ∀ j, j < k → ((nth es j).1 = (v : Int) ∨ nth l (nth es j).1.toNat = true) → nth l (nth es j).2.toNat = true
 dec : m = true → falses l < falses l0
theorem RcI.start {es : List (Int × Int)} {v n : Nat} {l : List Bool} (h1 : l.length = n) (h2 : ∀ w, w < n → nth l w = true → RtP (eI es) v w) : RcI es v n l l 0 false :=
 ⟨h1, h2, fun _ => ⟨rfl, fun j hj => by omega⟩, fun h => by cases h⟩
theorem RcI.skip {es : List (Int × Int)} {v n : Nat} {l0 l : List Bool} {k : Nat} {m : Bool} (h : RcI es v n l0 l k m) (hs : ((nth es k).1 = (v : Int) ∨ nth l (nth es k).1.toNat = true) → nth l (nth es k).2.toNat = true) : RcI es v n l0 l (k + 1) m :=
 ⟨h.len, h.snd, fun hm => ⟨(h.ok hm).1, fun j hj => by
  by_cases e : j = k
  ·subst e; exact hs
  ·exact (h.ok hm).2 j (by omega)⟩, h.dec⟩
theorem RcI.put {es : List (Int × Int)} {v n : Nat} {l0 l : List Bool} {k : Nat} {m : Bool} (h : RcI es v n l0 l k m) (hk : k < es.length) (hr : 0 ≤ (nth es k).1 ∧ (nth es k).1 < n ∧ 0 ≤ (nth es k).2 ∧ (nth es k).2 < n)
  (hs : (nth es k).1 = (v : Int) ∨ nth l (nth es k).1.toNat = true) (hn : nth l (nth es k).2.toNat = false) : RcI es v n l0 (l.set (nth es k).2.toNat true) (k + 1) true := by
 have hE : eI es (nth es k).1.toNat (nth es k).2.toNat := by
  unfold eI
  rw [Int.toNat_of_nonneg hr.1, Int.toNat_of_nonneg hr.2.2.1]
  exact nth_mem _ _ hk
 have hf := falses_set (l := l) (i := (nth es k).2.toNat) (by rw [h.len]; omega) hn
 refine ⟨by rw [List.length_set]; exact h.len, fun w hw hwt => ?_, fun hm => (by cases hm), fun _ => ?_⟩
 ·rw [nth_set] at hwt
  by_cases e : (nth es k).2.toNat = w
  ·subst e
   rcases hs with hs | hs
   ·exact ⟨_, by rw [hs, Int.toNat_natCast] at hE; exact hE, .refl _⟩
   ·exact (h.snd _ (by omega) hs).step hE
  ·rw [if_neg (fun hh => e hh.1)] at hwt
   exact h.snd w hw hwt
 ·cases m
  ·have := (h.ok rfl).1
   subst this; omega
  ·have := h.dec rfl
   omega
theorem RcI.full {es : List (Int × Int)} {v n : Nat} {l : List Bool} (h2 : ∀ w, w < n → nth l w = true → RtP (eI es) v w)
  (hc : ∀ j, j < es.length → ((nth es j).1 = (v : Int) ∨ nth l (nth es j).1.toNat = true) → nth l (nth es j).2.toNat = true) {w : Nat} (hw : w < n) : nth l w = true ↔ RtP (eI es) v w := by
 refine ⟨h2 w hw, fun ⟨x, hx, hrt⟩ => ?_⟩
 have step : ∀ a b, eI es a b → (a = v ∨ nth l a = true) → nth l b = true := fun a b hab ha => by
  obtain ⟨j, hj, he⟩ := mem_nth hab
  have := hc j hj
  rw [he] at this
  dsimp only at this
  rw [Int.toNat_natCast, Int.toNat_natCast] at this
  exact this (ha.imp (fun e => by rw [e]) id)
 exact hrt.closed (P := fun y => nth l y = true) (fun a b ha hab => step a b hab (.inr ha)) (step v x hx (.inl rfl))
end Go.Clp
namespace Go.Proofs.YtgblfjccccdidaaGreat
open Go.RowKit Go.Dfl Go.Clp Go.Tj
theorem sBoolR : SliceOf Tryz.prog 81 4 (.bool false) 1 1 := ⟨Tryz.underlying81, info_parts (P := Tryz.prog) (e := 4) (by kernel_rfl)⟩
abbrev OwnR (w : World) (base : Nat) (v : Value) (l : List Bool) : Prop := Go.Dfl.Own Value.bool w base 4 v l
theorem own_boolR {w : World} {base : Nat} {s : Option Addr} {n cap : Nat} {l : List Bool} (h : OwnR w base (.slice s n cap) l) (hl : l.length = n) {x : Nat} (hx : x < n) :
  w.cell? ⟨blk s, ofs s + x, none⟩ = some (.bool (nth l x)) ∧ (∀ Y, (Instr.indexAt 81 (.slice s n cap) (.int .i64 (x : Int))).run Tryz.prog Y = .ok (.pointer (some ⟨blk s, ofs s + x, none⟩)) Y) ∧ w.frozen? ⟨blk s, ofs s + x, none⟩ = false ∧ base ≤ blk s ∧ blk s < w.heap.size := by
 obtain ⟨a9, c9, he, hm9, hidx, hcell, -⟩ := h.lst.out1 sBoolR
 rw [hl] at he hm9 hidx hcell
 simp only [Value.slice.injEq] at he
 obtain ⟨rfl, -, rfl⟩ := he
 have hob : (Value.slice s n cap).ownBlock = some (blk s) := by
  obtain ⟨-, ⟨h2, h3⟩ | ⟨q, cap2, cur, hv, -⟩⟩ := h
  ·rw [hl] at h3; omega
  ·simp only [Value.slice.injEq] at hv
   obtain ⟨rfl, -, -⟩ := hv; rfl
 exact ⟨hcell x hx, fun Y => by have := hidx .i64 (x : Int) (by omega) (by omega) Y; rw [Int.toNat_natCast] at this; exact this, h.frozen (by omega) _, h.lt _ hob⟩
def ReachR (n : Nat) (es : List (Int × Int)) (v : Nat) (W : World) (e : Ending) (W' : World) : Prop :=
 ∃ a c l, e = .returned (.slice a n c) ∧ OwnR W' W.heap.size (.slice a n c) l ∧ l.length = n ∧ (∀ w, w < n → (nth l w = true ↔ RtP (eI es) v w)) ∧ Below W.heap.size W W'
set_option maxHeartbeats 6400000 in
set_option maxRecDepth 100000 in
theorem rReach_any (n : Nat) (ev : Value) (es : List (Int × Int)) (v : Nat) (W : World) (h : Pairs W ev es) (hr : ∀ e ∈ es, 0 ≤ e.1 ∧ e.1 < n ∧ 0 ≤ e.2 ∧ e.2 < n) (hn : n ≤ 100000) :
  Calls Tryz.prog 54 #[.int .i64 (n : Int), ev, .int .i64 (v : Int)] W (ReachR n es v W) := by
 obtain ⟨ea, ec, rfl, hem, hei, hec⟩ := pairs_rd h
 have HE := Lib.hid (And.intro hec hr)
 clear h hr hec
 go_enter Tryz.func54, Tryz.ntmps54
 go_wp2_with (at_make; refine wp_make (f := Value.bool) false sBoolR rfl _ rfl _ _ rfl .i64 .i64 _ _ n rfl rfl rfl rfl (by omega) (by unfold maxLen; omega) ?_)
 intro s cap W1 hrow hb1
 have H1 := Lib.hid (And.intro hrow hb1)
 clear hrow hb1
 go_wp2_with fail
 go_loopg [8, 9, 10] (n + 1) (fun g x _ _ wr => ∃ (l : List Bool) (m : Bool), x = .bool m ∧ Hid (g = if m = true then falses l + 1 else 0) ∧ Hid (OwnR wr W.heap.size (.slice s n cap) l ∧ Below W.heap.size W wr ∧ l.length = n ∧ (∀ w, w < n → nth l w = true → RtP (eI es) v w) ∧ (m = false → ∀ j, j < es.length → ((nth es j).1 = (v : Int) ∨ nth l (nth es j).1.toNat = true) → nth l (nth es j).2.toNat = true)))
 case atStart => exact ⟨List.replicate n false, true, rfl, Lib.hid (by simp [falses]), H1.out.1, H1.out.2, by simp, fun w hw h => (by
  rw [nth_eq _ _ (by simpa using hw)] at h; simp at h), fun h => by cases h⟩
 case round =>
  obtain ⟨l, m, rfl, hg, hh⟩ := hrel
  cases m
  ·go_wp2_with fail
   go_ret
   exact ⟨s, cap, l, rfl, hh.out.1, hh.out.2.2.1, fun w hw => RcI.full hh.out.2.2.2.1 (hh.out.2.2.2.2 (by simp)) hw, hh.out.2.1⟩
  ·have HH := Lib.hid hh.out
   clear hh
   go_wp2_with fail
   go_loopw [8, 9, 10] (fun x y _ wr2 => ∃ (k : Nat) (l2 : List Bool) (m : Bool), k ≤ es.length ∧ y = .int .i64 k ∧ x = .bool m ∧ Hid ((OwnR wr2 W.heap.size (.slice s n cap) l2 ∧ Below W.heap.size W wr2) ∧ RcI es v n l l2 k m)) (fun _ y _ _ => es.length - (intOf y).toNat)
   case atStart => exact ⟨0, l, false, by omega, rfl, rfl, ⟨HH.out.1, HH.out.2.1⟩, RcI.start HH.out.2.2.1 HH.out.2.2.2.1⟩
   case round =>
    obtain ⟨k, l2, m, hk, rfl, rfl, hh⟩ := hrel
    have HK := Lib.hid hh.out
    clear hh
    by_cases hlt : k < es.length
    ·have hr := HE.out.2 _ (nth_mem es k hlt)
     obtain ⟨c0, c1⟩ := (HE.out.1 k hlt).2 _ HK.out.1.2
     have hi := hei (k : Int) (by omega) (by omega)
     rw [Int.toNat_natCast] at hi
     have hlb : blk ea < wr.heap.size := World.block_lt_of_cell? wr ⟨blk ea, ofs ea + k * 2, none⟩ c0
     have HR := Lib.hid hr
     obtain ⟨x, hx⟩ : ∃ x : Nat, (nth es k).1 = (x : Int) := ⟨(nth es k).1.toNat, by omega⟩
     obtain ⟨y, hy⟩ : ∃ y : Nat, (nth es k).2 = (y : Int) := ⟨(nth es k).2.toNat, by omega⟩
     rw [hx] at c0 hr
     rw [hy] at c1 hr
     have HXY := Lib.hid (And.intro hx hy)
     have hxn : x < n := by omega
     have hyn : y < n := by omega
     clear hx hy hr
     obtain ⟨x0, ix, -, -, hbs⟩ := own_boolR HK.out.1.1 HK.out.2.len hxn
     obtain ⟨y0, iy, fy, hwb, -⟩ := own_boolR HK.out.1.1 HK.out.2.len hyn
     have hbn : blk s ≠ wr.heap.size := by omega
     have hbel := (HK.out.1.2.alloc HK.out.1.2.size (.cells #[.int .i64 (x : Int), .int .i64 (y : Int)] 60))
     have HB := Lib.hid (And.intro (HK.out.1.1.alloc (.cells #[.int .i64 (x : Int), .int .i64 (y : Int)] 60)) (And.intro hbel hwb))
     obtain ⟨bx, hbx⟩ : ∃ b, b = nth l2 x := ⟨_, rfl⟩
     obtain ⟨b, hb⟩ : ∃ b, b = nth l2 y := ⟨_, rfl⟩
     rw [← hbx] at x0
     rw [← hb] at y0
     have HBX := Lib.hid (And.intro hbx hb)
     clear hbx hb hbel hwb
     by_cases hxv : x = v
     ·have t1 : ((x : Int) == (v : Int)) = true := by rw [beq_iff_eq]; omega
      have HS := Lib.hid (show (nth es k).1 = (v : Int) ∨ nth l2 (nth es k).1.toNat = true from .inl (by rw [HXY.out.1, hxv]))
      clear hxv
      cases b
      ·go_wp2_with fail
       go_roundw
       case rel =>
        have hput := HK.out.2.put hlt HR.out HS.out (by rw [HXY.out.2, Int.toNat_natCast, ← HBX.out.2])
        rw [HXY.out.2, Int.toNat_natCast] at hput
        exact ⟨k + 1, _, true, by omega, by go_num, rfl, ⟨(HK.out.1.1.set y true).alloc _, (HK.out.1.2.setCell (p := ⟨blk s, ofs s + y, none⟩) HB.out.2.2 _).alloc (by simp only [World.size_setCell]; exact HK.out.1.2.size) _⟩, hput⟩
       case measure => simp [intOf]; omega
      ·go_wp2_with fail
       go_roundw
       case rel => exact ⟨k + 1, l2, m, by omega, by go_num, rfl, ⟨HB.out.1, HB.out.2.1⟩, HK.out.2.skip fun _ => by rw [HXY.out.2, Int.toNat_natCast, ← HBX.out.2]⟩
       case measure => simp [intOf]; omega
     ·have t1 : ((x : Int) == (v : Int)) = false := by rw [beq_eq_false_iff_ne]; omega
      have HXV := Lib.hid hxv
      clear hxv
      cases bx
      ·go_wp2_with fail
       go_roundw
       case rel => exact ⟨k + 1, l2, m, by omega, by go_num, rfl, ⟨HB.out.1, HB.out.2.1⟩, HK.out.2.skip fun h => by
        rcases h with h | h
        ·rw [HXY.out.1] at h; exact absurd (by omega) HXV.out
        ·rw [HXY.out.1, Int.toNat_natCast, ← HBX.out.1] at h; cases h⟩
       case measure => simp [intOf]; omega
      ·have HS := Lib.hid (show (nth es k).1 = (v : Int) ∨ nth l2 (nth es k).1.toNat = true from .inr (by rw [HXY.out.1, Int.toNat_natCast, ← HBX.out.1]))
       cases b
       ·go_wp2_with fail
        go_roundw
        case rel =>
         have hput := HK.out.2.put hlt HR.out HS.out (by rw [HXY.out.2, Int.toNat_natCast, ← HBX.out.2])
         rw [HXY.out.2, Int.toNat_natCast] at hput
         exact ⟨k + 1, _, true, by omega, by go_num, rfl, ⟨(HK.out.1.1.set y true).alloc _, (HK.out.1.2.setCell (p := ⟨blk s, ofs s + y, none⟩) HB.out.2.2 _).alloc (by simp only [World.size_setCell]; exact HK.out.1.2.size) _⟩, hput⟩
        case measure => simp [intOf]; omega
       ·go_wp2_with fail
        go_roundw
        case rel => exact ⟨k + 1, l2, m, by omega, by go_num, rfl, ⟨HB.out.1, HB.out.2.1⟩, HK.out.2.skip fun _ => by rw [HXY.out.2, Int.toNat_natCast, ← HBX.out.2]⟩
        case measure => simp [intOf]; omega
    ·obtain rfl : k = es.length := by omega
     go_wp2_with fail
     go_roundg (if m = true then falses l2 + 1 else 0)
     case rel => exact ⟨l2, m, rfl, Lib.hid rfl, HK.out.1.1, HK.out.1.2, HK.out.2.len, HK.out.2.snd, fun hm j hj => (HK.out.2.ok hm).2 j hj⟩
     case measure =>
      rw [hg.out]
      cases m
      ·simp
      ·have := HK.out.2.dec rfl
       simp; omega
end Go.Proofs.YtgblfjccccdidaaGreat
end
section
namespace Go.Clp
open Go.Dfl (nth nth_set nth_mem mem_nth nth_eq nth_ext nth_append nth_out take_snoc)
open Go.Tj (Rt Sc IsHd)
def Bth (E : Nat → Nat → Prop) (v w : Nat) : Prop := RtP E v w ∧ RtP E w v
theorem rt_rtp {E : Nat → Nat → Prop} {a b : Nat} (h : Rt E a b) : a = b ∨ RtP E a b := by
 induction h with
 | refl => exact .inl rfl
 | step _ h2 ih =>
   rcases ih with rfl | ⟨x, hx, hr⟩
   ·exact .inr ⟨_, h2, .refl _⟩
   ·exact .inr ⟨x, hx, .step hr h2⟩
theorem RtP.rt {E : Nat → Nat → Prop} {a b : Nat} (h : RtP E a b) : Rt E a b := by
 obtain ⟨x, hx, hr⟩ := h
 exact (Rt.one hx).trans hr
structure LdI (E : Nat → Nat → Prop) (v j lead : Nat) : Prop where
 le : lead ≤ v
 at' : lead = v ∨ (j ≤ lead ∧ Bth E v lead)
 non : ∀ w, j ≤ w → w < lead → ¬ Bth E v w
theorem LdI.start (E : Nat → Nat → Prop) {v n : Nat} (h : v < n) : LdI E v n v := ⟨Nat.le_refl _, .inl rfl, fun w h1 h2 => by omega⟩
theorem LdI.take {E : Nat → Nat → Prop} {v j lead : Nat} (h : LdI E v (j + 1) lead) (hl : j < lead) (hb : Bth E v j) : LdI E v j j := ⟨by have := h.le; omega, .inr ⟨Nat.le_refl _, hb⟩, fun w h1 h2 => by omega⟩
theorem LdI.skip {E : Nat → Nat → Prop} {v j lead : Nat} (h : LdI E v (j + 1) lead) (hb : j < lead → ¬ Bth E v j) : LdI E v j lead := ⟨h.le, h.at'.imp id fun ⟨a, b⟩ => ⟨by omega, b⟩, fun w h1 h2 => by
 by_cases e : w = j
 ·subst e; exact hb h2
 ·exact h.non w (by omega) h2⟩
theorem LdI.hd {E : Nat → Nat → Prop} {v lead : Nat} (h : LdI E v 0 lead) : IsHd E v lead := by
 refine ⟨?_, fun w hw => ?_⟩
 ·rcases h.at' with e | ⟨-, b⟩
  ·rw [e]; exact Sc.refl E v
  ·exact ⟨b.1.rt, b.2.rt⟩
 ·false_or_by_contra
  have hlt : w < lead := by omega
  have hne : v ≠ w := by have := h.le; omega
  refine h.non w (by omega) hlt ⟨(rt_rtp hw.1).resolve_left hne, (rt_rtp hw.2).resolve_left (Ne.symm hne)⟩
def MkR (es : List (Int × Int)) (n k : Nat) (ll : List (List Bool)) : Prop := ll.length = k ∧ ∀ v, v < k → (nth ll v).length = n ∧ ∀ w, w < n → (nth (nth ll v) w = true ↔ RtP (eI es) v w)
theorem MkR.push {es : List (Int × Int)} {n k : Nat} {ll : List (List Bool)} {l : List Bool} (h : MkR es n k ll) (h1 : l.length = n) (h2 : ∀ w, w < n → (nth l w = true ↔ RtP (eI es) k w)) : MkR es n (k + 1) (ll ++ [l]) := by
 refine ⟨by rw [List.length_append, h.1]; rfl, fun v hv => ?_⟩
 rw [nth_append, h.1]
 by_cases e : v < k
 ·rw [if_pos e]; exact h.2 v e
 ·have : v = k := by omega
  subst this
  rw [if_neg e, Nat.sub_self]
  exact ⟨h1, h2⟩
def LdsK (E : Nat → Nat → Prop) (k : Nat) (l : List Int) : Prop := l.length = k ∧ ∀ v, v < k → ∃ m : Nat, nth l v = (m : Int) ∧ IsHd E v m
theorem LdsK.push {E : Nat → Nat → Prop} {k m : Nat} {l : List Int} (h : LdsK E k l) (hm : IsHd E k m) : LdsK E (k + 1) (l ++ [(m : Int)]) := by
 refine ⟨by rw [List.length_append, h.1]; rfl, fun v hv => ?_⟩
 rw [nth_append, h.1]
 by_cases e : v < k
 ·rw [if_pos e]; exact h.2 v e
 ·have : v = k := by omega
  subst this
  rw [if_neg e, Nat.sub_self]
  exact ⟨m, rfl, hm⟩
end Go.Clp
namespace Go.Proofs.YtgblfjccccdidaaGreat
open Go.RowKit Go.Dfl Go.Clp Go.Tj
theorem sBoolsR : SliceOf Tryz.prog 80 81 (.slice none 0 0) 1 24 := ⟨Tryz.underlying80, info_parts (P := Tryz.prog) (e := 81) (by kernel_rfl)⟩
theorem kOwnR : Kind OwnR := Kind.own _ _
def LeadR (n : Nat) (es : List (Int × Int)) (W : World) (e : Ending) (W' : World) : Prop :=
 ∃ rv l, e = .returned rv ∧ Ints W' rv l ∧ Lds (eI es) n l ∧ Below W.heap.size W W'
set_option maxHeartbeats 6400000 in
set_option maxRecDepth 100000 in
theorem rLeaders_any (n : Nat) (ev : Value) (es : List (Int × Int)) (W : World) (h : Pairs W ev es) (hr : ∀ e ∈ es, 0 ≤ e.1 ∧ e.1 < n ∧ 0 ≤ e.2 ∧ e.2 < n) (hn : n ≤ 100000) :
  Calls Tryz.prog 28 #[.int .i64 (n : Int), ev] W (LeadR n es W) := by
 obtain ⟨ea, ec, rfl, -, -, -⟩ := pairs_rd h
 have HE := Lib.hid (And.intro h hr)
 clear h hr
 go_enter Tryz.func28, Tryz.ntmps28
 go_wp2_with fail
 go_loopw [5, 6] (fun lv x wr => ∃ (k : Nat) (la : Option Addr) (lc : Nat) (vs : List Value) (ll : List (List Bool)), k ≤ n ∧ x = .int .i64 (k : Int) ∧ lv = .slice la k lc ∧ Hid (OwnN OwnR wr W.heap.size 81 (.slice la k lc) vs ll ∧ MkR es n k ll ∧ Below W.heap.size W wr)) (fun _ x _ => n - (intOf x).toNat)
 case atStart => exact ⟨0, none, 0, [], [], by omega, rfl, rfl, OwnN.empty _ _ _, ⟨rfl, fun v hv => by omega⟩, Below.refl _ _⟩
 case round =>
  obtain ⟨k, la, lc, vs, ll, hk, rfl, rfl, hh⟩ := hrel
  have HL := Lib.hid hh.out
  clear hh
  by_cases hlt : k < n
  ·have hkl : (k : Int) < (n : Int) := by omega
   go_wp2_with fail
   refine (rReach_any n (.slice ea es.length ec) es k _ (HE.out.1.below HL.out.2.2) HE.out.2 hn).mono ?_
   rintro e W2 ⟨a2, c2, l2, rfl, ho2, hl2, hm2, b2⟩
   have hout := HL.out.1.below kOwnR b2
   have hvl := hout.len
   rw [HL.out.2.1.1] at hvl
   have hfo : ∀ q, (Value.slice a2 n c2).ownBlock = some q → ¬ Foot (.slice la k lc) vs q := fun q e hf => by
    have h9 := (ho2.lt q e).1
    have h10 := (HL.out.1.foot kOwnR q hf).2
    omega
   have hbl := HL.out.2.2.trans (b2.mono HL.out.2.2.size)
   have hrw := ho2.mono HL.out.2.2.size
   have HO2 := Lib.hid (And.intro hout (And.intro hbl (And.intro hfo (And.intro hrw (And.intro hvl (HL.out.2.1.push hl2 hm2))))))
   have HLEN : Hid (vs.length + [(Value.slice a2 n c2)].length < 5864062014805) := Lib.hid (by rw [List.length_singleton]; omega)
   have HCL := Lib.hid ((hout.out).alloc (.cells #[.slice a2 n c2] 81))
   have hsz := hbl.size
   clear hout hvl hbl hfo hrw ho2 hl2 hm2 b2
   go_wp2_with (at_builtin; refine wp_appendS (f := fun x : Value => x) sBoolsR rfl rfl _ _ rfl W.heap.size (.slice la k lc) vs rfl (.slice (some ⟨W2.heap.size, 0, none⟩) 1 1) [.slice a2 n c2] rfl HCL.out (src_one (fun x : Value => x) (cell_alloc1 W2 (.slice a2 n c2) 81)) (fun y hy => by rw [List.mem_singleton.1 hy]; rfl) HLEN.out (Nat.le_refl _) (le_alloc _ hsz) ?_; intro v' w3 hown hgr hat; obtain ⟨s9, c9, rfl⟩ := hown.shape (n := k + 1) (by rw [List.length_append, HO2.out.2.2.2.2.1]; rfl); have HO := Lib.hid (And.intro hown (And.intro hgr hat)); clear hown hgr hat)
   have hbA := (Below.refl W2.heap.size W2).alloc (Nat.le_refl _) (.cells #[.slice a2 n c2] 81)
   have hpush := (HO2.out.1.below kOwnR hbA).push kOwnR HO.out.1 HO.out.2.1 HO.out.2.2 (HO2.out.2.2.2.1.below hbA) HO2.out.2.2.1
   have hbl := (HO2.out.2.1.alloc hsz (.cells #[.slice a2 n c2] 81)).grown HO.out.2.1 (by rw [World.size_alloc]; omega) (fun q e => (HO2.out.1.out.lt q e).1)
   have HP2 := Lib.hid (And.intro hpush (And.intro HO2.out.2.2.2.2.2 hbl))
   clear hbA hpush hbl
   go_roundw
   case rel => exact ⟨k + 1, s9, c9, _, _, by omega, by go_num, rfl, HP2.out⟩
   case measure => simp [intOf]; omega
  ·obtain rfl : n = k := by omega
   go_wp2_with fail
   refine wp_gen (fun Z => OwnN OwnR Z W.heap.size 81 (.slice la n lc) vs ll ∧ MkR es n n ll ∧ Below W.heap.size W Z) HL.out ?_
   intro Y hY
   have hg := hY.1.grid
   obtain ⟨la2, lc2, he, -, gi, gcell, -⟩ := hg.1.out1 sBoolsR
   have hvl : vs.length = n := hg.2.1.trans hY.2.1.1
   rw [hvl] at he gi gcell
   simp only [Value.slice.injEq] at he
   obtain ⟨rfl, -, rfl⟩ := he
   have HG := Lib.hid (And.intro hg.2.2 (And.intro gcell (And.intro hY.2.1 hY.2.2)))
   have hlb : 0 < n → blk la < Y.heap.size := fun h0 => World.block_lt_of_cell? Y ⟨blk la, ofs la + 0, none⟩ (gcell 0 h0)
   have HLB := Lib.hid hlb
   clear HL hk hlt hg gcell hvl hY hlb
   go_loopw [7, 8, 9, 10] (fun lv x _ _ wr => ∃ (k : Nat) (oa : Option Addr) (oc : Nat) (os : List Int), k ≤ n ∧ x = .int .i64 (k : Int) ∧ lv = .slice oa k oc ∧ Hid (Go.Dfl.Own (Value.int .i64) wr Y.heap.size 3 (.slice oa k oc) os ∧ LdsK (eI es) k os ∧ Below Y.heap.size Y wr)) (fun _ x _ _ _ => n - (intOf x).toNat)
   case atStart => exact ⟨0, none, 0, [], by omega, rfl, rfl, Go.Dfl.Own.nil _ _ _ _, ⟨rfl, fun v hv => by omega⟩, Below.refl _ _⟩
   case round =>
    obtain ⟨k, oa, oc, os, hk, rfl, rfl, hh⟩ := hrel
    have HO := Lib.hid hh.out
    clear hh
    by_cases hlt : k < n
    ·have hkl : (k : Int) < (n : Int) := by omega
     have gck := HG.out.2.1 k hlt
     rw [← HO.out.2.2.cell (p := ⟨blk la, ofs la + k, none⟩) (HLB.out (by omega))] at gck
     have gik := gi .i64 (k : Int) (by omega) (by omega)
     rw [Int.toNat_natCast] at gik
     have hrk : Lst Value.bool Y (nth vs k) (nth ll k) := HG.out.1 k (by rw [HG.out.2.2.1.1]; exact hlt)
     obtain ⟨ka, kc, hkv, -, ki, kcell, kblk⟩ := hrk.out1 sBoolR
     have hkn := (HG.out.2.2.1.2 k hlt).1
     rw [hkn] at hkv ki kcell kblk
     rw [hkv] at gck
     have HK := Lib.hid (And.intro kcell kblk)
     clear hrk hkv kcell kblk hkn
     refine wp_gen (fun Z => Go.Dfl.Own (Value.int .i64) Z Y.heap.size 3 (.slice oa k oc) os ∧ LdsK (eI es) k os ∧ Below Y.heap.size Y Z) HO.out ?_
     intro V hV
     have hbl := hV.2.2
     rw [HO.out.2.2.cell (p := ⟨blk la, ofs la + k, none⟩) (HLB.out (by omega)), ← hbl.cell (p := ⟨blk la, ofs la + k, none⟩) (HLB.out (by omega))] at gck
     have HV := Lib.hid hV
     clear hV hbl HO
     go_wp2_with fail
     go_loopw [9, 10] (fun x y wr2 => ∃ j lead : Nat, j ≤ n ∧ lead < n ∧ y = .int .i64 ((j : Int) - 1) ∧ x = .int .i64 (lead : Int) ∧ V = wr2 ∧ Hid (LdI (eI es) k j lead)) (fun _ y _ => (intOf y + 1).toNat)
     case atStart => exact ⟨n, k, Nat.le_refl _, hlt, by go_num, rfl, rfl, LdI.start _ hlt⟩
     case round =>
      obtain ⟨j, lead, hj, hld, rfl, rfl, rfl, hi⟩ := hrel
      have HI := Lib.hid hi.out
      clear hi
      cases j with
      | zero =>
        have HCL := Lib.hid (HV.out.1.alloc (.cells #[.int .i64 (lead : Int)] 3))
        have hsz := HV.out.2.2.size
        have HLEN : Hid (os.length + [(lead : Int)].length < 5864062014805) := Lib.hid (by rw [List.length_singleton, HV.out.2.1.1]; omega)
        go_wp2_with (at_builtin; refine wp_appendS (f := Value.int .i64) sIntC rfl rfl _ _ rfl Y.heap.size (.slice oa k oc) os rfl (.slice (some ⟨V.heap.size, 0, none⟩) 1 1) [(lead : Int)] rfl HCL.out (src_one (Value.int .i64) (cell_alloc1 V (.int .i64 (lead : Int)) 3)) (fun _ _ => rfl) HLEN.out (by omega) (le_alloc _ hsz) ?_; intro v' w3 hown hgr hat; obtain ⟨s9, c9, rfl⟩ := hown.shape (n := k + 1) (by rw [List.length_append, HV.out.2.1.1]; rfl); have HW := Lib.hid (And.intro hown (And.intro hgr hat)); clear hown hgr hat)
        have hbl := (HV.out.2.2.alloc hsz (.cells #[.int .i64 (lead : Int)] 3)).grown HW.out.2.1 (by rw [World.size_alloc]; omega) (fun q e => (HV.out.1.lt q e).1)
        have HP := Lib.hid (And.intro HW.out.1 (And.intro (HV.out.2.1.push HI.out.hd) hbl))
        clear hbl
        go_roundw
        case rel => exact ⟨k + 1, s9, c9, _, by omega, by go_num, rfl, HP.out⟩
        case measure => simp [intOf]; omega
      | succ i =>
        have e : (((i + 1 : Nat) : Int) - 1) = (i : Int) := by omega
        rw [e]
        clear e
        have hin : i < n := by omega
        have hin' : (i : Int) < (n : Int) := by omega
        by_cases hil : i < lead
        ·have hil' : (i : Int) < (lead : Int) := by omega
         have gci := HG.out.2.1 i hin
         rw [← HV.out.2.2.cell (p := ⟨blk la, ofs la + i, none⟩) (HLB.out (by omega))] at gci
         have gii := gi .i64 (i : Int) (by omega) (by omega)
         rw [Int.toNat_natCast] at gii
         have hri : Lst Value.bool Y (nth vs i) (nth ll i) := HG.out.1 i (by rw [HG.out.2.2.1.1]; exact hin)
         obtain ⟨ia, ic, hiv, -, ii, icell, iblk⟩ := hri.out1 sBoolR
         have hinn := (HG.out.2.2.1.2 i hin).1
         rw [hinn] at hiv ii icell iblk
         rw [hiv] at gci
         have kb := HK.out.1 i hin
         rw [← HV.out.2.2.cell (p := ⟨blk ka, ofs ka + i, none⟩) (HK.out.2 i hin)] at kb
         have ib := icell k hlt
         rw [← HV.out.2.2.cell (p := ⟨blk ia, ofs ia + k, none⟩) (iblk k hlt)] at ib
         have kii := ki .i64 (i : Int) (by omega) (by omega)
         have iki := ii .i64 (k : Int) (by omega) (by omega)
         rw [Int.toNat_natCast] at kii iki
         obtain ⟨b1, hb1⟩ : ∃ b, b = nth (nth ll k) i := ⟨_, rfl⟩
         obtain ⟨b2, hb2⟩ : ∃ b, b = nth (nth ll i) k := ⟨_, rfl⟩
         rw [← hb1] at kb
         rw [← hb2] at ib
         have q1 := (HG.out.2.2.1.2 k hlt).2 i hin
         have q2 := (HG.out.2.2.1.2 i hin).2 k hlt
         rw [← hb1] at q1
         rw [← hb2] at q2
         have HQ := Lib.hid (And.intro q1 q2)
         clear q1 q2 hb1 hb2 hri hiv icell iblk hinn ii
         cases b1
         ·go_wp2_with fail
          go_roundw
          case rel => exact ⟨i, lead, by omega, by omega, by go_num, by first | rfl | trivial, by first | rfl | trivial, HI.out.skip fun _ h => by have := HQ.out.1.2 h.1; cases this⟩
          case measure => simp [intOf]
         ·cases b2
          ·go_wp2_with fail
           go_roundw
           case rel => exact ⟨i, lead, by omega, by omega, by go_num, by first | rfl | trivial, by first | rfl | trivial, HI.out.skip fun _ h => by have := HQ.out.2.2 h.2; cases this⟩
           case measure => simp [intOf]
          ·go_wp2_with fail
           go_roundw
           case rel => exact ⟨i, i, by omega, by omega, by go_num, by first | rfl | trivial, by first | rfl | trivial, HI.out.take hil ⟨HQ.out.1.1 rfl, HQ.out.2.1 rfl⟩⟩
           case measure => simp [intOf]
        ·have hil' : ¬ (i : Int) < (lead : Int) := by omega
         go_wp2_with fail
         go_roundw
         case rel => exact ⟨i, lead, by omega, by omega, by go_num, by first | rfl | trivial, by first | rfl | trivial, HI.out.skip fun h => absurd h hil⟩
         case measure => simp [intOf]
    ·obtain rfl : n = k := by omega
     go_wp2_with fail
     go_ret
     exact ⟨_, os, rfl, HO.out.1.lst, HO.out.2.1, HG.out.2.2.2.trans (HO.out.2.2.mono HG.out.2.2.2.size)⟩
end Go.Proofs.YtgblfjccccdidaaGreat
end
section
namespace Go.Clp
open Go.Dfl (nth nth_set nth_mem mem_nth nth_eq nth_ext nth_append nth_out take_snoc)
open Go.Tj (Rt Sc IsHd)
def cycTo (l : List Int) (n k : Nat) : List (List Int) := ((headsTo l k).map (memL l n)).filter bigB
theorem cycTo_all (l : List Int) (n : Nat) : cycTo l n n = cycL l n := rfl
theorem headsTo_succ (l : List Int) (k : Nat) : headsTo l (k + 1) = headsTo l k ++ (if nth l k = (k : Int) then [k] else []) := by
 unfold headsTo
 rw [List.range_succ, List.filter_append]
 by_cases h : nth l k = (k : Int) <;> simp [h]
theorem memL_none {E : Nat → Nat → Prop} {l : List Int} {n : Nat} (hl : Lds E n l) {k : Nat} (h : nth l k ≠ (k : Int)) : memL l n k = [] := by
 refine List.eq_nil_iff_forall_not_mem.2 fun x hx => ?_
 obtain ⟨v, -, hv, h2⟩ := mem_memL.1 hx
 have := hl.self hv
 rw [h2, Int.toNat_natCast] at this
 exact h this
theorem cycTo_yes {E : Nat → Nat → Prop} {l : List Int} {n : Nat} (hl : Lds E n l) {k : Nat} (h : bigB (memL l n k) = true) : cycTo l n (k + 1) = cycTo l n k ++ [memL l n k] := by
 have h1 : nth l k = (k : Int) := by
  false_or_by_contra
  rename_i hne
  rw [memL_none hl hne] at h
  cases h
 unfold cycTo
 rw [headsTo_succ, if_pos h1, List.map_append, List.filter_append]
 simp [h]
theorem cycTo_no {l : List Int} {n k : Nat} (h : bigB (memL l n k) = false) : cycTo l n (k + 1) = cycTo l n k := by
 unfold cycTo
 rw [headsTo_succ]
 by_cases h1 : nth l k = (k : Int)
 ·rw [if_pos h1, List.map_append, List.filter_append]
  simp [h]
 ·rw [if_neg h1, List.append_nil]
theorem headsTo_len (l : List Int) (k : Nat) : (headsTo l k).length ≤ k := by
 unfold headsTo
 exact Nat.le_trans (List.length_filter_le _ _) (by simp)
theorem cycTo_len (l : List Int) (n k : Nat) : (cycTo l n k).length ≤ k := by
 unfold cycTo
 exact Nat.le_trans (List.length_filter_le _ _) (by rw [List.length_map]; exact headsTo_len l k)
theorem memL_yes {l : List Int} {j k : Nat} (h : nth l j = (k : Int)) : memL l (j + 1) k = memL l j k ++ [(j : Int)] := by
 unfold memL
 rw [List.range_succ, List.filter_append, List.map_append]
 simp [h]
theorem memL_no {l : List Int} {j k : Nat} (h : nth l j ≠ (k : Int)) : memL l (j + 1) k = memL l j k := by
 unfold memL
 rw [List.range_succ, List.filter_append, List.map_append]
 simp [h]
theorem memL_start {E : Nat → Nat → Prop} {l : List Int} {n : Nat} (hl : Lds E n l) {k : Nat} (hk : k < n) : memL l k k = [] := by
 refine List.eq_nil_iff_forall_not_mem.2 fun x hx => ?_
 obtain ⟨v, -, hv, h2⟩ := mem_memL.1 hx
 have := hl.le (v := v) (by omega)
 omega
end Go.Clp
namespace Go.Proofs.YtgblfjccccdidaaGreat
open Go.RowKit Go.Dfl Go.Clp Go.Gra
open Go.And (R Sy Vld Sm chkG chkCode colC colC_ok chkG_ok chkCode_ok)
set_option maxHeartbeats 6400000 in
set_option maxRecDepth 100000 in
theorem rCycles_any (s : Sy) (cv : Value) (W : World) (hc : ConsIn W cv s.cons) (hl9 : s.cons.length ≤ 1000) :
  Calls Tryz.prog 11 #[SysV s cv] W (CyclesR s W) := by
 have hbs := BoxS.new W s cv 24
 have hb0 := (Below.refl W.heap.size W).alloc (Nat.le_refl _) (.cells #[.int .i64 s.vars, .int .i64 s.sites, .int .i64 s.fields, cv] 24)
 obtain ⟨ca, cc, rfl, -⟩ := hc.out
 have HK := Lib.hid (And.intro (hc.below hb0) (And.intro hb0 hbs))
 clear hc hb0 hbs
 have hck := rCk19_any s (.slice ca s.cons.length cc) _ HK.out.1 (fun Z hz => rCheckC_any s _ Z hz hl9)
 have HCK := Lib.hid hck
 clear hck
 unfold SysV at *
 go_enter Tryz.func11, Tryz.ntmps11
 go_wp2_with fail
 refine HCK.out.mono ?_
 rintro e W1 ⟨rfl, q1⟩
 have hbx := HK.out.2.2.grown (grownBy_below q1) (by simp)
 obtain ⟨bw, hbw⟩ : ∃ bw, bw = W.heap.size := ⟨_, rfl⟩
 rw [← hbw] at hbx
 have H1 := Lib.hid (And.intro (HK.out.1.below q1) (And.intro (HK.out.2.1.trans (q1.mono HK.out.2.1.size)) (And.intro hbx hbw)))
 rw [← hbw]
 clear q1 hbx hbw HCK HK
 by_cases h0 : colC s = 0
 ·have hvd := chkCode_ok.1 (chkG_ok (colC_ok h0).1).1
  have h8 := (colC_ok h0).2
  have hv0 := hvd.vars
  obtain ⟨n, hn⟩ : ∃ n : Nat, s.vars = n := ⟨s.vars.toNat, by omega⟩
  have hrng : ∀ e ∈ copE s.cons, 0 ≤ e.1 ∧ e.1 < n ∧ 0 ≤ e.2 ∧ e.2 < n := fun e he => by
   obtain ⟨c, hc, h2, h3, h4⟩ := mem_copE.1 he
   have hv := hvd.cons c hc
   have ha := hv.a
   rw [if_neg (by omega)] at ha
   have hb := hv.b
   omega
  have HV := Lib.hid (And.intro h0 (And.intro hn hrng))
  have hn8 : n ≤ 8192 := by omega
  rw [h0]
  have hz : ((0 : Int) != 0) = false := rfl
  have hd0 : W1.cell? ⟨bw, 0, none⟩ = some (.int .i64 (n : Int)) := by rw [← hn]; exact H1.out.2.2.1.1
  clear hvd h8 hv0 hrng h0 hn
  go_wp2_with fail
  refine wp_region_mix [0, 1, 2] [3, 4, 5] (fun w' => w'.cell? ⟨bw, 0, none⟩ = some (.int .i64 (n : Int)) ∧ w'.cell? ⟨bw, 1, none⟩ = some (.int .i64 s.sites) ∧ w'.cell? ⟨bw, 2, none⟩ = some (.int .i64 s.fields) ∧ w'.cell? ⟨bw, 3, none⟩ = some (.slice ca s.cons.length cc)) (by kernel_rfl) (by kernel_rfl) (by kernel_rfl) ⟨hd0, H1.out.2.2.1.2⟩ ?_
  repeat (
   refine wpHeads_cons (v := ?_) rfl (Or.inl ⟨by rfl, ?_⟩) ?_
   rotate_left
   ·(intro W hW; obtain ⟨x1, x2, x3, x4⟩ := hW; go_simp; try with_reducible rfl)
   simp only [Act.put, List.setIfInBounds_toArray, List.getElem_toArray, List.getElem_cons_zero, List.getElem_cons_succ, List.set_cons_succ, List.set_cons_zero])
  refine wpHeads_nil ?_
  refine wpTails_cons rfl ?_
  go_wp2_with fail
  have hcp := rCopies_any s (.slice ca s.cons.length cc) _ (H1.out.1.below ((Below.refl _ _).drew)) hl9
  unfold SysV at hcp
  rw [HV.out.2.1] at hcp
  refine hcp.mono ?_
  rintro e W2 ⟨⟨ev, rfl, hpr⟩, q2⟩
  have g2 := grownBy_trans (grownBy_drew0 W1) (grownBy_below q2)
  have hb2 : Below W.heap.size W W2 := H1.out.2.1.trans ((((Below.refl W1.heap.size W1).drew).trans q2).mono H1.out.2.1.size)
  have hbx2 := H1.out.2.2.1.grown g2 (by simp)
  have hS2 : W2.cell? ⟨bw, 0, none⟩ = some (.int .i64 (n : Int)) ∧ W2.cell? ⟨bw, 1, none⟩ = some (.int .i64 s.sites) ∧ W2.cell? ⟨bw, 2, none⟩ = some (.int .i64 s.fields) ∧ W2.cell? ⟨bw, 3, none⟩ = some (.slice ca s.cons.length cc) := ⟨by rw [← HV.out.2.1]; exact hbx2.1, hbx2.2⟩
  have H2 := Lib.hid (And.intro hb2 (And.intro hbx2 (And.intro hpr hS2)))
  clear hcp g2 hb2 hbx2 hS2 hpr q2 hd0
  go_wp2_with fail
  refine tail_mk H2.out.2.2.2 ?_
  refine wpTails_cons rfl ?_
  go_wp2_with fail
  refine (rLeaders_any n ev (copE s.cons) _ H2.out.2.2.1 HV.out.2.2 (by omega)).mono ?_
  rintro e W3 ⟨lv, l, rfl, hir, hl, q3⟩
  have hb3 : Below W.heap.size W W3 := H2.out.1.trans (q3.mono H2.out.1.size)
  have hbx3 := H2.out.2.1.grown (grownBy_below q3) (by simp)
  have hS3 : W3.cell? ⟨bw, 0, none⟩ = some (.int .i64 (n : Int)) ∧ W3.cell? ⟨bw, 1, none⟩ = some (.int .i64 s.sites) ∧ W3.cell? ⟨bw, 2, none⟩ = some (.int .i64 s.fields) ∧ W3.cell? ⟨bw, 3, none⟩ = some (.slice ca s.cons.length cc) := ⟨by rw [← HV.out.2.1]; exact hbx3.1, hbx3.2⟩
  have H3 := Lib.hid (And.intro hb3 (And.intro hbx3 (And.intro hir (And.intro hl hS3))))
  clear hb3 hbx3 hS3 hir hl q3
  go_wp2_with fail
  refine tail_mk H3.out.2.2.2.2 ?_
  refine wpTails_one rfl ?_
  go_wp2_with fail
  refine thenQ_mk ?_
  go_wp2_with fail
  have hd0 := H3.out.2.2.2.2.1
  have hbwl : bw < W3.heap.size := World.block_lt_of_cell? W3 _ hd0
  obtain ⟨la, lc, rfl, -, li, lcell, lblk⟩ := H3.out.2.2.1.out1 sIntC
  have hln : l.length = n := by have := H3.out.2.2.2.1.1; exact this
  rw [hln] at li lcell lblk ⊢
  have HL := Lib.hid (And.intro lcell (And.intro lblk (And.intro H3.out.2.2.2.1 (And.intro H3.out.1 hd0))))
  clear lcell lblk hln H3 hd0
  go_loopw [6, 7, 8, 9] (fun ov x _ _ wr => ∃ (k : Nat) (oa : Option Addr) (oc : Nat) (vs : List Value), k ≤ n ∧ x = .int .i64 (k : Int) ∧ ov = .slice oa (cycTo l n k).length oc ∧ Hid (OwnN IInt wr W3.heap.size 32 (.slice oa (cycTo l n k).length oc) vs (cycTo l n k) ∧ Below W3.heap.size W3 wr)) (fun _ x _ _ _ => n - (intOf x).toNat)
  case atStart => exact ⟨0, none, 0, [], by omega, rfl, rfl, OwnN.empty _ _ _, Below.refl _ _⟩
  case round =>
   obtain ⟨k, oa, oc, vs, hk, rfl, rfl, hh⟩ := hrel
   have HO := Lib.hid hh.out
   clear hh
   have d0 : wr.cell? ⟨bw, 0, none⟩ = some (.int .i64 (n : Int)) := by rw [HO.out.2.cell (p := ⟨bw, 0, none⟩) hbwl]; exact HL.out.2.2.2.2
   by_cases hlt : k < n
   ·have hkl : (k : Int) < (n : Int) := by omega
    have hcl := cycTo_len l n k
    obtain ⟨cn, hcn⟩ : ∃ c, c = (cycTo l n k).length := ⟨_, rfl⟩
    rw [← hcn] at HO hcl
    rw [← hcn]
    have HCN := Lib.hid hcn
    clear hcn
    refine wp_gen (fun Z => (OwnN IInt Z W3.heap.size 32 (.slice oa cn oc) vs (cycTo l n k) ∧ Below W3.heap.size W3 Z) ∧ Z.cell? ⟨bw, 0, none⟩ = some (.int .i64 (n : Int))) ⟨HO.out, d0⟩ ?_
    intro V hV
    have HV2 := Lib.hid hV
    have hVl : bw < V.heap.size := Nat.lt_of_lt_of_le hbwl hV.1.2.size
    clear hV HO d0
    have d0 := HV2.out.2
    go_wp2_with fail
    clear d0
    go_loopw [8, 9] (fun mv x wr2 => ∃ (j : Nat) (ia : Option Addr) (ic : Nat), k ≤ j ∧ j ≤ n ∧ x = .int .i64 (j : Int) ∧ mv = .slice ia (memL l j k).length ic ∧ Hid (IInt wr2 V.heap.size (.slice ia (memL l j k).length ic) (memL l j k) ∧ Below V.heap.size V wr2)) (fun _ x _ => n - (intOf x).toNat)
    case atStart => exact ⟨k, none, 0, Nat.le_refl _, hk, rfl, by rw [memL_start HL.out.2.2.1 hlt]; rfl, by rw [memL_start HL.out.2.2.1 hlt]; exact ⟨Go.Dfl.Own.nil _ _ _ _, Below.refl _ _⟩⟩
    case round =>
     obtain ⟨j, ia, ic, hkj, hj, rfl, rfl, hh⟩ := hrel
     have HI := Lib.hid hh.out
     clear hh
     have d0 : wr.cell? ⟨bw, 0, none⟩ = some (.int .i64 (n : Int)) := by rw [HI.out.2.cell (p := ⟨bw, 0, none⟩) hVl]; exact HV2.out.2
     by_cases hjt : j < n
     ·have hjl : (j : Int) < (n : Int) := by omega
      have hml := memL_len l j k
      have lj := HL.out.1 j hjt
      have hW3w : Below W3.heap.size W3 wr := HV2.out.1.2.trans (HI.out.2.mono HV2.out.1.2.size)
      rw [← hW3w.cell (p := ⟨blk la, ofs la + j, none⟩) (HL.out.2.1 j hjt)] at lj
      have lij := li .i64 (j : Int) (by omega) (by omega)
      rw [Int.toNat_natCast] at lij
      obtain ⟨z, hz⟩ : ∃ z, z = nth l j := ⟨_, rfl⟩
      rw [← hz] at lj
      clear hW3w
      by_cases hzk : z = (k : Int)
      ·have t1 : (z == (k : Int)) = true := by rw [beq_iff_eq]; exact hzk
       have HY := Lib.hid (memL_yes (hz.symm.trans hzk))
       clear hzk hz
       obtain ⟨E, hE⟩ : ∃ E, E = memL l j k := ⟨_, rfl⟩
       rw [← hE] at HI HY hml
       rw [← hE]
       clear hE
       have HCL := Lib.hid (HI.out.1.alloc (.cells #[.int .i64 (j : Int)] 3))
       have hsz := HI.out.2.size
       have HLEN : Hid (E.length + [(j : Int)].length < 5864062014805) := Lib.hid (by rw [List.length_singleton]; omega)
       go_wp2_with (at_builtin; refine wp_appendS (f := Value.int .i64) sIntC rfl rfl _ _ rfl V.heap.size (.slice ia E.length ic) E rfl (.slice (some ⟨wr.heap.size, 0, none⟩) 1 1) [(j : Int)] rfl HCL.out (src_one (Value.int .i64) (cell_alloc1 wr (.int .i64 (j : Int)) 3)) (fun _ _ => rfl) HLEN.out (by omega) (le_alloc _ hsz) ?_; intro v' w3 hown hgr hat; obtain ⟨s9, c9, rfl⟩ := hown.shape (n := E.length + 1) (by rw [List.length_append]; rfl); have HW := Lib.hid (And.intro hown (And.intro hgr hat)); clear hown hgr hat)
       have hbl := (HI.out.2.alloc hsz (.cells #[.int .i64 (j : Int)] 3)).grown HW.out.2.1 (by rw [World.size_alloc]; omega) (fun q e => (HI.out.1.lt q e).1)
       have HP := Lib.hid (And.intro HW.out.1 hbl)
       clear hbl
       go_roundw
       case rel => exact ⟨j + 1, s9, c9, by omega, by omega, by go_num, by rw [HY.out, List.length_append]; rfl, by rw [HY.out, List.length_append]; exact HP.out⟩
       case measure => simp [intOf]; omega
      ·have t1 : (z == (k : Int)) = false := by rw [beq_eq_false_iff_ne]; exact hzk
       have HN := Lib.hid (memL_no (show nth l j ≠ (k : Int) from fun h => hzk (hz.trans h)))
       clear hzk hz
       go_wp2_with fail
       go_roundw
       case rel => exact ⟨j + 1, ia, ic, by omega, by omega, by go_num, by rw [HN.out], by rw [HN.out]; exact HI.out⟩
       case measure => simp [intOf]; omega
     ·obtain rfl : n = j := by omega
      obtain ⟨M, hM⟩ : ∃ M, M = memL l n k := ⟨_, rfl⟩
      have hml := memL_len l n k
      rw [← hM] at HI hml
      rw [← hM]
      have HM := Lib.hid hM
      have hout := HV2.out.1.1.below kInt HI.out.2
      have hfo : ∀ q, (Value.slice ia M.length ic).ownBlock = some q → ¬ Foot (.slice oa cn oc) vs q := fun q e hf => by
       have h9 := (HI.out.1.lt q e).1
       have h10 := (HV2.out.1.1.foot kInt q hf).2
       omega
      have hbl := HV2.out.1.2.trans (HI.out.2.mono HV2.out.1.2.size)
      have hvl := hout.len
      rw [← HCN.out] at hvl
      have HO2 := Lib.hid (And.intro hout (And.intro hbl (And.intro hfo (And.intro (HI.out.1.mono HV2.out.1.2.size) hvl))))
      have hsz := hbl.size
      clear hM hout hfo hbl hvl HI
      by_cases h2 : 1 < M.length
      ·have h2' : (1 : Int) < (M.length : Int) := by omega
       have HY := Lib.hid (cycTo_yes HL.out.2.2.1 (show bigB (memL l n k) = true by unfold bigB; rw [← HM.out, decide_eq_true_eq]; omega))
       have HCL := Lib.hid ((HO2.out.1.out).alloc (.cells #[.slice ia M.length ic] 32))
       have HLEN : Hid (vs.length + [(Value.slice ia M.length ic)].length < 5864062014805) := Lib.hid (by rw [List.length_singleton, HO2.out.2.2.2.2]; omega)
       go_wp2_with (at_builtin; refine wp_appendS (f := fun x : Value => x) sInt2 rfl rfl _ _ rfl W3.heap.size (.slice oa cn oc) vs rfl (.slice (some ⟨wr.heap.size, 0, none⟩) 1 1) [.slice ia M.length ic] rfl HCL.out (src_one (fun x : Value => x) (cell_alloc1 wr (.slice ia M.length ic) 32)) (fun y hy => by rw [List.mem_singleton.1 hy]; rfl) HLEN.out (Nat.le_refl _) (le_alloc _ hsz) ?_; intro v' w3 hown hgr hat; obtain ⟨s9, c9, rfl⟩ := hown.shape (n := cn + 1) (by rw [List.length_append, HO2.out.2.2.2.2]; rfl); have HW := Lib.hid (And.intro hown (And.intro hgr hat)); clear hown hgr hat)
       have hbA := (Below.refl wr.heap.size wr).alloc (Nat.le_refl _) (.cells #[.slice ia M.length ic] 32)
       have hpush := (HO2.out.1.below kInt hbA).push kInt HW.out.1 HW.out.2.1 HW.out.2.2 (HO2.out.2.2.2.1.below hbA) HO2.out.2.2.1
       have hbl := (HO2.out.2.1.alloc hsz (.cells #[.slice ia M.length ic] 32)).grown HW.out.2.1 (by rw [World.size_alloc]; omega) (fun q e => (HO2.out.1.out.lt q e).1)
       have HP := Lib.hid (And.intro hpush hbl)
       clear hbA hpush hbl
       go_roundw
       case rel => exact ⟨k + 1, s9, c9, _, by omega, by go_num, by rw [HY.out, List.length_append, ← HCN.out]; rfl, by rw [HY.out, List.length_append, ← HCN.out, ← HM.out]; exact HP.out⟩
       case measure => simp [intOf]; omega
      ·have h2' : ¬ (1 : Int) < (M.length : Int) := by omega
       have HN := Lib.hid (cycTo_no (show bigB (memL l n k) = false by unfold bigB; rw [← HM.out, decide_eq_false_iff_not]; omega))
       go_wp2_with fail
       go_roundw
       case rel => exact ⟨k + 1, oa, oc, vs, by omega, by go_num, by rw [HN.out, ← HCN.out], by rw [HN.out, ← HCN.out]; exact ⟨HO2.out.1, HO2.out.2.1⟩⟩
       case measure => simp [intOf]; omega
   ·obtain rfl : n = k := by omega
    go_wp2_with fail
    go_ret2
    exact .inr ⟨HV.out.1, l, _, vs, rfl, by rw [HV.out.2.1]; exact HL.out.2.2.1, by rw [HV.out.2.1, Int.toNat_natCast, ← cycTo_all]; exact HO.out.1.grid, HL.out.2.2.2.1.trans (HO.out.2.mono HL.out.2.2.2.1.size)⟩
 ·have he : (colC s != 0) = true := by simpa using h0
  have HC := Lib.hid h0
  clear h0
  generalize hcd : colC s = code at *
  have HCD := Lib.hid hcd
  clear hcd
  go_wp2_with fail
  go_ret2
  exact .inl ⟨by rw [HCD.out]; exact HC.out, by rw [HCD.out]; rfl, H1.out.2.1⟩
end Go.Proofs.YtgblfjccccdidaaGreat
end
section
namespace Go.Proofs.YtgblfjccccdidaaGreat
open Go.ChangeShapes Go.WideShapes Go.ChangeAt Go.RowKit Go.Dfl Go.And
set_option maxHeartbeats 1600000 in
theorem sameInts_eq (u v : Value) (l : List Int) (W : World) (hu : Ints W u l) (hv : Ints W v l) : Calls Tryz.prog 12 #[u, v] W fun e W' => e = .returned (.bool true) ∧ Qt W W' := by
 obtain ⟨a, c, rfl, hm, hi, hc, -⟩ := hu.out1 sIntC
 obtain ⟨a2, c2, rfl, -, hi2, hc2, -⟩ := hv.out1 sIntC
 have HC := Lib.hid (And.intro hc hc2)
 clear hu hv hc hc2
 go_enter Tryz.func12, Tryz.ntmps12
 go_wp2_with fail
 go_loopw [5, 13] (fun _ x wr => ∃ k : Nat, k ≤ l.length ∧ x = .int .i64 k ∧ Qt W wr) (fun _ x _ => l.length - (intOf x).toNat)
 case atStart => exact ⟨0, by omega, rfl, by exact (by first | exact Qt.refl _ | exact Qt.drewN _ _ | exact (Qt.drewN _ _).trans (Qt.drewN _ _) | exact ((Qt.drewN _ _).trans (Qt.drewN _ _)).trans (Qt.drewN _ _) | exact Qt.drew _ | exact (Qt.drewN _ _).trans (Qt.drew _))⟩
 case round =>
  obtain ⟨k, hk, rfl, ⟨nw, rfl⟩⟩ := hrel
  by_cases hlt : k < l.length
  ·have c1 := HC.out.1 k hlt
   have c2 := HC.out.2 k hlt
   have hne : (nth l k != nth l k) = false := by simp
   go_wp2_with fail
   go_quiet (fail)
   go_wp2_with fail
   go_roundw
   case rel => exact ⟨k + 1, by omega, by go_num, (by first | exact Qt.refl _ | exact Qt.drewN _ _ | exact (Qt.drewN _ _).trans (Qt.drewN _ _) | exact ((Qt.drewN _ _).trans (Qt.drewN _ _)).trans (Qt.drewN _ _) | exact Qt.drew _ | exact (Qt.drewN _ _).trans (Qt.drew _))⟩
   case measure => simp [intOf]; omega
  ·go_wp2_with fail
   go_ret
   exact ⟨rfl, (by first | exact Qt.refl _ | exact Qt.drewN _ _ | exact (Qt.drewN _ _).trans (Qt.drewN _ _) | exact ((Qt.drewN _ _).trans (Qt.drewN _ _)).trans (Qt.drewN _ _) | exact Qt.drew _ | exact (Qt.drewN _ _).trans (Qt.drew _))⟩
end Go.Proofs.YtgblfjccccdidaaGreat
end
section
namespace Go.Proofs.YtgblfjccccdidaaGreat
open Go.ChangeShapes Go.WideShapes Go.ChangeAt Go.RowKit Go.Dfl Go.Clp Go.Tj
open Go.And (R Sy colC)
def CycA (s : Sy) (A : List (List Int)) : Prop := (colC s ≠ 0 ∧ A = []) ∨ (colC s = 0 ∧ ∃ l, Lds (eI (copE s.cons)) s.vars.toNat l ∧ A = cycL l s.vars.toNat)
theorem CycA.unique {s : Sy} {A B : List (List Int)} (h : CycA s A) (k : CycA s B) : A = B := by
 rcases h with ⟨h0, rfl⟩ | ⟨h0, l, hl, rfl⟩
 ·rcases k with ⟨-, rfl⟩ | ⟨k0, -⟩
  ·rfl
  ·exact absurd k0 h0
 ·rcases k with ⟨k0, -⟩ | ⟨-, m, hm, rfl⟩
  ·exact absurd h0 k0
  ·rw [hl.unique hm]
theorem CyclesR.w {s : Sy} {W W' : World} {e : Ending} (h : CyclesR s W e W') : ∃ A a c vs, CycA s A ∧ e = .returned (.tuple #[.slice a A.length c, .int .i64 (colC s)]) ∧ Grid (Value.int .i64) W' (.slice a A.length c) vs A ∧ Below W.heap.size W W' := by
 rcases h with ⟨h0, rfl, hb⟩ | ⟨h0, l, v, vs, rfl, hl, hg, hb⟩
 ·exact ⟨[], none, 0, [], .inl ⟨h0, rfl⟩, rfl, nilGridC W', hb⟩
 ·obtain ⟨a, c, rfl, -, -, -⟩ := grid_rdC hg
  exact ⟨_, a, c, vs, .inr ⟨h0, l, hl, rfl⟩, by rw [h0], hg, hb⟩
set_option maxHeartbeats 12800000 in
set_option maxRecDepth 100000 in
theorem CollapseCycles_walk (s : Sy) (cv : Value) (W : World) (hc : ConsIn W cv s.cons) :
  Calls Tryz.prog 3 #[SysV s cv] W (TruePost W) := by
 obtain ⟨ca, cc, rfl, -⟩ := hc.out
 have HC := Lib.hid hc
 clear hc
 unfold SysV
 go_enter Tryz.func3, Tryz.ntmps3
 go_wp2_with fail
 refine calls_gen (fun Z => SysB W.heap.size s (.slice ca s.cons.length cc) Z ∧ Below W.heap.size W Z) ⟨SysB.new HC.out 24, (Below.refl _ _).alloc (Nat.le_refl _) _⟩ ?_
 rintro Z0 h0
 obtain ⟨bs, hbs⟩ : ∃ bs, bs = W.heap.size := ⟨_, rfl⟩
 have H0 : Hid (SysB bs s (.slice ca s.cons.length cc) Z0 ∧ Below W.heap.size W Z0) := by rw [hbs]; exact h0
 rw [← hbs]
 clear h0 hbs HC
 refine (Short_any s (.slice ca s.cons.length cc) _ H0.out.1.cons).mono ?_
 rintro e W1 ⟨b1, rfl, hb1, r1⟩
 have H1 := Lib.hid (And.intro (H0.out.1.below r1) (H0.out.2.trans (r1.mono H0.out.2.size)))
 obtain ⟨d0, d1, d2, d3⟩ := H1.out.1.box
 clear H0 r1
 cases b1
 ·clear hb1
  have hq : Below W.heap.size W W1 := H1.out.2
  clear d0 d1 d2 d3
  go_wp2_with fail
  refine (awake_any _).mono ?_
  rintro e W9 ⟨rfl, r9⟩
  have H9 := Lib.hid (hq.trans (r9.mono hq.size))
  clear r9
  go_wp2_with fail
  go_ret
  exact ⟨rfl, H9.out⟩
 ·have HS := Lib.hid (hb1.1 rfl)
  clear hb1
  by_cases h24 : 24 < s.vars
  ·have hq : Below W.heap.size W W1 := H1.out.2
   go_wp2_with fail
   refine (awake_any _).mono ?_
   rintro e W9 ⟨rfl, r9⟩
   have H9 := Lib.hid (hq.trans (r9.mono hq.size))
   clear r9
   go_wp2_with fail
   go_ret
   exact ⟨rfl, H9.out⟩
  ·go_wp2_with fail
   clear d0 d1 d2 d3
   refine (gCycles_any s (.slice ca s.cons.length cc) _ H1.out.1.cons (by have := HS.out.1; omega)).mono ?_
   intro e W2 hx
   obtain ⟨A, a1, c1, vs1, hA, rfl, hg1, r2⟩ := hx.w
   have HA := Lib.hid (And.intro hA hg1)
   clear hx hA hg1
   have H2 := Lib.hid (And.intro (H1.out.1.below r2) (H1.out.2.trans (r2.mono H1.out.2.size)))
   obtain ⟨d0, d1, d2, d3⟩ := H2.out.1.box
   clear H1 r2
   go_wp2_with fail
   clear d0 d1 d2 d3
   refine (rCycles_any s (.slice ca s.cons.length cc) _ H2.out.1.cons (by have := HS.out.1; omega)).mono ?_
   intro e W3 hx
   obtain ⟨B, a2, c2, vs2, hB, rfl, hg2, r3⟩ := hx.w
   obtain rfl := HA.out.1.unique hB
   have hY := And.intro (H2.out.2.trans (r3.mono H2.out.2.size)) (And.intro (HA.out.2.below r3) hg2)
   obtain ⟨cd, hcd⟩ : ∃ c, c = colC s := ⟨_, rfl⟩
   rw [← hcd]
   have w0 : (cd != cd) = false := by simp
   have w1 : ((A.length : Int) != (A.length : Int)) = false := by simp
   clear hx hB hg2 r3 H2 HA hcd
   have g1 := hY.2.1
   have g2 := hY.2.2
   obtain ⟨Y, hYe⟩ : ∃ Y, Y = W3 := ⟨_, rfl⟩
   rw [← hYe] at hY g1 g2 ⊢
   clear hYe
   obtain ⟨ea, ec, he, m1, i1, x1⟩ := grid_rdC g1
   simp only [Value.slice.injEq] at he
   obtain ⟨rfl, -, rfl⟩ := he
   obtain ⟨ea, ec, he, m2, i2, x2⟩ := grid_rdC g2
   simp only [Value.slice.injEq] at he
   obtain ⟨rfl, -, rfl⟩ := he
   have HY := Lib.hid hY.1
   have HG := Lib.hid (And.intro g1.2.2 g2.2.2)
   have HX := Lib.hid (And.intro x1 x2)
   clear hY g1 g2 x1 x2 m2
   go_wp2_with fail
   clear w0 w1
   go_loopw [7, 39] (fun _ x wr => ∃ k : Nat, k ≤ A.length ∧ x = .int .i64 k ∧ Qt Y wr) (fun _ x _ => A.length - (intOf x).toNat)
   case atStart => exact ⟨0, by omega, rfl, by exact (by first | exact Qt.refl _ | exact Qt.drewN _ _ | exact (Qt.drewN _ _).trans (Qt.drewN _ _) | exact ((Qt.drewN _ _).trans (Qt.drewN _ _)).trans (Qt.drewN _ _) | exact Qt.drew _ | exact (Qt.drewN _ _).trans (Qt.drew _))⟩
   case round =>
    obtain ⟨k, hk, rfl, ⟨nw, rfl⟩⟩ := hrel
    by_cases hlt : k < A.length
    ·obtain ⟨ya, yc, hy1, -, -, -, -⟩ := Sliced.out1 (HG.out.1 k hlt) sIntC
     obtain ⟨za, zc, hz1, -, -, -, -⟩ := Sliced.out1 (HG.out.2 k hlt) sIntC
     have r1 := (HX.out.1 k hlt).1
     have r2 := (HX.out.2 k hlt).1
     have y1 := (HG.out.1 k hlt)
     have y2 := (HG.out.2 k hlt)
     rw [hy1] at r1 y1
     rw [hz1] at r2 y2
     have hcall : ∀ q, Calls Tryz.prog 12 #[.slice ya (nth A k).length yc, .slice za (nth A k).length zc] (Y.drewN q) fun e w' => e = .returned (.bool true) ∧ Qt (Y.drewN q) w' := fun q => sameInts_eq _ _ (nth A k) _ (y1.qt (Qt.drewN _ _)) (y2.qt (Qt.drewN _ _))
     obtain ⟨lm, hlm⟩ : ∃ m, m = (nth A k).length := ⟨_, rfl⟩
     rw [← hlm] at r1 r2 hcall
     have HCall := Lib.hid hcall
     clear hcall hlm y1 y2 hy1 hz1
     have j1 := i1 .i64 (k : Int) (by omega) (by omega)
     have j2 := i2 .i64 (k : Int) (by omega) (by omega)
     go_wp2_with fail
     go_quiet ((go_at_call 12; first | exact Qt.quiet2 (HCall.out _) | exact Qt.quiet (HCall.out _)))
     go_wp2_with fail
     go_roundw
     case rel => exact ⟨k + 1, by omega, by go_num, (by first | exact Qt.refl _ | exact Qt.drewN _ _ | exact (Qt.drewN _ _).trans (Qt.drewN _ _) | exact ((Qt.drewN _ _).trans (Qt.drewN _ _)).trans (Qt.drewN _ _) | exact Qt.drew _ | exact (Qt.drewN _ _).trans (Qt.drew _))⟩
     case measure => simp [intOf]; omega
    ·clear i1 i2
     have hq := below_drewN HY.out nw
     go_wp2_with fail
     refine (awake_any _).mono ?_
     rintro e W9 ⟨rfl, r9⟩
     have H9 := Lib.hid (hq.trans (r9.mono hq.size))
     clear r9
     go_wp2_with fail
     go_ret
     exact ⟨rfl, H9.out⟩
set_option maxRecDepth 100000 in
theorem CollapseCycles_lifted (os : Os) (started : os.Started) (H : Type) (enc : TypeId × Value → H) :
  ReturnsInHanded {} Tryz.checked os 3 .any (Rows.collapseCyclesSpec.pre6 enc Tryz.prog Tryz.f3 Rows.collapseCyclesRow.domain false) (Rows.collapseCyclesSpec.post enc Tryz.prog Tryz.f3 false true false false) := by
 refine returnsInHanded_of_change (C := Tryz.checked) own started (by kernel_rfl) Tryz.func3
  (ChangeSpec.witness6 (enc := enc) (C := Tryz.checked) false ⟨#[], #[.agg #[.int .i64 0, .int .i64 0, .int .i64 0, .slice none 0 0]], []⟩ 8 (by kernel_rfl) (by kernel_rfl) (by kernel_rfl) (by kernel_rfl)) ?_
 intro W base args ds gs before hval0 hW hcnd _
 have hval : ∀ (j : Nat) t v, Tryz.f3.params[j]? = some t → args[j]? = some v → Value.okWide Tryz.prog W .any base t v := hval0
 have hW' := hW
 obtain ⟨p, q, hA0, hV, rfl, hfz, hnd⟩ := hW
 have hA : DataW.TrodAll enc Tryz.prog W 0 (fun _ => true) true Tryz.f3.params.toList args.toList ds p := hA0
 rw [Tryz.params3] at hA hval
 obtain ⟨v0, vs0, d0, ds0, p0, q0, hargs, rfl, rfl, h0, r0⟩ := trodAll_cons hA
 obtain ⟨rfl, rfl, rfl⟩ := trodAll_nil r0
 obtain rfl : args = #[v0] := by cases args; simp_all
 obtain ⟨rfl, rfl⟩ := trodVars_none hV
 obtain ⟨c0, rfl, sz0⟩ := okWide_struct Tryz.underlying24 (hval 0 24 v0 rfl rfl)
 have k0 := h0
 obtain ⟨sy0, cv0, eq0, hC0⟩ := sys_of_trod sz0 h0
 obtain rfl : c0 = #[.int .i64 sy0.vars, .int .i64 sy0.sites, .int .i64 sy0.fields, cv0] := by simpa [SysV] using eq0
 have lt0 : ∀ x ∈ p0, x.block < W.heap.size := by obtain ⟨m, hm⟩ := k0; exact DataW.trod_lt m _ _ _ hm
 clear hA0 hval0
 refine (CollapseCycles_walk sy0 cv0 W hC0).mono fun e W' ⟨he, bel⟩ => ?_
 subst he
 exact ⟨_, rfl, _, _, _, [], _, [], hW', trodAll_mk1 (shut_bool Tryz.underlying4 _), (trodAll_cons_mk (Below.trod laidOut (by kernel_rfl) (of_decide_eq_true (by kernel_rfl)) k0 bel lt0) trodAll_mk0), rfl, bel.frame _, fun h => by cases h⟩
theorem CollapseCycles_holds : Rows.CollapseCyclesSaid :=
 OpenClaim.holds_of_wide 3 Tryz.f3 rfl rfl rfl rfl rfl rfl rfl ⟨rfl, rfl, rfl, rfl, rfl⟩ rfl rfl rfl rfl rfl (by kernel_rfl) Tryz.func3 (by kernel_rfl)
  (of_decide_eq_true (by kernel_rfl)) (by unfold Func.isWrapper; first | (rw [if_pos (by decide +kernel)]; kernel_rfl) | (rw [if_neg (by decide +kernel)]; exact ⟨rfl, rfl⟩))
  (fun os started H enc _ => CollapseCycles_lifted os started H enc)
end Go.Proofs.YtgblfjccccdidaaGreat
end
