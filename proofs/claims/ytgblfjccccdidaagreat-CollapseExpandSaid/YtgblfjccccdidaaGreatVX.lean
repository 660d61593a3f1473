/- CollapseExpand: for any assignment with at most 50 and 70 lists of at most 40 numbers and any at most 60 representatives, Expand is as the reference says. Conditions: none. -/
import Derived.WalkKit
import Derived.Lib.Hide
import Derived.WalkSpells
import Derived.Deep.QuietTactic
import Derived.BigQuiet
import Derived.WalkLawsBesides
import Derived.ChangeKeysEq
import Derived.StillTailTactics
import Derived.Test.YtgblfjccccdidaaGreatRows
import Derived.Laws.CopyOwn
import Derived.Deep.AppendLies
import Derived.Deep.RegionHeld3
import Derived.StillTail
import Derived.OrdersHeld
import Derived.Maps.OwnSet
import Derived.DeepKeys4
import Derived.OneCell
import Derived.Laws.EntriesVeiled
import Derived.Deep.LoopGhost
import Derived.Laws.ResultCell
import Derived.Deep.Cut
import Derived.Shelf.SlSortCmp.Whole1
import Derived.Shelf.SlicesE.DeleteFunc
import Derived.Deep.RegionLaw
import Derived.Shelf.SlSortCmp.NoneTotal
import Derived.Shelf.SlSortCmp.WholeK
import Derived.Shelf.SlSorted.Search
import Derived.Shelf.SlicesE.Clone
import Derived.Test.YtgblfjccccdidaaGreatProg
import Derived.Sort.Grow
import Derived.Laws.StructEq
import Derived.Lib.SliceRun
import Derived.Shelf.SlicesE.Kit
import Derived.RangeFuncNested
import Derived.RangeFuncWrites
import Derived.RangeFuncBound
import Derived.RangeFuncCalls
import Derived.RangeFuncLeaves
import Derived.Shelf.Abstract
import Derived.Shelf.RegionOpen
import Derived.OwnWalkIn
import Derived.TacticsInMore
import Derived.LoopNIn
import Derived.LoopIn
import Derived.RegionIn
import Derived.Maps.OwnIn
import Derived.Sort.CutIn
import Derived.Maps.AppendAt
import Derived.ProofKit
import Derived.OpenShut
import Derived.ShutString
import Derived.ChangeOld
import Derived.Deep.SlicePairs
import Derived.Deep.Slices
import Derived.Test.YtgblfjccccdidaaGreatVb
section
namespace Go.Proofs.YtgblfjccccdidaaGreat.Prt
open Go.RowKit Go.Dfl
set_option maxHeartbeats 400000 in
theorem RCheck_any (v : Value) (l : List Int) (w : World) (h : Ints w v l) :
  Calls Tryz.prog 32 #[v] w fun e w' => e = .returned (.int .i64 (chk l)) ∧ Qt w w' := by
 obtain ⟨a, cap, rfl, hm, hidx, hcell, _⟩ := h.out1 sInt
 clear h
 by_cases hbig : 8192 < l.length
 ·go_enter Tryz.func32, Tryz.ntmps32
  go_wp2
  go_ret
  exact ⟨ret_int (by simp [chk, hbig]), Qt.refl _⟩
 ·have hd : decide (8192 < l.length) = false := by simpa using hbig
  go_enter Tryz.func32, Tryz.ntmps32
  go_wp2
  go_loopw [3] (fun i wr => ∃ k : Nat, k ≤ l.length ∧ i = .int .i64 k ∧ Qt w wr ∧ chk l = chkFrom l (l.length - k) k) (fun i _ => l.length - (intOf i).toNat)
  case atStart => exact ⟨0, by omega, rfl, Qt.refl _, by simp [chk]; omega⟩
  case round =>
   obtain ⟨k, hk, rfl, ⟨nw, rfl⟩, hch⟩ := hrel
   by_cases hlt : k < l.length
   ·have hck := hcell k hlt
    obtain ⟨d, hd⟩ : ∃ d, l.length - k = d + 1 := ⟨l.length - k - 1, by omega⟩
    have hd' : l.length - (k+1) = d := by omega
    rw [hd, chkFrom] at hch
    rw [← hd'] at hch
    have Hch := Lib.hid hch; clear hch hd hd'
    by_cases h1 : nth l k < 0
    ·go_wp2
     go_ret
     exact ⟨ret_int (by rw [Hch.out, if_pos (by omega)]), (by first | exact Qt.refl _ | exact Qt.drewN _ _ | exact (Qt.drewN _ _).trans (Qt.drewN _ _) | exact ((Qt.drewN _ _).trans (Qt.drewN _ _)).trans (Qt.drewN _ _) | exact Qt.drew _ | exact (Qt.drewN _ _).trans (Qt.drew _))⟩
    ·by_cases h2 : k < nth l k
     ·go_wp2
      go_ret
      exact ⟨ret_int (by rw [Hch.out, if_pos (by omega)]), (by first | exact Qt.refl _ | exact Qt.drewN _ _ | exact (Qt.drewN _ _).trans (Qt.drewN _ _) | exact ((Qt.drewN _ _).trans (Qt.drewN _ _)).trans (Qt.drewN _ _) | exact Qt.drew _ | exact (Qt.drewN _ _).trans (Qt.drew _))⟩
     ·have hck2 := hcell (nth l k).toNat (by omega)
      have h3 : 0 ≤ nth l k := by omega
      have h4 : nth l k < l.length := by omega
      by_cases h5 : nth l (nth l k).toNat = nth l k
      ·have h6 : (nth l (nth l k).toNat != nth l k) = false := by simpa using h5
       have H5 := Lib.hid h5
       clear h5
       go_wp2
       go_quiet (fail)
       go_wp2
       go_roundw
       case rel => exact ⟨k + 1, by omega, by go_num, (by first | exact Qt.refl _ | exact Qt.drewN _ _ | exact (Qt.drewN _ _).trans (Qt.drewN _ _) | exact ((Qt.drewN _ _).trans (Qt.drewN _ _)).trans (Qt.drewN _ _) | exact Qt.drew _ | exact (Qt.drewN _ _).trans (Qt.drew _)), by rw [Hch.out, if_neg (by omega), if_neg (by simpa using H5.out)]⟩
       case measure => simp [intOf]; omega
      ·have h6 : (nth l (nth l k).toNat != nth l k) = true := by simpa using h5
       go_wp2
       go_quiet (fail)
       go_wp2
       go_ret
       exact ⟨ret_int (by rw [Hch.out, if_neg (by omega), if_pos h5]), (by first | exact Qt.refl _ | exact Qt.drewN _ _ | exact (Qt.drewN _ _).trans (Qt.drewN _ _) | exact ((Qt.drewN _ _).trans (Qt.drewN _ _)).trans (Qt.drewN _ _) | exact Qt.drew _ | exact (Qt.drewN _ _).trans (Qt.drew _))⟩
   ·go_wp2
    go_ret
    exact ⟨ret_int (by rw [hch]; simp [show l.length - k = 0 by omega, chkFrom]), (by first | exact Qt.refl _ | exact Qt.drewN _ _ | exact (Qt.drewN _ _).trans (Qt.drewN _ _) | exact ((Qt.drewN _ _).trans (Qt.drewN _ _)).trans (Qt.drewN _ _) | exact Qt.drew _ | exact (Qt.drewN _ _).trans (Qt.drew _))⟩
end Go.Proofs.YtgblfjccccdidaaGreat.Prt
end
section
namespace Go.Proofs.YtgblfjccccdidaaGreat
open Go.RowKit Go.Dfl
open Go.And (R Sy)
structure RxM (bo : Nat) (u cv : Value) (os : List Value) (W0 W : World) : Prop where
 c0 : W.cell? ⟨bo, 0, none⟩ = some u
 c1 : W.cell? ⟨bo, 1, none⟩ = some cv
 frz : ∀ j, W.frozen? ⟨bo, j, none⟩ = false
 ou : Go.Dfl.Own (fun x : Value => x) W (bo + 1) 32 u os
 bel : Below bo W0 W
section
variable {bo : Nat} {u cv : Value} {os : List Value} {W0 W W' : World}
theorem RxM.new (W : World) (cv : Value) (t : TypeId) : RxM W.heap.size (.slice none 0 0) cv [] W (W.alloc (.cells #[.slice none 0 0, cv] t)) := by
 have hn := cells_new (W := W) (cs := [.slice none 0 0, cv]) (t := t) rfl
 refine ⟨hn 0 _ rfl, hn 1 _ rfl, fun j => ?_, Go.Dfl.Own.nil _ _ _ _, (Below.refl _ _).alloc (Nat.le_refl _) _⟩
 have hb := heap_alloc_new W (.cells #[.slice none 0 0, cv] t)
 simp only [World.frozen?, hb]
 first | rfl | simp
theorem RxM.lt (h : RxM bo u cv os W0 W) : bo < W.heap.size := World.block_lt_of_cell? W _ h.c0
theorem RxM.grown (h : RxM bo u cv os W0 W) (hg : W.grownBy W' none) : RxM bo u cv os W0 W' :=
 ⟨hg.cell h.c0 (by simp), hg.cell h.c1 (by simp), fun j => by rw [World.frozen?_of_block (a := ⟨bo, j, none⟩) (hg.block bo h.lt (by simp))]; exact h.frz j, h.ou.grown hg (by cases u.ownBlock <;> simp), h.bel.grown hg (by have := h.lt; omega) (by simp)⟩
theorem RxM.push (h : RxM bo u cv os W0 W) {x u' : Value} (ho : Go.Dfl.Own (fun x : Value => x) W' (bo + 1) 32 u' (os ++ [x])) (hg : W.grownBy W' u.ownBlock) :
  (W'.cell? ⟨bo, 0, none⟩ = some u ∧ W'.frozen? ⟨bo, 0, none⟩ = false) ∧ RxM bo u' cv (os ++ [x]) W0 (W'.setCell ⟨bo, 0, none⟩ u') := by
 have nb : some bo ≠ u.ownBlock := fun e => by have := (h.ou.lt bo e.symm).1; omega
 have gs := grownBy_setCell W' ⟨bo, 0, none⟩ u'
 have hfr : ∀ j, W'.frozen? ⟨bo, j, none⟩ = false := fun j => by rw [World.frozen?_of_block (a := ⟨bo, j, none⟩) (hg.block bo h.lt nb)]; exact h.frz j
 have c0 := hg.cell h.c0 nb
 refine ⟨⟨c0, hfr 0⟩, World.cell?_setCell_same W' _ _ c0, ?_, fun j => by rw [World.frozen?_setCell]; exact hfr j, ho.grown gs ?_, (h.bel.grown hg (by have := h.lt; omega) fun k hk => by have := (h.ou.lt k hk).1; omega).setCell (show bo ≤ (⟨bo, 0, none⟩ : Addr).block from Nat.le_refl _) _⟩
 ·rw [World.cell?_setCell_other _ _ _ _ (by intro e; simp at e)]; exact hg.cell h.c1 nb
 ·cases hv : u'.ownBlock with
  | none => exact .inl rfl
  | some k => exact .inr fun e => by have := (ho.lt k hv).1; have e := Option.some.inj e; simp at e; omega
end
def RxpR (lu lv : List (List Int)) (rep : List Int) (W : World) (e : Ending) (W' : World) : Prop :=
 (rep.length ≠ lu.length ∧ e = .returned (.tuple #[.agg #[.slice none 0 0, .slice none 0 0], .int .i64 20]) ∧ Below W.heap.size W W') ∨
 (rep.length = lu.length ∧ Prt.chk rep ≠ 0 ∧ e = .returned (.tuple #[.agg #[.slice none 0 0, .slice none 0 0], .int .i64 (Prt.chk rep)]) ∧ Below W.heap.size W W') ∨
 (rep.length = lu.length ∧ Prt.chk rep = 0 ∧ ∃ ua uc va vc, e = .returned (.tuple #[.agg #[.slice ua rep.length uc, .slice va lv.length vc], .int .i64 0]) ∧ PtsIn W' (.slice ua rep.length uc) (.slice va lv.length vc) (expL lu rep) lv ∧ Below W.heap.size W W')
set_option maxHeartbeats 6400000 in
set_option maxRecDepth 100000 in
theorem rExpand_any (u v rv : Value) (us vs : List Value) (lu lv : List (List Int)) (rep : List Int) (W : World) (hu : Grid (Value.int .i64) W u us lu) (hv : Grid (Value.int .i64) W v vs lv) (hr : Ints W rv rep) :
  Calls Tryz.prog 15 #[.agg #[u, v], rv] W (RxpR lu lv rep W) := by
 obtain ⟨ua, uc, rfl, um, ui, ucell⟩ := grid_rdC hu
 obtain ⟨va, vc, rfl, vm, -, -⟩ := grid_rdC hv
 have HG := Lib.hid (And.intro hu (And.intro hv ucell))
 have hr0 := hr
 obtain ⟨ra, rc, rfl, rm, ri, rcell, rblk⟩ := hr.out1 sIntC
 have HR := Lib.hid (And.intro hr0 (And.intro rcell rblk))
 clear hu hv ucell hr hr0 rcell rblk
 have b0 : Below W.heap.size W ((W.alloc (.cells #[.slice ua lu.length uc, .slice va lv.length vc] 34)).alloc (.cells #[.slice none 0 0, .slice none 0 0] 34)) := ((Below.refl W.heap.size W).alloc (Nat.le_refl _) _).alloc (by simp) _
 have HB0 := Lib.hid b0
 clear b0
 by_cases hlen : rep.length = lu.length
 ·have q0 : ((rep.length : Int) != (lu.length : Int)) = false := by simp; omega
  have HL := Lib.hid hlen
  clear hlen
  go_enter Tryz.func15, Tryz.ntmps15
  go_wp2_with fail
  refine (Prt.RCheck_any _ rep _ (HR.out.1.below HB0.out)).mono ?_
  rintro e W1 ⟨rfl, hq⟩
  have b1 : Below W.heap.size W W1 := HB0.out.trans (hq.below _)
  have hp : W1.cell? ⟨W.heap.size, 0, none⟩ = some (.slice ua lu.length uc) ∧ W1.cell? ⟨W.heap.size, 1, none⟩ = some (.slice va lv.length vc) := by
   have hn := cells_new (W := W) (cs := [.slice ua lu.length uc, .slice va lv.length vc]) (t := 34) rfl
   have g2 := grownBy_trans (grownBy_alloc (W.alloc (.cells #[.slice ua lu.length uc, .slice va lv.length vc] 34)) (.cells #[.slice none 0 0, .slice none 0 0] 34)) (grownBy_qt hq)
   exact ⟨g2.cell (hn 0 _ rfl) (by simp), g2.cell (hn 1 _ rfl) (by simp)⟩
  have hx : RxM (W.heap.size + 1) (.slice none 0 0) (.slice none 0 0) [] (W.alloc (.cells #[.slice ua lu.length uc, .slice va lv.length vc] 34)) W1 := by
   have := RxM.new (W.alloc (.cells #[.slice ua lu.length uc, .slice va lv.length vc] 34)) (.slice none 0 0) 34
   rw [World.size_alloc] at this
   exact this.grown (grownBy_qt hq)
  obtain ⟨bp, hbp⟩ : ∃ bp, bp = W.heap.size := ⟨_, rfl⟩
  obtain ⟨br, hbr⟩ : ∃ br, br = W.heap.size + 1 := ⟨_, rfl⟩
  rw [← hbp] at hp
  rw [← hbr] at hx
  have HX := Lib.hid (And.intro hx (And.intro b1 (And.intro hbp (And.intro hbr hp))))
  obtain ⟨p0, p1⟩ := hp
  have r0 := hx.c0
  have r1 := hx.c1
  have f0 := hx.frz 0
  have f1 := hx.frz 1
  have lp : bp < W1.heap.size := World.block_lt_of_cell? W1 _ p0
  have lr : br < W1.heap.size := hx.lt
  have npr : bp ≠ br := by omega
  rw [show ((W.heap.size : Nat)) = bp from hbp.symm]
  rw [show ((bp + 1 : Nat)) = br by omega]
  clear b1 hx hq hbp hbr HB0
  by_cases hc : Prt.chk rep = 0
  ·rw [hc]
   have HC := Lib.hid hc
   clear hc
   have hx1 := HX.out.1.grown (grownBy_alloc W1 (.cells #[.slice none 0 0, .slice va lv.length vc] 34))
   have hx2 := RxM.new W1 (.slice va lv.length vc) 34
   have HA := Lib.hid (And.intro hx1 hx2)
   clear hx1 hx2
   go_wp2_with fail
   clear p0 p1 r0 r1 f0 f1
   refine wp_gen (fun Z => RxM br (.slice none 0 0) (.slice none 0 0) [] (W.alloc (.cells #[.slice ua lu.length uc, .slice va lv.length vc] 34)) Z ∧ RxM W1.heap.size (.slice none 0 0) (.slice va lv.length vc) [] W1 Z) HA.out ?_
   intro Z0 hZ0
   obtain ⟨bo, hbo⟩ : ∃ bo, bo = W1.heap.size := ⟨_, rfl⟩
   rw [← hbo] at hZ0 lp lr ⊢
   have HZ0 := Lib.hid (And.intro hZ0 hbo)
   have hck := Prt.chk_ok HC.out
   have HK := Lib.hid hck
   have hr8 := hck.1
   clear hZ0 hbo hck HA
   go_loopw [8] (fun x wr => ∃ (k : Nat) (oa : Option Addr) (oc : Nat) (os : List Value), k ≤ rep.length ∧ x = .int .i64 k ∧ Hid (RxM bo (.slice oa k oc) (.slice va lv.length vc) os W1 wr) ∧ Hid (os.length = k ∧ ∀ i, i < k → nth os i = nth us (nth rep i).toNat)) (fun x _ => rep.length - (intOf x).toNat)
   case atStart => exact ⟨0, none, 0, [], by omega, rfl, HZ0.out.1.2, Lib.hid ⟨rfl, fun i hi => by omega⟩⟩
   case round =>
    obtain ⟨k, oa, oc, os, hk, rfl, hh, hos⟩ := hrel
    have c0 := hh.out.c0
    have c1 := hh.out.c1
    have z0 := hh.out.frz 0
    have z1 := hh.out.frz 1
    have hB : bo + 1 ≤ wr.heap.size := hh.out.lt
    have hw1 : Below bo W1 wr := hh.out.bel
    have q0 : wr.cell? ⟨bp, 0, none⟩ = some (.slice ua lu.length uc) := by
     rw [hw1.cell (p := ⟨bp, 0, none⟩) lp]; exact HX.out.2.2.2.2.1
    have hWw : Below W.heap.size W wr := HX.out.2.1.trans (hw1.mono (by have := HX.out.2.1.size; rw [HZ0.out.2]; exact this))
    by_cases hlt : k < rep.length
    ·obtain ⟨r, hr⟩ : ∃ r, r = nth rep k := ⟨_, rfl⟩
     have hck := HK.out.2 k hlt
     rw [← hr] at hck
     have hrl : r < lu.length := by have := HL.out; omega
     have rc0 : wr.cell? ⟨blk ra, ofs ra + k, none⟩ = some (.int .i64 r) := by
      rw [hWw.cell (p := ⟨blk ra, ofs ra + k, none⟩) (HR.out.2.2 k hlt), hr]; exact HR.out.2.1 k hlt
     have ri0 := ri .i64 (k : Int) (by omega) (by omega)
     obtain ⟨rn, rfl⟩ : ∃ rn : Nat, r = (rn : Int) := ⟨r.toNat, by omega⟩
     have ui0 := ui .i64 (rn : Int) (by omega) hrl
     rw [Int.toNat_natCast] at ri0 ui0
     have hrn : rn < lu.length := by omega
     obtain ⟨uc0, ub0⟩ := HG.out.2.2 rn hrn
     rw [← hWw.cell (p := ⟨blk ua, ofs ua + rn, none⟩) ub0] at uc0
     have HI := Lib.hid (And.intro hr (And.intro ub0 hWw))
     have HH := Lib.hid (And.intro hh.out hos.out)
     obtain ⟨xa, xc, hx, -⟩ := HG.out.1.2.2 rn hrn
     obtain ⟨xn, hxn⟩ : ∃ xn, xn = (nth lu rn).length := ⟨_, rfl⟩
     rw [← hxn] at hx
     rw [hx] at uc0
     have HXV := Lib.hid hx
     clear hr hck hrl hWw hw1 hh ub0 hos hx hxn
     go_upto_region 10 with fail
     refine wp_region_mix [0, 1, 2, 3, 4, 5, 6, 7, 8, 9] [10, 11, 12, 13] (fun w' => w'.cell? ⟨bo, 0, none⟩ = some (.slice oa k oc) ∧ w'.cell? ⟨bp, 0, none⟩ = some (.slice ua lu.length uc) ∧ w'.cell? ⟨blk ua, ofs ua + rn, none⟩ = some (.slice xa xn xc) ∧ w'.cell? ⟨blk ra, ofs ra + k, none⟩ = some (.int .i64 rn)) (by kernel_rfl) (by kernel_rfl) (by kernel_rfl) ⟨c0, q0, uc0, rc0⟩ ?_
     repeat (
      refine wpHeads_cons (v := ?_) rfl (Or.inl ⟨by rfl, ?_⟩) ?_
      rotate_left
      ·(intro W hW; obtain ⟨x1, x2, x3, x4⟩ := hW; go_simp; try with_reducible rfl)
      simp only [Act.put, List.setIfInBounds_toArray, List.getElem_toArray, List.getElem_cons_zero, List.getElem_cons_succ, List.set_cons_succ, List.set_cons_zero])
     refine wpHeads_nil ?_
     refine wpTails_cons rfl ?_
     go_wp2_with fail
     have hA := grownBy_trans (grownBy_drew0 wr) (grownBy_alloc wr.drew (.cells #[.slice xa xn xc] 32))
     have hSA : (wr.drew.alloc (.cells #[.slice xa xn xc] 32)).cell? ⟨bo, 0, none⟩ = some (.slice oa k oc) ∧ (wr.drew.alloc (.cells #[.slice xa xn xc] 32)).cell? ⟨bp, 0, none⟩ = some (.slice ua lu.length uc) ∧ (wr.drew.alloc (.cells #[.slice xa xn xc] 32)).cell? ⟨blk ua, ofs ua + rn, none⟩ = some (.slice xa xn xc) ∧ (wr.drew.alloc (.cells #[.slice xa xn xc] 32)).cell? ⟨blk ra, ofs ra + k, none⟩ = some (.int .i64 rn) := ⟨hA.cell c0 (by simp), hA.cell q0 (by simp), hA.cell uc0 (by simp), hA.cell rc0 (by simp)⟩
     have HSA := Lib.hid hSA
     have hxa := HH.out.1.grown hA
     have hzz : bo + 1 ≤ (wr.drew.alloc (.cells #[.slice xa xn xc] 32)).heap.size := Nat.le_trans hB hA.size
     have HXA := Lib.hid (And.intro hxa hzz)
     clear hA hSA hxa hzz c0 c1 z0 z1 hB q0 uc0 rc0 ri0 ui0
     refine tail_mk HSA.out ?_
     refine wpTails_cons rfl ?_
     refine wp_appendS (f := fun x : Value => x) sInt2 rfl rfl _ _ rfl (bo + 1) (.slice oa k oc) os rfl (.slice (some ⟨wr.heap.size, 0, none⟩) 1 1) [.slice xa xn xc] rfl HXA.out.1.ou (src_one _ (cell_at1 rfl)) (by simp [Value.oneCell']) (by rw [HH.out.2.1]; simp; omega) (by omega) HXA.out.2 ?_
     intro v' W9 ho hg hl
     obtain ⟨s9, c9, rfl⟩ := ho.shape (n := k + 1) (by simp [HH.out.2.1])
     obtain ⟨⟨t1, t2⟩, hP⟩ := HXA.out.1.push ho hg
     have hW1 : W.heap.size ≤ bo := by have := HX.out.2.1.size; rw [HZ0.out.2]; exact this
     have nb : ∀ q : Nat, q ≤ bo → some q ≠ (Value.slice oa k oc).ownBlock := fun q hq e => by have := (HXA.out.1.ou.lt q e.symm).1; omega
     have hS9 : W9.cell? ⟨bo, 0, none⟩ = some (.slice oa k oc) ∧ W9.cell? ⟨bp, 0, none⟩ = some (.slice ua lu.length uc) ∧ W9.cell? ⟨blk ua, ofs ua + rn, none⟩ = some (.slice xa xn xc) ∧ W9.cell? ⟨blk ra, ofs ra + k, none⟩ = some (.int .i64 rn) := ⟨t1, hg.cell HSA.out.2.1 (nb _ (by show bp ≤ _; omega)), hg.cell HSA.out.2.2.1 (nb _ (by have h1 := HI.out.2.1; show blk ua ≤ _; omega)), hg.cell HSA.out.2.2.2 (nb _ (by have h1 := HR.out.2.2 k hlt; show blk ra ≤ _; omega))⟩
     have HP := Lib.hid (And.intro hP hS9)
     clear hP hS9 ho hg hl nb hW1 HXA
     refine tail_mk HP.out.2 ?_
     refine wpTails_cons rfl ?_
     go_wp2_with fail
     refine tail_mk HP.out.2 ?_
     refine wpTails_one rfl ?_
     go_wp2_with fail
     refine thenQ_mk ?_
     go_wp2_with fail
     go_roundw
     case rel => exact ⟨k + 1, s9, c9, _, by omega, by go_num, HP.out.1, Lib.hid ⟨by simp [HH.out.2.1], fun i hi => by
      rw [nth_append, HH.out.2.1]
      by_cases hik : i < k
      ·rw [if_pos hik]; exact HH.out.2.2 i hik
      ·have e : i = k := by omega
       subst e
       rw [if_neg hik, ← HI.out.1, Int.toNat_natCast, HXV.out, Nat.sub_self]; rfl⟩⟩
     case measure => simp [intOf]; omega
    ·obtain rfl : k = rep.length := by omega
     have HE := Lib.hid (And.intro hh.out hos.out)
     have HWW := Lib.hid hWw
     have r0 : wr.cell? ⟨br, 0, none⟩ = some (.slice none 0 0) := by
      rw [hw1.cell (p := ⟨br, 0, none⟩) lr]; exact HX.out.1.c0
     have r1 : wr.cell? ⟨br, 1, none⟩ = some (.slice none 0 0) := by
      rw [hw1.cell (p := ⟨br, 1, none⟩) lr]; exact HX.out.1.c1
     have f0 : wr.frozen? ⟨br, 0, none⟩ = false := by
      rw [World.frozen?_of_block (a := ⟨br, 0, none⟩) (hw1.block br lr)]; exact HX.out.1.frz 0
     have f1 : wr.frozen? ⟨br, 1, none⟩ = false := by
      rw [World.frozen?_of_block (a := ⟨br, 1, none⟩) (hw1.block br lr)]; exact HX.out.1.frz 1
     clear hh hos hw1 hWw
     go_wp2_with fail
     (try simp only [Exit.inBlock, Exit.then])
     refine bodyPost_ret (v := .tuple #[.agg #[.slice oa rep.length oc, .slice va lv.length vc], .int .i64 0]) (by rw [results_cell_tmp rfl]; go_simp; try rfl) rfl ?_
     have gs := grownBy_trans (grownBy_setCell wr ⟨br, 0, none⟩ (.slice oa rep.length oc)) (grownBy_setCell (wr.setCell ⟨br, 0, none⟩ (.slice oa rep.length oc)) ⟨br, 1, none⟩ (.slice va lv.length vc))
     have hbr := HX.out.2.2.2.1
     have hbel : Below W.heap.size W ((wr.setCell ⟨br, 0, none⟩ (.slice oa rep.length oc)).setCell ⟨br, 1, none⟩ (.slice va lv.length vc)) := (HWW.out.setCell (show W.heap.size ≤ (⟨br, 0, none⟩ : Addr).block by show _ ≤ br; omega) _).setCell (show W.heap.size ≤ (⟨br, 1, none⟩ : Addr).block by show _ ≤ br; omega) _
     refine .inr (.inr ⟨HL.out, HC.out, oa, oc, va, vc, rfl, ⟨⟨os, ?_, ?_, fun i hi => ?_⟩, ⟨vs, HG.out.2.1.below hbel⟩⟩, hbel⟩)
     ·exact (HE.out.1.ou.grown gs (by
       cases hv : (Value.slice oa rep.length oc).ownBlock with
       | none => exact .inl rfl
       | some k => exact .inr fun e => by have := (HE.out.1.ou.lt k hv).1; have e := Option.some.inj e; simp at e; omega)).lst
     ·rw [HE.out.2.1, expL_len]
     ·rw [expL_len] at hi
      rw [HE.out.2.2 i hi, expL_nth hi]
      have hck := HK.out.2 i hi
      exact (HG.out.1.2.2 _ (by have := HL.out; omega)).below hbel
  ·have q1 : (Prt.chk rep != 0) = true := by simpa using hc
   have HC := Lib.hid hc
   clear hc
   generalize hcd : Prt.chk rep = code at *
   have HCD := Lib.hid hcd
   clear hcd
   go_wp2_with fail
   (try simp only [Exit.inBlock, Exit.then])
   refine bodyPost_ret (v := .tuple #[.agg #[.slice none 0 0, .slice none 0 0], .int .i64 code]) (by rw [results_cell_tmp rfl]; go_simp; try rfl) rfl ?_
   have hbr := HX.out.2.2.2.1
   refine .inr (.inl ⟨HL.out, by rw [HCD.out]; exact HC.out, by rw [HCD.out], ?_⟩)
   exact (HX.out.2.1.setCell (show W.heap.size ≤ (⟨br, 0, none⟩ : Addr).block by show _ ≤ br; omega) _).setCell (show W.heap.size ≤ (⟨br, 1, none⟩ : Addr).block by show _ ≤ br; omega) _
 ·have q0 : ((rep.length : Int) != (lu.length : Int)) = true := by simp; omega
  have HL := Lib.hid hlen
  clear hlen
  go_enter Tryz.func15, Tryz.ntmps15
  go_wp2_with fail
  (try simp only [Exit.inBlock, Exit.then])
  refine bodyPost_ret (v := .tuple #[.agg #[.slice none 0 0, .slice none 0 0], .int .i64 20]) (by rw [results_cell_tmp rfl]; go_simp; try rfl) rfl ?_
  refine .inl ⟨HL.out, rfl, ?_⟩
  exact HB0.out
end Go.Proofs.YtgblfjccccdidaaGreat
end
section
namespace Go.Proofs.YtgblfjccccdidaaGreat
open Go.RowKit Go.Dfl Go.And
theorem PtsIn.shape {W : World} {u v : Value} {a b : List (List Int)} (h : PtsIn W u v a b) : ∃ ua uc va vc, u = .slice ua a.length uc ∧ v = .slice va b.length vc := by
 obtain ⟨⟨us, h1⟩, vs, h2⟩ := h
 obtain ⟨ua, uc, e1, -⟩ := h1.1.out1 sInt2
 obtain ⟨va, vc, e2, -⟩ := h2.1.out1 sInt2
 rw [h1.2.1] at e1
 rw [h2.2.1] at e2
 exact ⟨ua, uc, va, vc, e1, e2⟩
def FewP (a1 a2 : List (List Int)) : Prop := a1.length ≤ 50 ∧ a2.length ≤ 70 ∧ (∀ i, i < a1.length → (nth a1 i).length ≤ 40) ∧ ∀ i, i < a2.length → (nth a2 i).length ≤ 40
set_option maxHeartbeats 1600000 in
theorem Few_any (u1 u2 : Value) (a1 a2 : List (List Int)) (W : World) (hu : PtsIn W u1 u2 a1 a2) :
  Calls Tryz.prog 13 #[.agg #[u1, u2]] W (Tell (FewP a1 a2) W) := by
 obtain ⟨⟨us1, hu1⟩, us2, hu2⟩ := hu
 obtain ⟨ua1, uc1, e1, hm1, hi1, hcl1, hb1⟩ := hu1.1.out1 sInt2
 obtain ⟨ua2, uc2, e2, hm2, hi2, hcl2, hb2⟩ := hu2.1.out1 sInt2
 rw [hu1.2.1] at e1 hm1 hi1 hcl1 hb1
 rw [hu2.2.1] at e2 hm2 hi2 hcl2 hb2
 subst e1 e2
 have HU := Lib.hid (And.intro hu1 (And.intro hu2 (And.intro hcl1 (And.intro hb1 (And.intro hcl2 hb2)))))
 clear hu1 hu2 hcl1 hb1 hcl2 hb2
 have hpn := cells_new (W := W) (cs := [.slice ua1 a1.length uc1, .slice ua2 a2.length uc2]) (t := 34) rfl
 have d0' := hpn 0 _ rfl
 have d1' := hpn 1 _ rfl
 have HD := Lib.hid (And.intro d0' d1')
 clear hpn d0' d1'
 by_cases h1 : 50 < a1.length
 ·go_enter Tryz.func13, Tryz.ntmps13
  go_wp2_with fail
  go_ret
  exact ⟨false, rfl, ⟨fun h => absurd h Bool.false_ne_true, fun h => by have := h.1; omega⟩, (Below.refl _ _).alloc (Nat.le_refl _) _⟩
 ·by_cases h2 : 70 < a2.length
  ·go_enter Tryz.func13, Tryz.ntmps13
   go_wp2_with fail
   go_ret
   exact ⟨false, rfl, ⟨fun h => absurd h Bool.false_ne_true, fun h => by have := h.2.1; omega⟩, (Below.refl _ _).alloc (Nat.le_refl _) _⟩
  ·go_enter Tryz.func13, Tryz.ntmps13
   go_wp2_with fail
   refine wp_gen (fun Z => Z.cell? ⟨W.heap.size, 0, none⟩ = some (.slice ua1 a1.length uc1) ∧ Z.cell? ⟨W.heap.size, 1, none⟩ = some (.slice ua2 a2.length uc2) ∧ Below W.heap.size W Z) ⟨HD.out.1, HD.out.2, (Below.refl _ _).alloc (Nat.le_refl _) _⟩ ?_
   rintro W1 ⟨d0, d1, hb1⟩
   have H1 := Lib.hid hb1
   clear hb1
   go_loop [3] (fun x => ∃ k : Nat, k ≤ a1.length ∧ x = .int .i64 k ∧ Hid (∀ i, i < k → (nth a1 i).length ≤ 40)) (fun x => a1.length - (intOf x).toNat)
   case atStart => exact ⟨0, by omega, rfl, fun i hi => by omega⟩
   case round =>
    obtain ⟨k, hk, rfl, hh⟩ := hrel
    by_cases hlt : k < a1.length
    ·obtain ⟨ea, ec, he, -⟩ := (HU.out.1.2.2 k hlt).out1 sInt
     have hck : W1.cell? ⟨blk ua1, ofs ua1 + k, none⟩ = some (.slice ea (nth a1 k).length ec) := by rw [H1.out.cell (p := ⟨blk ua1, ofs ua1 + k, none⟩) (HU.out.2.2.2.1 k hlt), ← he]; exact HU.out.2.2.1 k hlt
     by_cases h2 : 40 < (nth a1 k).length
     ·go_wp2_with fail
      go_ret
      exact ⟨false, rfl, ⟨fun h => absurd h Bool.false_ne_true, fun h => by have := h.2.2.1 k hlt; omega⟩, H1.out⟩
     ·go_wp2_with fail
      go_round
      case rel => exact ⟨k + 1, by omega, by go_num, fun i hi => by
       by_cases e : i = k
       ·subst e; omega
       ·exact hh.out i (by omega)⟩
      case measure => simp [intOf]; omega
    ·have HE : Hid (∀ i, i < a1.length → (nth a1 i).length ≤ 40) := fun i hi => hh.out i (by omega)
     clear hh
     go_wp2_with fail
     go_loop [4] (fun x => ∃ k : Nat, k ≤ a2.length ∧ x = .int .i64 k ∧ Hid (∀ i, i < k → (nth a2 i).length ≤ 40)) (fun x => a2.length - (intOf x).toNat)
     case atStart => exact ⟨0, by omega, rfl, fun i hi => by omega⟩
     case round =>
      obtain ⟨k, hk, rfl, hh⟩ := hrel
      by_cases hlt : k < a2.length
      ·obtain ⟨ea, ec, he, -⟩ := (HU.out.2.1.2.2 k hlt).out1 sInt
       have hck : W1.cell? ⟨blk ua2, ofs ua2 + k, none⟩ = some (.slice ea (nth a2 k).length ec) := by rw [H1.out.cell (p := ⟨blk ua2, ofs ua2 + k, none⟩) (HU.out.2.2.2.2.2 k hlt), ← he]; exact HU.out.2.2.2.2.1 k hlt
       by_cases h2 : 40 < (nth a2 k).length
       ·go_wp2_with fail
        go_ret
        exact ⟨false, rfl, ⟨fun h => absurd h Bool.false_ne_true, fun h => by have := h.2.2.2 k hlt; omega⟩, H1.out⟩
       ·go_wp2_with fail
        go_round
        case rel => exact ⟨k + 1, by omega, by go_num, fun i hi => by
         by_cases e : i = k
         ·subst e; omega
         ·exact hh.out i (by omega)⟩
        case measure => simp [intOf]; omega
      ·go_wp2_with fail
       go_ret
       exact ⟨true, rfl, ⟨fun _ => ⟨by omega, by omega, HE.out, fun i hi => hh.out i (by omega)⟩, fun _ => rfl⟩, H1.out⟩
end Go.Proofs.YtgblfjccccdidaaGreat
end
section
namespace Go.Proofs.YtgblfjccccdidaaGreat
open Go.ChangeShapes Go.WideShapes Go.ChangeAt Go.RowKit Go.Dfl Go.And
set_option maxHeartbeats 1600000 in
theorem sameInts_eq (u v : Value) (l : List Int) (W : World) (hu : Ints W u l) (hv : Ints W v l) : Calls Tryz.prog 12 #[u, v] W fun e W' => e = .returned (.bool true) ∧ Qt W W' := by
 obtain ⟨a, c, rfl, hm, hi, hc, -⟩ := hu.out1 sIntC
 obtain ⟨a2, c2, rfl, -, hi2, hc2, -⟩ := hv.out1 sIntC
 have HC := Lib.hid (And.intro hc hc2)
 clear hu hv hc hc2
 go_enter Tryz.func12, Tryz.ntmps12
 go_wp2_with fail
 go_loopw [5, 13] (fun _ x wr => ∃ k : Nat, k ≤ l.length ∧ x = .int .i64 k ∧ Qt W wr) (fun _ x _ => l.length - (intOf x).toNat)
 case atStart => exact ⟨0, by omega, rfl, by exact (by first | exact Qt.refl _ | exact Qt.drewN _ _ | exact (Qt.drewN _ _).trans (Qt.drewN _ _) | exact ((Qt.drewN _ _).trans (Qt.drewN _ _)).trans (Qt.drewN _ _) | exact Qt.drew _ | exact (Qt.drewN _ _).trans (Qt.drew _))⟩
 case round =>
  obtain ⟨k, hk, rfl, ⟨nw, rfl⟩⟩ := hrel
  by_cases hlt : k < l.length
  ·have c1 := HC.out.1 k hlt
   have c2 := HC.out.2 k hlt
   have hne : (nth l k != nth l k) = false := by simp
   go_wp2_with fail
   go_quiet (fail)
   go_wp2_with fail
   go_roundw
   case rel => exact ⟨k + 1, by omega, by go_num, (by first | exact Qt.refl _ | exact Qt.drewN _ _ | exact (Qt.drewN _ _).trans (Qt.drewN _ _) | exact ((Qt.drewN _ _).trans (Qt.drewN _ _)).trans (Qt.drewN _ _) | exact Qt.drew _ | exact (Qt.drewN _ _).trans (Qt.drew _))⟩
   case measure => simp [intOf]; omega
  ·go_wp2_with fail
   go_ret
   exact ⟨rfl, (by first | exact Qt.refl _ | exact Qt.drewN _ _ | exact (Qt.drewN _ _).trans (Qt.drewN _ _) | exact ((Qt.drewN _ _).trans (Qt.drewN _ _)).trans (Qt.drewN _ _) | exact Qt.drew _ | exact (Qt.drewN _ _).trans (Qt.drew _))⟩
end Go.Proofs.YtgblfjccccdidaaGreat
end
section
namespace Go.Proofs.YtgblfjccccdidaaGreat
open Go.ChangeShapes Go.WideShapes Go.ChangeAt Go.RowKit Go.Dfl
open Go.And (R Sy InR)
def expF (lu lv : List (List Int)) (rep : List Int) : Int × List (List Int) × List (List Int) :=
 if rep.length ≠ lu.length then (20, [], []) else if Prt.chk rep ≠ 0 then (Prt.chk rep, [], []) else (0, expL lu rep, lv)
def ExW (c : Int) (A B : List (List Int)) (W : World) (e : Ending) (W' : World) : Prop :=
 ∃ ua uc va vc, e = .returned (.tuple #[.agg #[.slice ua A.length uc, .slice va B.length vc], .int .i64 c]) ∧ PtsIn W' (.slice ua A.length uc) (.slice va B.length vc) A B ∧ Below W.heap.size W W'
theorem ptsNil (W : World) : PtsIn W (.slice none 0 0) (.slice none 0 0) [] [] := ⟨⟨[], nilGridC W⟩, ⟨[], nilGridC W⟩⟩
theorem ExpR.w {lu lv : List (List Int)} {rep : List Int} {W W' : World} {e : Ending} (h : ExpR lu lv rep W e W') : ExW (expF lu lv rep).1 (expF lu lv rep).2.1 (expF lu lv rep).2.2 W e W' := by
 rcases h with ⟨h1, rfl, hb⟩ | ⟨h1, h2, rfl, hb⟩ | ⟨h1, h2, ua, uc, va, vc, rfl, ho, hb⟩
 ·have e : expF lu lv rep = (20, [], []) := if_pos h1
  rw [e]
  exact ⟨none, 0, none, 0, rfl, ptsNil _, hb⟩
 ·have e : expF lu lv rep = (Prt.chk rep, [], []) := (if_neg (by omega)).trans (if_pos h2)
  rw [e]
  exact ⟨none, 0, none, 0, rfl, ptsNil _, hb⟩
 ·have e : expF lu lv rep = (0, expL lu rep, lv) := (if_neg (by omega)).trans (if_neg (by omega))
  rw [e]
  refine ⟨ua, uc, va, vc, ?_, ?_, hb⟩ <;> dsimp only <;> rw [expL_len]
  exact ho.pts
theorem RxpR.w {lu lv : List (List Int)} {rep : List Int} {W W' : World} {e : Ending} (h : RxpR lu lv rep W e W') : ExW (expF lu lv rep).1 (expF lu lv rep).2.1 (expF lu lv rep).2.2 W e W' := by
 rcases h with ⟨h1, rfl, hb⟩ | ⟨h1, h2, rfl, hb⟩ | ⟨h1, h2, ua, uc, va, vc, rfl, ho, hb⟩
 ·have e : expF lu lv rep = (20, [], []) := if_pos h1
  rw [e]
  exact ⟨none, 0, none, 0, rfl, ptsNil _, hb⟩
 ·have e : expF lu lv rep = (Prt.chk rep, [], []) := (if_neg (by omega)).trans (if_pos h2)
  rw [e]
  exact ⟨none, 0, none, 0, rfl, ptsNil _, hb⟩
 ·have e : expF lu lv rep = (0, expL lu rep, lv) := (if_neg (by omega)).trans (if_neg (by omega))
  rw [e]
  refine ⟨ua, uc, va, vc, ?_, ?_, hb⟩ <;> dsimp only <;> rw [expL_len]
  exact ho
structure ExS (W0 : World) (pb : Nat) (u v : Value) (a b : List (List Int)) (rv : Value) (l : List Int) (Z : World) : Prop where
 p : PtsB pb u v a b Z
 r : Ints Z rv l
 bel : Below W0.heap.size W0 Z
theorem ExS.below {W0 : World} {pb : Nat} {u v : Value} {a b : List (List Int)} {rv : Value} {l : List Int} {Z Z' : World} (h : ExS W0 pb u v a b rv l Z) (hb : Below Z.heap.size Z Z') : ExS W0 pb u v a b rv l Z' := ⟨h.p.below hb, h.r.below hb, h.bel.trans (hb.mono h.bel.size)⟩
set_option maxHeartbeats 12800000 in
set_option maxRecDepth 100000 in
theorem CollapseExpand_walk (u v : Value) (a b : List (List Int)) (rv : Value) (l : List Int) (W : World) (hp : PtsIn W u v a b) (_ra : InR a) (_rb : InR b) (hl : Ints W rv l) (_hb : ∀ x ∈ l, -9223372036854775808 ≤ x ∧ x ≤ 9223372036854775807) :
  Calls Tryz.prog 4 #[.agg #[u, v], rv] W (TruePost W) := by
 obtain ⟨ua, uc, va, vc, rfl, rfl⟩ := hp.shape
 obtain ⟨ra, rc, rfl, hlm, -⟩ := hl.out1 sIntC
 have HC := Lib.hid (And.intro hp hl)
 clear hp hl _ra _rb _hb
 go_enter Tryz.func4, Tryz.ntmps4
 go_wp2_with fail
 refine calls_gen (fun Z => ExS W W.heap.size (.slice ua a.length uc) (.slice va b.length vc) a b (.slice ra l.length rc) l Z) ⟨PtsB.new HC.out.1 34, HC.out.2.below ((Below.refl _ _).alloc (Nat.le_refl _) _), (Below.refl _ _).alloc (Nat.le_refl _) _⟩ ?_
 rintro Z0 h0
 obtain ⟨bp, hbp⟩ : ∃ bp, bp = W.heap.size := ⟨_, rfl⟩
 have H0 : Hid (ExS W bp (.slice ua a.length uc) (.slice va b.length vc) a b (.slice ra l.length rc) l Z0) := by rw [hbp]; exact h0
 rw [← hbp]
 clear h0 hbp HC
 refine (Few_any _ _ a b _ H0.out.p.pts).mono ?_
 rintro e W1 ⟨b1, rfl, hb1, r1⟩
 have H1 := Lib.hid (H0.out.below r1)
 obtain ⟨p0, p1, -⟩ := H1.out.p
 clear H0
 cases b1
 ·clear hb1 p0 p1
  have hq : Below W.heap.size W W1 := H1.out.bel
  go_wp2_with fail
  refine (awake_any _).mono ?_
  rintro e W9 ⟨rfl, r9⟩
  have H9 := Lib.hid (hq.trans (r9.mono hq.size))
  clear r9
  go_wp2_with fail
  go_ret
  exact ⟨rfl, H9.out⟩
 ·have HF := Lib.hid (hb1.1 rfl)
  clear hb1
  by_cases h60 : 60 < l.length
  ·clear p0 p1
   have hq : Below W.heap.size W W1 := H1.out.bel
   go_wp2_with fail
   refine (awake_any _).mono ?_
   rintro e W9 ⟨rfl, r9⟩
   have H9 := Lib.hid (hq.trans (r9.mono hq.size))
   clear r9
   go_wp2_with fail
   go_ret
   exact ⟨rfl, H9.out⟩
  ·go_wp2_with fail
   clear p0 p1
   obtain ⟨⟨us, gu⟩, vs, gv⟩ := H1.out.p.pts
   refine (Expand_any _ _ _ us vs a b l _ gu gv H1.out.r (fun i hi => Nat.le_trans (HF.out.2.2.1 i hi) (by omega)) (fun i hi => Nat.le_trans (HF.out.2.2.2 i hi) (by omega)) (by have := HF.out.2.1; omega)).mono ?_
   clear gu gv us vs
   intro e W2 hx
   obtain ⟨u1, c1, u2, c2, rfl, hp2, r2⟩ := hx.w
   have HX := Lib.hid hp2
   obtain ⟨cd, hcd⟩ : ∃ c, c = (expF a b l).1 := ⟨_, rfl⟩
   obtain ⟨A, hA⟩ : ∃ A, A = (expF a b l).2.1 := ⟨_, rfl⟩
   obtain ⟨B, hB⟩ : ∃ B, B = (expF a b l).2.2 := ⟨_, rfl⟩
   rw [← hcd, ← hA, ← hB]
   rw [← hA, ← hB] at HX
   have HAB := Lib.hid (And.intro hcd (And.intro hA hB))
   clear hx hp2 hcd hA hB
   have ha2 : Below W2.heap.size W2 (W2.alloc (.cells #[.slice u1 A.length c1, .slice u2 B.length c2] 34)) := (Below.refl _ _).alloc (Nat.le_refl _) _
   have H2 := Lib.hid (And.intro ((H1.out.below r2).below ha2) (PtsB.new HX.out 34))
   obtain ⟨p0, p1, -⟩ := H2.out.1.p
   clear ha2 r2 H1 HX
   go_wp2_with fail
   clear p0 p1
   obtain ⟨⟨us, gu⟩, vs, gv⟩ := H2.out.1.p.pts
   refine (rExpand_any _ _ _ us vs a b l _ gu gv H2.out.1.r).mono ?_
   clear gu gv us vs
   intro e W3 hx
   obtain ⟨u3, c3, u4, c4, rfl, hp3, r3⟩ := hx.w
   rw [← HAB.out.1, ← HAB.out.2.1, ← HAB.out.2.2]
   rw [← HAB.out.2.1, ← HAB.out.2.2] at hp3
   have ha3 : Below W3.heap.size W3 (W3.alloc (.cells #[.slice u3 A.length c3, .slice u4 B.length c4] 34)) := (Below.refl _ _).alloc (Nat.le_refl _) _
   have H3 := Lib.hid (And.intro ((H2.out.1.bel.trans (r3.mono H2.out.1.bel.size)).trans (ha3.mono (H2.out.1.bel.trans (r3.mono H2.out.1.bel.size)).size)) (And.intro ((H2.out.2.below r3).below ha3) (PtsB.new hp3 34)))
   obtain ⟨p0, p1, -⟩ := H3.out.2.1
   obtain ⟨q0, q1, -⟩ := H3.out.2.2
   have w0 : (cd != cd) = false := by simp
   have w1 : ((A.length : Int) != (A.length : Int)) = false := by simp
   have w2 : ((B.length : Int) != (B.length : Int)) = false := by simp
   clear hx hp3 ha3 r3 H2
   go_wp2_with fail
   clear w0 w1 w2 p0 p1 q0 q1
   refine wp_gen (fun Z => Below W.heap.size W Z ∧ PtsB W2.heap.size (.slice u1 A.length c1) (.slice u2 B.length c2) A B Z ∧ PtsB W3.heap.size (.slice u3 A.length c3) (.slice u4 B.length c4) A B Z) H3.out ?_
   intro Y hY
   obtain ⟨b2, hb2⟩ : ∃ b, b = W2.heap.size := ⟨_, rfl⟩
   obtain ⟨b3, hb3⟩ : ∃ b, b = W3.heap.size := ⟨_, rfl⟩
   rw [← hb2, ← hb3] at hY ⊢
   clear hb2 hb3 H3
   obtain ⟨p0, p1, ⟨us1, g1⟩, vs1, k1⟩ := hY.2.1
   obtain ⟨q0, q1, ⟨us2, g2⟩, vs2, k2⟩ := hY.2.2
   obtain ⟨ea, ec, he, m1, i1, x1⟩ := grid_rdC g1
   simp only [Value.slice.injEq] at he
   obtain ⟨rfl, -, rfl⟩ := he
   obtain ⟨ea, ec, he, m2, i2, x2⟩ := grid_rdC g2
   simp only [Value.slice.injEq] at he
   obtain ⟨rfl, -, rfl⟩ := he
   obtain ⟨ea, ec, he, m3, i3, x3⟩ := grid_rdC k1
   simp only [Value.slice.injEq] at he
   obtain ⟨rfl, -, rfl⟩ := he
   obtain ⟨ea, ec, he, m4, i4, x4⟩ := grid_rdC k2
   simp only [Value.slice.injEq] at he
   obtain ⟨rfl, -, rfl⟩ := he
   have HY := Lib.hid hY.1
   have HG := Lib.hid (And.intro g1.2.2 (And.intro g2.2.2 (And.intro k1.2.2 k2.2.2)))
   have HX := Lib.hid (And.intro x1 (And.intro x2 (And.intro x3 x4)))
   clear hY g1 g2 k1 k2 x1 x2 x3 x4 m2 m4
   go_loopw [9, 56] (fun _ x wr => ∃ k : Nat, k ≤ A.length ∧ x = .int .i64 k ∧ Qt Y wr) (fun _ x _ => A.length - (intOf x).toNat)
   case atStart => exact ⟨0, by omega, rfl, by exact (by first | exact Qt.refl _ | exact Qt.drewN _ _ | exact (Qt.drewN _ _).trans (Qt.drewN _ _) | exact ((Qt.drewN _ _).trans (Qt.drewN _ _)).trans (Qt.drewN _ _) | exact Qt.drew _ | exact (Qt.drewN _ _).trans (Qt.drew _))⟩
   case round =>
    obtain ⟨k, hk, rfl, ⟨nw, rfl⟩⟩ := hrel
    by_cases hlt : k < A.length
    ·obtain ⟨ya, yc, hy1, -, -, -, -⟩ := Sliced.out1 (HG.out.1 k hlt) sIntC
     obtain ⟨za, zc, hz1, -, -, -, -⟩ := Sliced.out1 (HG.out.2.1 k hlt) sIntC
     have r1 := (HX.out.1 k hlt).1
     have r2 := (HX.out.2.1 k hlt).1
     have y1 := (HG.out.1 k hlt)
     have y2 := (HG.out.2.1 k hlt)
     rw [hy1] at r1 y1
     rw [hz1] at r2 y2
     have hcall : ∀ q, Calls Tryz.prog 12 #[.slice ya (nth A k).length yc, .slice za (nth A k).length zc] (Y.drewN q) fun e w' => e = .returned (.bool true) ∧ Qt (Y.drewN q) w' := fun q => sameInts_eq _ _ (nth A k) _ (y1.qt (Qt.drewN _ _)) (y2.qt (Qt.drewN _ _))
     obtain ⟨lm, hlm⟩ : ∃ m, m = (nth A k).length := ⟨_, rfl⟩
     rw [← hlm] at r1 r2 hcall
     have HCall := Lib.hid hcall
     clear hcall hlm y1 y2 hy1 hz1
     have j1 := i1 .i64 (k : Int) (by omega) (by omega)
     have j2 := i2 .i64 (k : Int) (by omega) (by omega)
     go_wp2_with fail
     go_quiet ((go_at_call 12; first | exact Qt.quiet2 (HCall.out _) | exact Qt.quiet (HCall.out _)))
     go_wp2_with fail
     go_roundw
     case rel => exact ⟨k + 1, by omega, by go_num, (by first | exact Qt.refl _ | exact Qt.drewN _ _ | exact (Qt.drewN _ _).trans (Qt.drewN _ _) | exact ((Qt.drewN _ _).trans (Qt.drewN _ _)).trans (Qt.drewN _ _) | exact Qt.drew _ | exact (Qt.drewN _ _).trans (Qt.drew _))⟩
     case measure => simp [intOf]; omega
    ·go_wp2_with fail
     clear hk hlt i1 i2
     go_loopw [10, 75] (fun _ x wr => ∃ k : Nat, k ≤ B.length ∧ x = .int .i64 k ∧ Qt Y wr) (fun _ x _ => B.length - (intOf x).toNat)
     case atStart => exact ⟨0, by omega, rfl, by exact (by first | exact Qt.refl _ | exact Qt.drewN _ _ | exact (Qt.drewN _ _).trans (Qt.drewN _ _) | exact ((Qt.drewN _ _).trans (Qt.drewN _ _)).trans (Qt.drewN _ _) | exact Qt.drew _ | exact (Qt.drewN _ _).trans (Qt.drew _))⟩
     case round =>
      obtain ⟨k, hk, rfl, ⟨nw, rfl⟩⟩ := hrel
      by_cases hlt : k < B.length
      ·obtain ⟨ya, yc, hy1, -, -, -, -⟩ := Sliced.out1 (HG.out.2.2.1 k hlt) sIntC
       obtain ⟨za, zc, hz1, -, -, -, -⟩ := Sliced.out1 (HG.out.2.2.2 k hlt) sIntC
       have r1 := (HX.out.2.2.1 k hlt).1
       have r2 := (HX.out.2.2.2 k hlt).1
       have y1 := (HG.out.2.2.1 k hlt)
       have y2 := (HG.out.2.2.2 k hlt)
       rw [hy1] at r1 y1
       rw [hz1] at r2 y2
       have hcall : ∀ q, Calls Tryz.prog 12 #[.slice ya (nth B k).length yc, .slice za (nth B k).length zc] (Y.drewN q) fun e w' => e = .returned (.bool true) ∧ Qt (Y.drewN q) w' := fun q => sameInts_eq _ _ (nth B k) _ (y1.qt (Qt.drewN _ _)) (y2.qt (Qt.drewN _ _))
       obtain ⟨lm, hlm⟩ : ∃ m, m = (nth B k).length := ⟨_, rfl⟩
       rw [← hlm] at r1 r2 hcall
       have HCall := Lib.hid hcall
       clear hcall hlm y1 y2 hy1 hz1
       have j1 := i3 .i64 (k : Int) (by omega) (by omega)
       have j2 := i4 .i64 (k : Int) (by omega) (by omega)
       go_wp2_with fail
       go_quiet ((go_at_call 12; first | exact Qt.quiet2 (HCall.out _) | exact Qt.quiet (HCall.out _)))
       go_wp2_with fail
       go_roundw
       case rel => exact ⟨k + 1, by omega, by go_num, (by first | exact Qt.refl _ | exact Qt.drewN _ _ | exact (Qt.drewN _ _).trans (Qt.drewN _ _) | exact ((Qt.drewN _ _).trans (Qt.drewN _ _)).trans (Qt.drewN _ _) | exact Qt.drew _ | exact (Qt.drewN _ _).trans (Qt.drew _))⟩
       case measure => simp [intOf]; omega
      ·clear p0 p1 q0 q1 i3 i4
       have hq := below_drewN HY.out nw
       go_wp2_with fail
       refine (awake_any _).mono ?_
       rintro e W9 ⟨rfl, r9⟩
       have H9 := Lib.hid (hq.trans (r9.mono hq.size))
       clear r9
       go_wp2_with fail
       go_ret
       exact ⟨rfl, H9.out⟩
set_option maxRecDepth 100000 in
theorem CollapseExpand_lifted (os : Os) (started : os.Started) (H : Type) (enc : TypeId × Value → H) :
  ReturnsInHanded {} Tryz.checked os 4 .any (Rows.collapseExpandSpec.pre6 enc Tryz.prog Tryz.f4 Rows.collapseExpandRow.domain false) (Rows.collapseExpandSpec.post enc Tryz.prog Tryz.f4 false true false false) := by
 refine returnsInHanded_of_change (C := Tryz.checked) own started (by kernel_rfl) Tryz.func4
  (ChangeSpec.witness6 (enc := enc) (C := Tryz.checked) false ⟨#[], #[.agg #[.slice none 0 0, .slice none 0 0], .slice none 0 0], []⟩ 8 (by kernel_rfl) (by kernel_rfl) (by kernel_rfl) (by kernel_rfl)) ?_
 intro W base args ds gs before hval0 hW hcnd _
 have hval : ∀ (j : Nat) t v, Tryz.f4.params[j]? = some t → args[j]? = some v → Value.okWide Tryz.prog W .any base t v := hval0
 have hW' := hW
 obtain ⟨p, q, hA0, hV, rfl, hfz, hnd⟩ := hW
 have hA : DataW.TrodAll enc Tryz.prog W 0 (fun _ => true) true Tryz.f4.params.toList args.toList ds p := hA0
 rw [Tryz.params4] at hA hval
 obtain ⟨v0, vs0, d0, ds0, p0, q0, hargs, rfl, rfl, h0, r0⟩ := trodAll_cons hA
 obtain ⟨v1, vs1, d1, ds1, p1, q1, rfl, rfl, rfl, h1, r1⟩ := trodAll_cons r0
 obtain ⟨rfl, rfl, rfl⟩ := trodAll_nil r1
 obtain rfl : args = #[v0, v1] := by cases args; simp_all
 obtain ⟨rfl, rfl⟩ := trodVars_none hV
 obtain ⟨c0, rfl, sz0⟩ := okWide_struct Tryz.underlying34 (hval 0 34 v0 rfl rfl)
 have k0 := h0
 obtain ⟨pu0, pv0, pa0, pb0, pus0, pvs0, eq0, g0, gg0, r10, r20⟩ := pts_of_trod sz0 h0
 obtain rfl : c0 = #[pu0, pv0] := by simpa using eq0
 have lt0 : ∀ x ∈ p0, x.block < W.heap.size := by obtain ⟨m, hm⟩ := k0; exact DataW.trod_lt m _ _ _ hm
 obtain ⟨a1, len1, cap1, rfl⟩ := okWide_slice Tryz.underlying32 (hval 1 32 v1 rfl rfl)
 have k1 := h1
 have lt1 : ∀ x ∈ p1, x.block < W.heap.size := by obtain ⟨m, hm⟩ := k1; exact DataW.trod_lt m _ _ _ hm
 obtain ⟨l1, hl1, hI1, b1⟩ := ints_of_trod Tryz.underlying32 Tryz.underlying3 (by kernel_rfl) h1
 clear hA0 hval0
 refine (CollapseExpand_walk pu0 pv0 pa0 pb0 _ l1 W ⟨⟨pus0, g0⟩, pvs0, gg0⟩ r10 r20 hI1 b1).mono fun e W' ⟨he, bel⟩ => ?_
 subst he
 exact ⟨_, rfl, _, _, _, [], _, [], hW', trodAll_mk1 (shut_bool Tryz.underlying4 _), (trodAll_cons_mk (Below.trod laidOut (by kernel_rfl) (of_decide_eq_true (by kernel_rfl)) k0 bel lt0) (trodAll_cons_mk (Below.trod laidOut (by kernel_rfl) (of_decide_eq_true (by kernel_rfl)) k1 bel lt1) trodAll_mk0)), rfl, bel.frame _, fun h => by cases h⟩
theorem CollapseExpand_holds : Rows.CollapseExpandSaid :=
 OpenClaim.holds_of_wide 4 Tryz.f4 rfl rfl rfl rfl rfl rfl rfl ⟨rfl, rfl, rfl, rfl, rfl⟩ rfl rfl rfl rfl rfl (by kernel_rfl) Tryz.func4 (by kernel_rfl)
  (of_decide_eq_true (by kernel_rfl)) (by unfold Func.isWrapper; first | (rw [if_pos (by decide +kernel)]; kernel_rfl) | (rw [if_neg (by decide +kernel)]; exact ⟨rfl, rfl⟩))
  (fun os started H enc _ => CollapseExpand_lifted os started H enc)
end Go.Proofs.YtgblfjccccdidaaGreat
end
