/- CollapseAcyclic: for any system with at most 24 variables, 6 sites and 3 fields, the reduced system has no cycles and is its own reduction, each representative is the least variable of its cycle, and at least as many variables are merged as the cycles show. Conditions: none. -/
import Derived.WalkKit
import Derived.Lib.Hide
import Derived.WalkSpells
import Derived.Deep.QuietTactic
import Derived.BigQuiet
import Derived.WalkLawsBesides
import Derived.ChangeKeysEq
import Derived.StillTailTactics
import Derived.Test.YtgblfjccccdidaaGreatRows
import Derived.Laws.CopyOwn
import Derived.Deep.AppendLies
import Derived.Deep.RegionHeld3
import Derived.StillTail
import Derived.OrdersHeld
import Derived.Maps.OwnSet
import Derived.DeepKeys4
import Derived.OneCell
import Derived.Laws.EntriesVeiled
import Derived.Deep.LoopGhost
import Derived.Laws.ResultCell
import Derived.Shelf.SlSortCmp.Whole1
import Derived.Shelf.SlicesE.DeleteFunc
import Derived.Deep.RegionLaw
import Derived.Shelf.SlSortCmp.NoneTotal
import Derived.Shelf.SlSortCmp.WholeK
import Derived.Shelf.SlSorted.Search
import Derived.Shelf.SlicesE.Clone
import Derived.Test.YtgblfjccccdidaaGreatProg
import Derived.Sort.Grow
import Derived.Laws.StructEq
import Derived.Lib.SliceRun
import Derived.Shelf.SlicesE.Kit
import Derived.RangeFuncNested
import Derived.RangeFuncWrites
import Derived.RangeFuncBound
import Derived.RangeFuncCalls
import Derived.RangeFuncLeaves
import Derived.Shelf.Abstract
import Derived.Shelf.RegionOpen
import Derived.OwnWalkIn
import Derived.TacticsInMore
import Derived.LoopNIn
import Derived.LoopIn
import Derived.RegionIn
import Derived.Maps.OwnIn
import Derived.Sort.CutIn
import Derived.Maps.AppendAt
import Derived.Deep.Cut
import Derived.ProofKit
import Derived.OpenShut
import Derived.ShutString
import Derived.ChangeOld
import Derived.Deep.SlicePairs
import Derived.Deep.Slices
import Derived.Test.YtgblfjccccdidaaGreatVb
section
namespace Go.Dfl
open Go.RowKit
section
variable {α : Type} [Inhabited α] {f : α → Value} {P : Program} {t e : TypeId} {z : Value} {by8 : Nat}
end
section
variable {β : Type} [Inhabited β] {I : World → Nat → Value → β → Prop} {w w' : World} {base : Nat} {eo : TypeId} {v : Value} {vs : List Value} {ll : List β}
end
end Go.Dfl
namespace Go.Dfl
open Go.RowKit
section
variable {α : Type} (E : El α)
variable {E}
variable {w w' : World} {base : Nat} {e : TypeId} {v : Value} {l : List α}
end
end Go.Dfl
namespace Go.Dfl
section
variable {P : Program} {ops : Array Oper} {Q : Exit → Act → World → Prop} {md : Region.Mode} {S : World → Prop} {n : Nat}
end
end Go.Dfl
namespace Go.Dfl
section
variable {P : Program} {ops : Array Oper} {Q : Exit → Act → World → Prop} {S : World → Prop}
end
end Go.Dfl
namespace Go.Dfl
open Go.Maps
section
variable {P : Program} {k e t : TypeId} {w w' : World} {b n : Nat} {l : List Value}
end
end Go.Dfl
namespace Go.Dfl
inductive Plan where
 | done : Plan
 | stop : Plan
 | take : Nat → Plan → Plan
 | alt : Nat → Plan → Plan → Plan
section
variable {P : Program} {ops : Array Oper} {Q : Exit → Act → World → Prop} {S : World → Prop}
def Plan.alts : Plan → List Nat
 | .alt i _ r => i :: r.alts
 | _ => []
def Plan.dep : Plan → Nat
 | .done => 0
 | .stop => 0
 | .take _ p => p.dep + 1
 | .alt _ p r => max (p.dep + 1) r.dep
def planB (ops : Array Oper) : Plan → Array Bool → Bool → Bool
 | .done, l, _ => (Region.ready .any ops l).isEmpty
 | .stop, _, c => c
 | .take i p, l, _ => (Region.ready .any ops l).contains i && Region.free .any ops l i && planB ops p (l.setIfInBounds i true) false
 | .alt i p r, l, c => (c || decide (Region.ready .any ops l = i :: r.alts)) && planB ops p (l.setIfInBounds i true) false && planB ops r l true
def planWp (P : Program) (ops : Array Oper) (S : World → Prop) (Q : Exit → Act → World → Prop) : Plan → Act → World → Prop
 | .done, a, w => Q .normal a w
 | .stop, _, _ => True
 | .take i p, a, w => ∃ o, ops[i]? = some o ∧ ∃ v, YieldsIf P ops S o v a ∧ planWp P ops S Q p (a.put o.dst v) w
 | .alt i p r, a, w => (∃ o, ops[i]? = some o ∧ wpList P ops (ThenQ (fun a' w' => S w' ∧ planWp P ops S Q p a' w') Q) [o] a w) ∧ planWp P ops S Q r a w
theorem plan_sound (hsel : Region.noSelect ops = true) : ∀ (p : Plan),
  (∀ (l : Array Bool) (a : Act) (w : World) (fuel : Nat), planB ops p l false = true → S w → planWp P ops S Q p a w → p.dep ≤ fuel → wpAnyH P .any ops (NoPanic Q) S fuel l a w) ∧
  (∀ (l : Array Bool) (a : Act) (w : World) (fuel : Nat), planB ops p l true = true → S w → planWp P ops S Q p a w → p.dep ≤ fuel + 1 → ∀ i ∈ p.alts, wpOp P ops (NoPanic Q) i (fun a' w' => S w' ∧ wpAnyH P .any ops (NoPanic Q) S fuel (l.setIfInBounds i true) a' w') a w)
 | .done => ⟨fun l a w fuel hB _ h _ => wpAnyH_done (Q := NoPanic Q) (by simpa [planB] using hB) h fuel, fun _ _ _ _ _ _ _ _ i hi => (nomatch hi)⟩
 | .stop => ⟨fun _ _ _ _ hB _ _ _ => (nomatch hB), fun _ _ _ _ _ _ _ _ i hi => (nomatch hi)⟩
 | .take i p => by
   refine ⟨fun l a w fuel hB hS h hd => ?_, fun _ _ _ _ _ _ _ _ i hi => (nomatch hi)⟩
   simp only [planB, Bool.and_eq_true] at hB
   obtain ⟨⟨hr, hf⟩, hB⟩ := hB
   obtain ⟨o, ho, v, hy, h⟩ := h
   simp only [Plan.dep] at hd
   obtain ⟨f, rfl⟩ : ∃ f, fuel = f + 1 := ⟨fuel - 1, by omega⟩
   exact wpAnyH_take ho hsel hf hr (fun c a w h => h) hy hS ((plan_sound hsel p).1 _ _ w f hB hS h (by omega))
 | .alt i p r => by
   have key : ∀ (l : Array Bool) (a : Act) (w : World) (fuel : Nat), planB ops p (l.setIfInBounds i true) false = true → planB ops r l true = true → S w → planWp P ops S Q (.alt i p r) a w → (Plan.alt i p r).dep ≤ fuel + 1 →
     ∀ j ∈ (Plan.alt i p r).alts, wpOp P ops (NoPanic Q) j (fun a' w' => S w' ∧ wpAnyH P .any ops (NoPanic Q) S fuel (l.setIfInBounds j true) a' w') a w := by
    intro l a w fuel hp hr hS h hd j hj
    obtain ⟨⟨o, ho, h1⟩, h2⟩ := h
    simp only [Plan.dep] at hd
    rcases List.mem_cons.1 hj with rfl | hj
    ·exact wpOp_mono (fun a' w' h' => ⟨h'.1, (plan_sound hsel p).1 _ a' w' fuel hp h'.1 h'.2 (by omega)⟩) (wpOp_of_then ho h1)
    ·exact (plan_sound hsel r).2 l a w fuel hr hS h2 (by omega) j hj
   refine ⟨fun l a w fuel hB hS h hd => ?_, fun l a w fuel hB hS h hd => ?_⟩
   ·simp only [planB, Bool.and_eq_true, Bool.false_or, decide_eq_true_eq] at hB
    obtain ⟨⟨hr, hp⟩, hB⟩ := hB
    obtain ⟨f, rfl⟩ : ∃ f, fuel = f + 1 := ⟨fuel - 1, by simp only [Plan.dep] at hd; omega⟩
    exact wpAnyH_all hr (by simp) (key l a w f hp hB hS h hd)
   ·simp only [planB, Bool.and_eq_true] at hB
    exact key l a w fuel hB.1.2 hB.2 hS h hd
theorem wp_region_plan {id : Nat} {a : Act} {w : World} {l : List Oper} (p : Plan) (S : World → Prop) (hm : P.follows .mixedOrders = true) (hsel : Region.noSelect l.toArray = true) (hB : planB l.toArray p (Array.replicate l.length false) false = true) (hd : decide (p.dep ≤ l.length) = true) (hS : S w.drew)
  (h : planWp P l.toArray S Q p a w.drew) : (Code.region id l.toArray true).wp P Q a w := by
 refine wp_region_noPanic (wp_region_held (S := S) hm ?_)
 rw [show l.toArray.size = l.length by simp]
 exact (plan_sound hsel p).1 _ a w.drew _ hB hS h (by simpa using hd)
theorem plan_take {i : Nat} {p : Plan} {a : Act} {w : World} {o : Oper} {v : Value} (ho : ops[i]? = some o) (hy : YieldsIf P ops S o v a) (h : planWp P ops S Q p (a.put o.dst v) w) : planWp P ops S Q (.take i p) a w := ⟨o, ho, v, hy, h⟩
theorem plan_alt {i : Nat} {p r : Plan} {a : Act} {w : World} {o : Oper} (ho : ops[i]? = some o) (h1 : wpList P ops (ThenQ (fun a' w' => S w' ∧ planWp P ops S Q p a' w') Q) [o] a w) (h2 : planWp P ops S Q r a w) : planWp P ops S Q (.alt i p r) a w := ⟨⟨o, ho, h1⟩, h2⟩
theorem plan_stop {a : Act} {w : World} : planWp P ops S Q .stop a w := trivial
theorem plan_done {a : Act} {w : World} (h : Q .normal a w) : planWp P ops S Q .done a w := h
end
end Go.Dfl
end
section
namespace Go.Clp
open Go.Dfl (nth nth_set nth_mem mem_nth nth_eq nth_ext nth_append nth_out take_snoc)
open Go.Tj (Rt Sc IsHd)
open Go.And (R Sy)
section
variable {E : Nat → Nat → Prop} {n : Nat} {l : List Int}
theorem Lds.eq_iff (h : Lds E n l) {v w : Nat} (hv : v < n) (hw : w < n) : nth l v = nth l w ↔ Sc E v w := by
 obtain ⟨a, h1, h2⟩ := h.2 v hv
 obtain ⟨b, k1, k2⟩ := h.2 w hw
 rw [h1, k1]
 constructor
 ·intro e
  obtain rfl : a = b := by omega
  exact h2.1.trans k2.1.symm
 ·intro e
  rw [(h2.congr e).unique k2]
end
end Go.Clp
end
section
namespace Go.Proofs.YtgblfjccccdidaaGreat
open Go.RowKit Go.Dfl Go.And
theorem below2' (W : World) (a b : Obj) : Below W.heap.size W ((W.alloc a).alloc b) := ((Below.refl W.heap.size W).alloc (Nat.le_refl _) a).alloc (by simp) b
end Go.Proofs.YtgblfjccccdidaaGreat
end
section
namespace Go.Proofs.YtgblfjccccdidaaGreat
open Go.ChangeShapes Go.WideShapes Go.ChangeAt Go.RowKit Go.Dfl Go.And
set_option maxHeartbeats 1600000 in
theorem sameInts_eq (u v : Value) (l : List Int) (W : World) (hu : Ints W u l) (hv : Ints W v l) : Calls Tryz.prog 12 #[u, v] W fun e W' => e = .returned (.bool true) ∧ Qt W W' := by
 obtain ⟨a, c, rfl, hm, hi, hc, -⟩ := hu.out1 sIntC
 obtain ⟨a2, c2, rfl, -, hi2, hc2, -⟩ := hv.out1 sIntC
 have HC := Lib.hid (And.intro hc hc2)
 clear hu hv hc hc2
 go_enter Tryz.func12, Tryz.ntmps12
 go_wp2_with fail
 go_loopw [5, 13] (fun _ x wr => ∃ k : Nat, k ≤ l.length ∧ x = .int .i64 k ∧ Qt W wr) (fun _ x _ => l.length - (intOf x).toNat)
 case atStart => exact ⟨0, by omega, rfl, by exact (by first | exact Qt.refl _ | exact Qt.drewN _ _ | exact (Qt.drewN _ _).trans (Qt.drewN _ _) | exact ((Qt.drewN _ _).trans (Qt.drewN _ _)).trans (Qt.drewN _ _) | exact Qt.drew _ | exact (Qt.drewN _ _).trans (Qt.drew _))⟩
 case round =>
  obtain ⟨k, hk, rfl, ⟨nw, rfl⟩⟩ := hrel
  by_cases hlt : k < l.length
  ·have c1 := HC.out.1 k hlt
   have c2 := HC.out.2 k hlt
   have hne : (nth l k != nth l k) = false := by simp
   go_wp2_with fail
   go_quiet (fail)
   go_wp2_with fail
   go_roundw
   case rel => exact ⟨k + 1, by omega, by go_num, (by first | exact Qt.refl _ | exact Qt.drewN _ _ | exact (Qt.drewN _ _).trans (Qt.drewN _ _) | exact ((Qt.drewN _ _).trans (Qt.drewN _ _)).trans (Qt.drewN _ _) | exact Qt.drew _ | exact (Qt.drewN _ _).trans (Qt.drew _))⟩
   case measure => simp [intOf]; omega
  ·go_wp2_with fail
   go_ret
   exact ⟨rfl, (by first | exact Qt.refl _ | exact Qt.drewN _ _ | exact (Qt.drewN _ _).trans (Qt.drewN _ _) | exact ((Qt.drewN _ _).trans (Qt.drewN _ _)).trans (Qt.drewN _ _) | exact Qt.drew _ | exact (Qt.drewN _ _).trans (Qt.drew _))⟩
structure TwoS (ba bb : Nat) (t : Sy) (va vb : Value) (W Z : World) : Prop where
 a : SysB ba t va Z
 b : SysB bb t vb Z
 bel : Below W.heap.size W Z
theorem TwoS.below {ba bb : Nat} {t : Sy} {va vb : Value} {W Z Z' : World} (h : TwoS ba bb t va vb W Z) (hb : Below Z.heap.size Z Z') : TwoS ba bb t va vb W Z' := ⟨h.a.below hb, h.b.below hb, h.bel.trans (hb.mono h.bel.size)⟩
theorem TwoS.new {W : World} {t : Sy} {va vb : Value} (hx : ConsIn W va t.cons) (hy : ConsIn W vb t.cons) (ty : TypeId) :
  TwoS W.heap.size (W.heap.size + 1) t va vb W ((W.alloc (.cells #[.int .i64 t.vars, .int .i64 t.sites, .int .i64 t.fields, va] ty)).alloc (.cells #[.int .i64 t.vars, .int .i64 t.sites, .int .i64 t.fields, vb] ty)) := by
 have ha1 : Below W.heap.size W (W.alloc (.cells #[.int .i64 t.vars, .int .i64 t.sites, .int .i64 t.fields, va] ty)) := (Below.refl _ _).alloc (Nat.le_refl _) _
 have h1 := SysB.new hx ty
 have h2 := SysB.new (hy.below ha1) ty
 have ha2 := (Below.refl _ (W.alloc (.cells #[.int .i64 t.vars, .int .i64 t.sites, .int .i64 t.fields, va] ty))).alloc (Nat.le_refl _) (.cells #[.int .i64 t.vars, .int .i64 t.sites, .int .i64 t.fields, vb] ty)
 have hs : (W.alloc (.cells #[.int .i64 t.vars, .int .i64 t.sites, .int .i64 t.fields, va] ty)).heap.size = W.heap.size + 1 := by simp only [World.size_alloc]
 refine ⟨h1.below ha2, ?_, below2' W _ _⟩
 rw [hs] at h2
 exact h2
set_option maxHeartbeats 6400000 in
set_option maxRecDepth 100000 in
theorem sameSys_eq (t : Sy) (xa : Option Addr) (xc : Nat) (ya : Option Addr) (yc : Nat) (W : World) (hx : ConsIn W (.slice xa t.cons.length xc) t.cons) (hy : ConsIn W (.slice ya t.cons.length yc) t.cons) (htl : t.cons.length ≤ 101) :
  Calls Tryz.prog 21 #[SysV t (.slice xa t.cons.length xc), SysV t (.slice ya t.cons.length yc)] W (TruePost W) := by
 have HT := Lib.hid (TwoS.new (t := t) hx hy 24)
 clear hx hy
 have w1 : (t.vars != t.vars) = false := by simp
 have w2 : (t.sites != t.sites) = false := by simp
 have w3 : (t.fields != t.fields) = false := by simp
 have w4 : ((t.cons.length : Int) != (t.cons.length : Int)) = false := by simp
 unfold SysV
 go_enter Tryz.func21, Tryz.ntmps21
 go_wp2_with fail
 clear w1 w2 w3 w4
 refine wp_gen (fun Z => TwoS W.heap.size (W.heap.size + 1) t (.slice xa t.cons.length xc) (.slice ya t.cons.length yc) W Z) HT.out ?_
 rintro Z4 h4
 obtain ⟨ba, hba⟩ : ∃ b, b = W.heap.size := ⟨_, rfl⟩
 obtain ⟨bb, hbb⟩ : ∃ b, b = W.heap.size + 1 := ⟨_, rfl⟩
 rw [← hbb, ← hba]
 have H4 : Hid (TwoS ba bb t (.slice xa t.cons.length xc) (.slice ya t.cons.length yc) W Z4) := by rw [hba, hbb]; exact h4
 clear h4 HT hbb hba
 go_loopw [5, 6, 7, 39] (fun _ _ _ x wr => ∃ i : Nat, i ≤ t.cons.length ∧ x = .int .i64 i ∧ Hid (TwoS ba bb t (.slice xa t.cons.length xc) (.slice ya t.cons.length yc) W wr)) (fun _ _ _ x _ => t.cons.length - (intOf x).toNat)
 case atStart => exact ⟨0, by omega, rfl, H4.out⟩
 case round =>
  clear H4
  obtain ⟨i, hi, rfl, hh⟩ := hrel
  by_cases hil : i < t.cons.length
  ·obtain ⟨a1, c1, e1, hm1, i1, hc1⟩ := hh.out.a.cons.out
   obtain ⟨a2, c2, e2, -, i2, hc2⟩ := hh.out.b.cons.out
   simp only [Value.slice.injEq] at e1 e2
   obtain ⟨rfl, -, rfl⟩ := e1
   obtain ⟨rfl, -, rfl⟩ := e2
   obtain ⟨sa, sn, sc, p0, p1, p2, p3, p4, hI1, -⟩ := hc1 i hil
   obtain ⟨sa2, sn2, sc2, q0, q1, q2, q3, q4, hI2, -⟩ := hc2 i hil
   obtain ⟨-, -, -, y3⟩ := hh.out.a.box
   obtain ⟨-, -, -, z3⟩ := hh.out.b.box
   obtain ⟨c, hc⟩ : ∃ c, c = nth t.cons i := ⟨_, rfl⟩
   rw [← hc] at p0 p1 p2 p3 q0 q1 q2 q3 hI1 hI2
   clear hc
   obtain ⟨ck, c_a, c_b, c_f, c_s⟩ := c
   dsimp only at p0 p1 p2 p3 q0 q1 q2 q3 hI1 hI2
   have HH := Lib.hid (And.intro hh.out (And.intro hI1 hI2))
   have w0 : (ck != ck) = false := by simp
   have w1 : (c_a != c_a) = false := by simp
   have w2 : (c_b != c_b) = false := by simp
   have w3 : (c_f != c_f) = false := by simp
   clear hc1 hc2 hI1 hI2 hh
   go_wp2_with fail
   refine wp_region_plan (.take 0 (.take 1 (.take 2 (.take 3 (.take 4 (.take 5 (.take 6 (.take 7 (.take 8 (.take 9 (.alt 10 (.alt 11 (.alt 12 (.alt 13 .done .stop) .stop) .stop) (.alt 11 (.alt 10 (.alt 12 (.alt 13 .done .stop) .stop) .stop) .stop))))))))))))
    (fun w' => Below wr.heap.size wr w') (by kernel_rfl) (by kernel_rfl) (by kernel_rfl) (by kernel_rfl) (below_drewN (Below.refl _ _) 1) ?_
   have gv := below_drewN (Below.refl wr.heap.size wr) 1
   rw [show wr.drewN 1 = wr.drew from rfl] at gv
   generalize wr.drew = V at *
   have GV := Lib.hid gv
   clear gv
   repeat (
    refine plan_take (v := ?_) rfl (Or.inl ⟨by rfl, ?_⟩) ?_
    rotate_left
    ·(intro W' hW'; have a3 := (grownBy_below hW').cell y3 (by simp); have b3 := (grownBy_below hW').cell z3 (by simp); have c0 := (grownBy_below hW').cell p0 (by simp); have c1 := (grownBy_below hW').cell p1 (by simp); have c2 := (grownBy_below hW').cell p2 (by simp); have c3 := (grownBy_below hW').cell p3 (by simp); have c4 := (grownBy_below hW').cell p4 (by simp); have e0 := (grownBy_below hW').cell q0 (by simp); have e1 := (grownBy_below hW').cell q1 (by simp); have e2 := (grownBy_below hW').cell q2 (by simp); have e3 := (grownBy_below hW').cell q3 (by simp); have e4 := (grownBy_below hW').cell q4 (by simp); go_simp; try with_reducible rfl)
    simp only [Act.put, List.setIfInBounds_toArray])
   clear y3 z3 p0 p1 p2 p3 p4 q0 q1 q2 q3 q4
   refine plan_alt rfl ?_ ?_
   ·go_wp2_with fail
    refine tail_mk (GV.out.alloc GV.out.size _) ?_
    refine plan_alt rfl ?_ plan_stop
    go_wp2_with fail
    refine tail_mk ((GV.out.alloc GV.out.size _).alloc (le_alloc _ GV.out.size) _) ?_
    refine plan_alt rfl ?_ plan_stop
    go_wp2_with fail
    refine tail_mk ((GV.out.alloc GV.out.size _).alloc (le_alloc _ GV.out.size) _) ?_
    refine plan_alt rfl ?_ plan_stop
    go_wp2_with fail
    refine tail_mk ((GV.out.alloc GV.out.size _).alloc (le_alloc _ GV.out.size) _) ?_
    refine plan_done ?_
    go_wp2_with fail
    have g4 := (GV.out.alloc GV.out.size (.cells #[.int .i64 ck, .int .i64 c_a, .int .i64 c_b, .int .i64 c_f, .slice sa sn sc] 48)).alloc (le_alloc _ GV.out.size) (.cells #[.int .i64 ck, .int .i64 c_a, .int .i64 c_b, .int .i64 c_f, .slice sa2 sn2 sc2] 48)
    refine (sameInts_eq _ _ c_s _ (HH.out.2.1.below g4) (HH.out.2.2.below g4)).mono ?_
    rintro e W9 ⟨rfl, n9, rfl⟩
    have G4 := Lib.hid g4
    clear g4
    go_wp2_with fail
    go_roundw
    case rel => exact ⟨i + 1, by omega, by go_num, HH.out.1.below (below_drewN G4.out _)⟩
    case measure => simp [intOf]; omega
   ·refine plan_alt rfl ?_ plan_stop
    go_wp2_with fail
    refine tail_mk (GV.out.alloc GV.out.size _) ?_
    refine plan_alt rfl ?_ plan_stop
    go_wp2_with fail
    refine tail_mk ((GV.out.alloc GV.out.size _).alloc (le_alloc _ GV.out.size) _) ?_
    refine plan_alt rfl ?_ plan_stop
    go_wp2_with fail
    refine tail_mk ((GV.out.alloc GV.out.size _).alloc (le_alloc _ GV.out.size) _) ?_
    refine plan_alt rfl ?_ plan_stop
    go_wp2_with fail
    refine tail_mk ((GV.out.alloc GV.out.size _).alloc (le_alloc _ GV.out.size) _) ?_
    refine plan_done ?_
    go_wp2_with fail
    have g4 := (GV.out.alloc GV.out.size (.cells #[.int .i64 ck, .int .i64 c_a, .int .i64 c_b, .int .i64 c_f, .slice sa2 sn2 sc2] 48)).alloc (le_alloc _ GV.out.size) (.cells #[.int .i64 ck, .int .i64 c_a, .int .i64 c_b, .int .i64 c_f, .slice sa sn sc] 48)
    refine (sameInts_eq _ _ c_s _ (HH.out.2.1.below g4) (HH.out.2.2.below g4)).mono ?_
    rintro e W9 ⟨rfl, n9, rfl⟩
    have G4 := Lib.hid g4
    clear g4
    go_wp2_with fail
    go_roundw
    case rel => exact ⟨i + 1, by omega, by go_num, HH.out.1.below (below_drewN G4.out _)⟩
    case measure => simp [intOf]; omega
  ·obtain rfl : i = t.cons.length := by omega
   have HH := Lib.hid hh.out.bel
   clear hh
   go_wp2_with fail
   go_ret
   exact ⟨rfl, HH.out⟩
theorem sameSys_eqm (t : Sy) (m : Nat) (hm : m = t.cons.length) (xa : Option Addr) (xc : Nat) (ya : Option Addr) (yc : Nat) (W : World) (hx : ConsIn W (.slice xa m xc) t.cons) (hy : ConsIn W (.slice ya m yc) t.cons) (htl : t.cons.length ≤ 101) :
  Calls Tryz.prog 21 #[SysV t (.slice xa m xc), SysV t (.slice ya m yc)] W (TruePost W) := by
 subst hm
 exact sameSys_eq t xa xc ya yc W hx hy htl
end Go.Proofs.YtgblfjccccdidaaGreat
end
section
namespace Go.Clp
open Go.Dfl (nth nth_set nth_mem mem_nth nth_eq nth_ext nth_append nth_out take_snoc)
open Go.Tj (Rt Sc IsHd offH)
open Go.And (R Sy C Syst Vld VldC Sm)
section
variable {s : Sy} {l : List Int}
theorem red_edge (hv : Vld s) {a b : Nat} (h : eI (copE (red s l).cons) a b) : ∃ x y, eI (copE s.cons) x y ∧ (a : Int) = nth l x ∧ (b : Int) = nth l y ∧ a ≠ b ∧ x < s.vars.toNat ∧ y < s.vars.toNat := by
 obtain ⟨d, hd, h2, h3, h4⟩ := mem_copE.1 h
 obtain ⟨⟨c, hc, rfl⟩, hb⟩ := red_mem.1 hd
 have hk : c.k = 2 := h2
 have hcv := hv.cons c hc
 have ha := hcv.a
 rw [if_neg (by omega)] at ha
 have h5 : nth l c.a.toNat = (a : Int) := by have h3 : (if c.k = 1 then c.a else nth l c.a.toNat) = (a : Int) := h3; rwa [if_neg (by omega)] at h3
 have h6 : nth l c.b.toNat = (b : Int) := h4
 have e1 : ((c.a.toNat : Nat) : Int) = c.a := by omega
 have e2 : ((c.b.toNat : Nat) : Int) = c.b := by have := hcv.b; omega
 refine ⟨c.a.toNat, c.b.toNat, mem_copE.2 ⟨c, hc, hk, by simp [e1], by simp [e2]⟩, h5.symm, h6.symm, fun e => ?_, by omega, by have := hcv.b; omega⟩
 subst e
 unfold redB at hb
 have h7 : (redC l c).a = (redC l c).b := h3.trans h4.symm
 have h8 : (redC l c).k = 2 := hk
 simp [h7, h8] at hb
theorem rt_red (hv : Vld s) (hl : Lds (eI (copE s.cons)) s.vars.toNat l) {a b : Nat} (h : Rt (eI (copE (red s l).cons)) a b) : Rt (eI (copE s.cons)) a b := by
 induction h with
 | refl => exact .refl _
 | step _ h2 ih =>
   obtain ⟨x, y, he, h3, h4, -, h5, h6⟩ := red_edge hv h2
   have hx := (hl.hd h5).1
   have hy := (hl.hd h6).1
   rw [← h3] at hx
   rw [← h4] at hy
   exact ih.trans ((hx.2.trans (.one he)).trans hy.1)
theorem rt_heads (hv : Vld s) (hl : Lds (eI (copE s.cons)) s.vars.toNat l) {a b : Nat} (h : Rt (eI (copE (red s l).cons)) a b) : a = b ∨ (nth l a = (a : Int) ∧ nth l b = (b : Int) ∧ a < s.vars.toNat ∧ b < s.vars.toNat) := by
 induction h with
 | refl => exact .inl rfl
 | @step b c _ h2 ih =>
   obtain ⟨x, y, he, h3, h4, -, h5, h6⟩ := red_edge hv h2
   have hx := hl.le h5
   have hy := hl.le h6
   have sx := hl.self h5
   have sy := hl.self h6
   rw [← h3] at sx hx
   rw [← h4] at sy hy
   have sx : nth l b = (b : Int) := sx
   have sy : nth l c = (c : Int) := sy
   right
   rcases ih with rfl | ⟨h7, -, h8, -⟩
   ·exact ⟨sx, sy, by omega, by omega⟩
   ·exact ⟨h7, sy, h8, by omega⟩
theorem red_triv (hv : Vld s) (hl : Lds (eI (copE s.cons)) s.vars.toNat l) {m : List Int} (hm : Lds (eI (copE (red s l).cons)) s.vars.toNat m) {v : Nat} (hvn : v < s.vars.toNat) : nth m v = (v : Int) := by
 have hle := hm.le hvn
 have hh := (hm.hd hvn).1
 rcases rt_heads hv hl hh.1 with h | ⟨h1, h2, h3, h4⟩
 ·omega
 ·have := (hl.eq_iff h3 h4).2 ⟨rt_red hv hl hh.1, rt_red hv hl hh.2⟩
  omega
theorem sorted_one {k : Int} : ∀ {c : List Int}, c.Pairwise (· < ·) → (∀ x ∈ c, x = k) → c.length ≤ 1
 | [], _, _ => by simp
 | [_], _, _ => by simp
 | a :: b :: _, h, he => by
   have h1 := List.rel_of_pairwise_cons h (List.mem_cons_self (a := b))
   have h2 := he a (by simp)
   have h3 := he b (by simp)
   omega
theorem cycL_id {m : List Int} {n : Nat} (h : ∀ v, v < n → nth m v = (v : Int)) : cycL m n = [] := by
 unfold cycL
 rw [List.filter_eq_nil_iff]
 intro c hc
 obtain ⟨k, hk, rfl⟩ := List.mem_map.1 hc
 have := sorted_one (k := (k : Int)) (memL_sorted m n k) fun x hx => by
  obtain ⟨v, rfl, h1, h2⟩ := mem_memL.1 hx
  rw [← h v h1, h2]
 unfold bigB
 simp; omega
theorem red_id {t : Sy} {m : List Int} (hv : Vld t) (hb : ∀ c ∈ t.cons, redB c = true) (h : ∀ v, v < t.vars.toNat → nth m v = (v : Int)) : red t m = t := by
 have hv0 := hv.vars
 have e : t.cons.map (redC m) = t.cons := by
  have : ∀ c ∈ t.cons, redC m c = c := fun c hc => by
   have hcv := hv.cons c hc
   have hbb := hcv.b
   have haa := hcv.a
   unfold redC
   have e2 : nth m c.b.toNat = c.b := by rw [h _ (by omega)]; omega
   have e1 : (if c.k = 1 then c.a else nth m c.a.toNat) = c.a := by
    by_cases h1 : c.k = 1
    ·rw [if_pos h1]
    ·rw [if_neg h1] at haa ⊢
     rw [h _ (by omega)]; omega
   rw [e1, e2]
  rw [List.map_congr_left this]; simp
 unfold red redL
 rw [e, List.filter_eq_self.2 hb]
theorem red_red (hv : Vld s) (hl : Lds (eI (copE s.cons)) s.vars.toNat l) {m : List Int} (hm : Lds (eI (copE (red s l).cons)) s.vars.toNat m) : red (red s l) m = red s l :=
 red_id (red_vld hv hl) (fun _ hc => (red_mem.1 hc).2) fun _ h => red_triv hv hl hm h
end
def mrgD (cyc : List (List Int)) : List Int := cyc.flatMap fun c => c.drop 1
theorem mrgD_snoc {cyc : List (List Int)} {k : Nat} (h : k < cyc.length) : (mrgD (cyc.take (k + 1))).length = (mrgD (cyc.take k)).length + ((nth cyc k).length - 1) := by
 unfold mrgD
 rw [take_snoc _ _ h, List.flatMap_append]
 simp
theorem mrgD_take (cyc : List (List Int)) (k : Nat) : (mrgD (cyc.take k)).length ≤ (mrgD cyc).length := by
 have : (mrgD cyc) = mrgD (cyc.take k) ++ mrgD (cyc.drop k) := by
  unfold mrgD
  rw [← List.flatMap_append, List.take_append_drop]
 rw [this, List.length_append]; omega
theorem mrgD_prs (cyc : List (List Int)) : mrgD cyc = (prs cyc).map Prod.snd := by
 unfold mrgD prs
 rw [List.map_flatMap]
 congr
 funext c
 simp [tailP, Function.comp_def]
theorem cyc_mem {E : Nat → Nat → Prop} {l : List Int} {n : Nat} (hl : Lds E n l) {c : List Int} (hc : c ∈ cycL l n) {k : Nat} (hk : k < c.length) : 0 ≤ nth c k ∧ nth c k < n ∧ nth l (nth c k).toNat = nth c 0 := by
 obtain ⟨⟨h, hh, rfl⟩, -⟩ := mem_cycL.1 hc
 obtain ⟨v, hv, h1, h2⟩ := mem_memL.1 (nth_mem _ _ hk)
 rw [hv, (memL_head hl hh).2]
 exact ⟨by omega, by omega, h2⟩
theorem prs_nd {E : Nat → Nat → Prop} {l : List Int} {n : Nat} (hl : Lds E n l) : (prs (cycL l n)).Pairwise fun p q => p.2 ≠ q.2 := by
 have hmem : ∀ c ∈ cycL l n, ∀ p ∈ tailP c, p.1 = key c ∧ p ∈ prs (cycL l n) := fun c hc p hp => by
  refine ⟨?_, List.mem_flatMap.2 ⟨c, hc, hp⟩⟩
  obtain ⟨v, -, rfl⟩ := List.mem_map.1 hp
  rfl
 unfold prs
 rw [List.pairwise_flatMap]
 refine ⟨fun c hc => ?_, ?_⟩
 ·unfold tailP
  rw [List.pairwise_map]
  obtain ⟨⟨h, hh, rfl⟩, -⟩ := mem_cycL.1 hc
  exact ((memL_sorted l n h).drop (i := 1)).imp fun h => by dsimp only; omega
 ·refine List.Pairwise.imp_of_mem (fun {a b} ha hb hab p hp q hq e => ?_) (cycL_sorted hl)
  obtain ⟨h1, h2⟩ := hmem a ha p hp
  obtain ⟨h3, h4⟩ := hmem b hb q hq
  obtain ⟨v, -, rfl, -⟩ := mem_prs hl h2
  obtain ⟨w, -, rfl, -⟩ := mem_prs hl h4
  dsimp only at h1 h3 e
  have : v = w := by omega
  subst this
  omega
theorem mrgD_le {E F : Nat → Nat → Prop} {l hd : List Int} {n : Nat} (hl : Lds E n l) (hF : ∀ v, v < n → ∃ m : Nat, nth hd v = (m : Int) ∧ IsHd F v m) (hEF : ∀ a b, E a b → F a b) : (mrgD (cycL l n)).length ≤ offH n hd := by
 rw [mrgD_prs]
 have h1 := Go.Gra.nodup_le ((prs (cycL l n)).map Prod.snd) (((List.range n).filter fun v => decide (0 ≤ nth hd v ∧ nth hd v ≠ (v : Int))).map fun v : Nat => (v : Int)) (by
  unfold List.Nodup
  rw [List.pairwise_map]
  exact prs_nd hl) fun x hx => by
  obtain ⟨p, hp, rfl⟩ := List.mem_map.1 hx
  obtain ⟨v, hv, rfl, hne⟩ := mem_prs hl hp
  refine List.mem_map.2 ⟨v, List.mem_filter.2 ⟨List.mem_range.2 hv, ?_⟩, rfl⟩
  obtain ⟨m, hm, hh⟩ := hF v hv
  have hle := hl.le hv
  have h2 := hh.2 _ (sc_imp hEF (hl.hd hv).1)
  rw [hm]
  simp; omega
 rw [List.length_map (f := fun v : Nat => (v : Int))] at h1
 exact h1
theorem eI_edT {s : Sy} {lu : List (List Int)} {a b : Nat} (h : eI (copE s.cons) a b) : edT s lu s.cons.length (a, b) := by
 obtain ⟨c, hc, h2, h3, h4⟩ := mem_copE.1 h
 obtain ⟨i, hi, rfl⟩ := mem_nth hc
 refine ⟨i, hi, ?_⟩
 dsimp only at h3 h4
 unfold edR
 rw [if_pos h2, h3, h4]
 simp
end Go.Clp
end
section
namespace Go.Proofs.YtgblfjccccdidaaGreat
open Go.ChangeShapes Go.WideShapes Go.ChangeAt Go.RowKit Go.Dfl Go.Clp Go.Tj
open Go.And (R Sy Vld Sm chkCode chkCode_ok colC colC_ok colC_sm chkG_ok Syst)
structure Fk where
 p : World → Prop
 k : ∀ Z Z', p Z → Below Z.heap.size Z Z' → p Z'
structure AcI (W0 : World) (bs : Nat) (s : Sy) (cv : Value) (L : List Fk) (Z : World) : Prop where
 sys : SysB bs s cv Z
 bel : Below W0.heap.size W0 Z
 all : ∀ q ∈ L, q.p Z
theorem AcI.below {W0 : World} {bs : Nat} {s : Sy} {cv : Value} {L : List Fk} {Z Z' : World} (h : AcI W0 bs s cv L Z) (hb : Below Z.heap.size Z Z') : AcI W0 bs s cv L Z' := ⟨h.sys.below hb, h.bel.trans (hb.mono h.bel.size), fun q hq => q.k _ _ (h.all q hq) hb⟩
theorem AcI.add {W0 : World} {bs : Nat} {s : Sy} {cv : Value} {L : List Fk} {Z : World} (h : AcI W0 bs s cv L Z) {q : Fk} (hq : q.p Z) : AcI W0 bs s cv (q :: L) Z := ⟨h.sys, h.bel, fun r hr => by
 rcases List.mem_cons.1 hr with rfl | hr
 ·exact hq
 ·exact h.all r hr⟩
def fkSys (pb : Nat) (t : Sy) (cv : Value) : Fk := ⟨SysB pb t cv, fun _ _ h hb => h.below hb⟩
def fkInts (v : Value) (l : List Int) : Fk := ⟨fun Z => Ints Z v l, fun _ _ h hb => h.below hb⟩
def fkGrid (v : Value) (vs : List Value) (ll : List (List Int)) : Fk := ⟨fun Z => Grid (Value.int .i64) Z v vs ll, fun _ _ h hb => h.below hb⟩
set_option maxHeartbeats 12800000 in
set_option maxRecDepth 100000 in
theorem CollapseAcyclic_walk (s : Sy) (cv : Value) (W : World) (hc : ConsIn W cv s.cons) :
  Calls Tryz.prog 6 #[SysV s cv] W (TruePost W) := by
 obtain ⟨ca, cc, rfl, -⟩ := hc.out
 have HC := Lib.hid hc
 clear hc
 unfold SysV
 go_enter Tryz.func6, Tryz.ntmps6
 go_wp2_with fail
 refine calls_gen (fun Z => AcI W W.heap.size s (.slice ca s.cons.length cc) [] Z) ⟨SysB.new HC.out 24, (Below.refl _ _).alloc (Nat.le_refl _) _, fun q hq => by simp at hq⟩ ?_
 rintro Z0 h0
 obtain ⟨bs, hbs⟩ : ∃ bs, bs = W.heap.size := ⟨_, rfl⟩
 have H0 : Hid (AcI W bs s (.slice ca s.cons.length cc) [] Z0) := by rw [hbs]; exact h0
 rw [← hbs]
 clear h0 hbs HC
 refine (rSml_any s (.slice ca s.cons.length cc) _ H0.out.sys.cons).mono ?_
 rintro e W1 ⟨b1, rfl, hb1, r1⟩
 have H1 := Lib.hid (H0.out.below r1)
 obtain ⟨d0, d1, d2, d3⟩ := H1.out.sys.box
 clear H0
 cases b1
 ·go_wp2_with fail
  refine (awake_any _).mono ?_
  rintro e W2 ⟨rfl, r2⟩
  clear d0 d1 d2 d3
  have H2 := Lib.hid (H1.out.bel.trans (r2.mono H1.out.bel.size))
  clear r2 hb1
  go_wp2_with fail
  go_ret
  exact ⟨rfl, H2.out⟩
 ·have hsm := (hb1.1 rfl).sm
  have HSM := Lib.hid hsm
  clear hsm hb1
  go_wp2_with fail
  refine (awake_any _).mono ?_
  rintro e W2 ⟨rfl, r2⟩
  clear d0 d1 d2 d3
  have H2 := Lib.hid (H1.out.below r2)
  obtain ⟨d0, d1, d2, d3⟩ := H2.out.sys.box
  clear H1
  go_wp2_with fail
  clear d0 d1 d2 d3
  refine (gCycles_any s (.slice ca s.cons.length cc) _ H2.out.sys.cons (by have := HSM.out.cons; omega)).mono ?_
  rintro e W3 (⟨h0, rfl, r3⟩ | ⟨h0, l, cv0, vs, rfl, hl, hg, r3⟩)
  ·have hz : (colC s != 0) = true := by simpa using h0
   have H3 := Lib.hid (H2.out.bel.trans (r3.mono H2.out.bel.size))
   clear h0 r3
   go_wp2_with fail
   go_ret
   exact ⟨rfl, H3.out⟩
  ·have hv := chkCode_ok.1 (chkG_ok (colC_ok h0).1).1
   have HV := Lib.hid (And.intro h0 (And.intro hv hl))
   have H3 := Lib.hid ((H2.out.below r3).add (q := fkGrid cv0 vs (cycL l s.vars.toNat)) hg)
   obtain ⟨d0, d1, d2, d3⟩ := H3.out.sys.box
   clear h0 hv hl hg r3 H2
   go_wp2_with fail
   clear d0 d1 d2 d3
   refine (gReduce_any s (.slice ca s.cons.length cc) _ H3.out.sys.cons (by have := HSM.out.cons; omega)).mono ?_
   rintro e W4 (⟨hbad, -⟩ | ⟨-, l', ra, rc, rv, rfl, hl, hct, hir, r4⟩)
   ·exact absurd HV.out.1 hbad
   obtain rfl := HV.out.2.2.unique hl
   have HT := Lib.hid (And.intro (red_vld HV.out.2.1 hl) (red_sm (l := l) HSM.out))
   obtain ⟨m, hm⟩ : ∃ m, m = (redL l s.cons).length := ⟨_, rfl⟩
   rw [← hm] at hct ⊢
   have hct : ConsIn W4 (.slice ra m rc) (red s l).cons := hct
   rw [show SysV (red s l) (.slice ra m rc) = .agg #[.int .i64 s.vars, .int .i64 s.sites, .int .i64 s.fields, .slice ra m rc] from rfl]
   have ha4 : Below W4.heap.size W4 (W4.alloc (.cells #[.int .i64 s.vars, .int .i64 s.sites, .int .i64 s.fields, .slice ra m rc] 24)) := (Below.refl _ _).alloc (Nat.le_refl _) _
   have hs4 : SysB W4.heap.size (red s l) (.slice ra m rc) (W4.alloc (.cells #[.int .i64 s.vars, .int .i64 s.sites, .int .i64 s.fields, .slice ra m rc] 24)) := SysB.new hct 24
   have H4 := Lib.hid (((((H3.out.below r4).add (q := fkInts rv l) hir).below ha4).add (q := fkSys W4.heap.size (red s l) (.slice ra m rc)) hs4))
   obtain ⟨d0, d1, d2, d3⟩ := hs4.box
   have d0 : World.cell? _ ⟨W4.heap.size, 0, none⟩ = some (.int .i64 s.vars) := d0
   have d1 : World.cell? _ ⟨W4.heap.size, 1, none⟩ = some (.int .i64 s.sites) := d1
   have d2 : World.cell? _ ⟨W4.heap.size, 2, none⟩ = some (.int .i64 s.fields) := d2
   have HM := Lib.hid hm
   clear hl hct ha4 hs4 hir r4 H3 hm
   go_wp2_with fail
   clear d0 d1 d2 d3
   refine (gCycles_any (red s l) (.slice ra m rc) _ (H4.out.all _ (.head _)).cons (by have := HT.out.2.cons; omega)).mono ?_
   rintro e W5 (⟨hbad, -⟩ | ⟨-, l1, cv1, vs1, rfl, hl1, hg1, r5⟩)
   ·exact absurd (by rw [colC_sm HT.out.2]; exact chkCode_ok.2 HT.out.1) hbad
   have hg1 : Grid (Value.int .i64) W5 cv1 vs1 (cycL l1 s.vars.toNat) := hg1
   rw [cycL_id (fun v hv => red_triv HV.out.2.1 HV.out.2.2 hl1 hv)] at hg1
   obtain ⟨na, nc, rfl, -, -, -⟩ := grid_rdC hg1
   rw [show ([] : List (List Int)).length = 0 from rfl]
   have H5 := Lib.hid (H4.out.below r5)
   obtain ⟨d0, d1, d2, d3⟩ := (H5.out.all _ (.head _)).box
   have d0 : World.cell? _ ⟨W4.heap.size, 0, none⟩ = some (.int .i64 s.vars) := d0
   have d1 : World.cell? _ ⟨W4.heap.size, 1, none⟩ = some (.int .i64 s.sites) := d1
   have d2 : World.cell? _ ⟨W4.heap.size, 2, none⟩ = some (.int .i64 s.fields) := d2
   clear hl1 hg1 r5 H4
   go_wp2_with fail
   clear d0 d1 d2 d3
   refine (gReduce_any (red s l) (.slice ra m rc) _ (H5.out.all _ (.head _)).cons (by have := HT.out.2.cons; omega)).mono ?_
   rintro e W6 (⟨hbad, -⟩ | ⟨-, l2, ta, tc, tv, rfl, hl2, hct, hir, r6⟩)
   ·exact absurd (by rw [colC_sm HT.out.2]; exact chkCode_ok.2 HT.out.1) hbad
   have hrr := red_red HV.out.2.1 HV.out.2.2 hl2
   have hrl : redL l2 (red s l).cons = (red s l).cons := congrArg Sy.cons hrr
   have hrm : (redL l2 (red s l).cons).length = m := by rw [hrl, HM.out]; rfl
   rw [hrm] at hct ⊢
   rw [hrr]
   have hct : ConsIn W6 (.slice ta m tc) (red s l).cons := by rw [hrl] at hct; exact hct
   have HI := Lib.hid (And.intro hl2 (fun v (hv : v < s.vars.toNat) => red_triv HV.out.2.1 HV.out.2.2 hl2 hv))
   rw [show SysV (red s l) (.slice ta m tc) = .agg #[.int .i64 s.vars, .int .i64 s.sites, .int .i64 s.fields, .slice ta m tc] from rfl]
   have ha6 : Below W6.heap.size W6 (W6.alloc (.cells #[.int .i64 s.vars, .int .i64 s.sites, .int .i64 s.fields, .slice ta m tc] 24)) := (Below.refl _ _).alloc (Nat.le_refl _) _
   have hs6 : SysB W6.heap.size (red s l) (.slice ta m tc) (W6.alloc (.cells #[.int .i64 s.vars, .int .i64 s.sites, .int .i64 s.fields, .slice ta m tc] 24)) := SysB.new hct 24
   have H6 := Lib.hid (((((H5.out.below r6).add (q := fkInts tv l2) hir).below ha6).add (q := fkSys W6.heap.size (red s l) (.slice ta m tc)) hs6))
   obtain ⟨d0, d1, d2, d3⟩ := H6.out.sys.box
   clear hl2 hrr hrl hrm hct ha6 hs6 hir r6 H5
   go_wp2_with fail
   clear d0 d1 d2 d3
   refine (gSolve_any s (.slice ca s.cons.length cc) _ H6.out.sys.cons HSM.out).mono ?_
   rintro e W7 (⟨hbad, -⟩ | ⟨-, ua, uc, va, vc, lu, lv, hd, rfl, -, hsol, hfin, r7⟩)
   ·exact absurd HV.out.1 hbad
   obtain ⟨n, hn⟩ : ∃ n : Nat, n = offH s.S.vars hd := ⟨_, rfl⟩
   have HN := Lib.hid (And.intro (show n ≤ 40 by have h1 := off_le s.S.vars hd; have h2 : s.S.vars = s.vars.toNat := rfl; have h3 := HSM.out.vars; omega) (show (mrgD (cycL l s.vars.toNat)).length ≤ n by
    rw [hn]
    exact mrgD_le (F := eF s lu) HV.out.2.2 (fun v hv => hfin.2 v (Nat.lt_of_lt_of_le hv (Nat.le_add_right _ _))) fun a b h => eI_edT h))
   rw [← hn]
   have ha7 : Below W7.heap.size W7 (W7.alloc (.cells #[.slice ua s.S.vars uc, .slice va (s.S.sites * s.S.fields) vc] 34)) := (Below.refl _ _).alloc (Nat.le_refl _) _
   have H7 := Lib.hid ((H6.out.below r7).below ha7)
   obtain ⟨cyc, hcy⟩ : ∃ c, c = cycL l s.vars.toNat := ⟨_, rfl⟩
   rw [← hcy] at H7 HN
   have HCY := Lib.hid (show ∀ i, i < cyc.length → 1 ≤ (nth cyc i).length ∧ (nth cyc i).length ≤ 40 ∧ ∀ k, k < (nth cyc i).length → 0 ≤ nth (nth cyc i) k ∧ nth (nth cyc i) k < l.length ∧ nth l (nth (nth cyc i) k).toNat = nth (nth cyc i) 0 from fun i hi => by
    have hm := nth_mem _ _ hi
    rw [hcy] at hm
    obtain ⟨⟨h, -, he⟩, h2⟩ := mem_cycL.1 hm
    rw [← hcy] at he h2
    have h3 := memL_len l s.vars.toNat h
    have h4 := HSM.out.vars
    refine ⟨by omega, by rw [he]; omega, fun k hk => ?_⟩
    rw [HV.out.2.2.1]
    exact cyc_mem HV.out.2.2 (by rw [← hcy]; exact nth_mem _ _ hi) hk)
   clear hn hsol hfin r7 ha7 H6 hcy
   obtain ⟨d0, d1, d2, d3⟩ := H7.out.sys.box
   obtain ⟨e0, e1, e2, e3⟩ := (H7.out.all _ (.tail _ (.tail _ (.head _)))).box
   obtain ⟨f0, f1, f2, f3⟩ := (H7.out.all _ (.head _)).box
   have e0 : World.cell? _ ⟨W4.heap.size, 0, none⟩ = some (.int .i64 s.vars) := e0
   have e1 : World.cell? _ ⟨W4.heap.size, 1, none⟩ = some (.int .i64 s.sites) := e1
   have e2 : World.cell? _ ⟨W4.heap.size, 2, none⟩ = some (.int .i64 s.fields) := e2
   have f0 : World.cell? _ ⟨W6.heap.size, 0, none⟩ = some (.int .i64 s.vars) := f0
   have f1 : World.cell? _ ⟨W6.heap.size, 1, none⟩ = some (.int .i64 s.sites) := f1
   have f2 : World.cell? _ ⟨W6.heap.size, 2, none⟩ = some (.int .i64 s.fields) := f2
   obtain ⟨pa, pc, rfl, -, -, -, -⟩ := Sliced.out1 (H7.out.all _ (.tail _ (.tail _ (.tail _ (.head _))))) sIntC
   obtain ⟨qa, qc, rfl, -, -, -, -⟩ := Sliced.out1 (H7.out.all _ (.tail _ (.head _))) sIntC
   obtain ⟨ga, gc, rfl, -, -, -⟩ := grid_rdC (H7.out.all _ (.tail _ (.tail _ (.tail _ (.tail _ (.head _))))))
   have hq1 : ((l.length : Int) != s.vars) = false := by
    have h1 := HV.out.2.2.1
    have h2 := HV.out.2.1.vars
    simp; omega
   have hq2 : ((l2.length : Int) != s.vars) = false := by
    have h1 : l2.length = s.vars.toNat := HI.out.1.1
    have h2 := HV.out.2.1.vars
    simp; omega
   go_wp2_with fail
   clear d0 d1 d2 d3 e0 e1 e2 e3 f0 f1 f2 f3
   refine (sameSys_eqm (red s l) m HM.out ra rc ta tc _ (H7.out.all _ (.tail _ (.tail _ (.head _)))).cons (H7.out.all _ (.head _)).cons HT.out.2.cons).mono ?_
   rintro e W8 ⟨rfl, r8⟩
   have H8 := Lib.hid (H7.out.below r8)
   obtain ⟨d0, d1, d2, d3⟩ := H8.out.sys.box
   clear H7
   go_wp2_with fail
   clear d0 d1 d2 d3
   clear hq1 hq2
   obtain ⟨pa2, pc2, hp2, -, pi, pcell, -⟩ := Sliced.out1 (H8.out.all _ (.tail _ (.tail _ (.tail _ (.head _))))) sIntC
   simp only [Value.slice.injEq] at hp2
   obtain ⟨rfl, -, rfl⟩ := hp2
   obtain ⟨qa2, qc2, hq2, -, qi, qcell, -⟩ := Sliced.out1 (H8.out.all _ (.tail _ (.head _))) sIntC
   simp only [Value.slice.injEq] at hq2
   obtain ⟨rfl, -, rfl⟩ := hq2
   have hgr := H8.out.all _ (.tail _ (.tail _ (.tail _ (.tail _ (.head _)))))
   obtain ⟨ga2, gc2, hg2, hcl, gi, gcell⟩ := grid_rdC hgr
   simp only [Value.slice.injEq] at hg2
   obtain ⟨rfl, -, rfl⟩ := hg2
   have HQ := Lib.hid qcell
   have HP := Lib.hid pcell
   have HG := Lib.hid (And.intro hgr.2.2 gcell)
   have HB8 := Lib.hid H8.out.bel
   clear qcell pcell hgr gcell H8
   have hb2 : l2.length ≤ 40 := by have h1 : l2.length = s.vars.toNat := HI.out.1.1; have h2 := HSM.out.vars; omega
   have hb1 : l.length ≤ 40 := by have h1 := HV.out.2.2.1; have h2 := HSM.out.vars; omega
   go_loopw [16, 99] (fun _ x wr => ∃ k : Nat, k ≤ l2.length ∧ x = .int .i64 k ∧ Qt W8 wr) (fun _ x _ => l2.length - (intOf x).toNat)
   case atStart => exact ⟨0, by omega, rfl, by exact (by first | exact Qt.refl _ | exact Qt.drewN _ _ | exact (Qt.drewN _ _).trans (Qt.drewN _ _) | exact ((Qt.drewN _ _).trans (Qt.drewN _ _)).trans (Qt.drewN _ _) | exact Qt.drew _ | exact (Qt.drewN _ _).trans (Qt.drew _))⟩
   case round =>
    obtain ⟨k, hk, rfl, ⟨nw, rfl⟩⟩ := hrel
    by_cases hlt : k < l2.length
    ·have c1 := HQ.out k hlt
     have c2 : nth l2 k = (k : Int) := HI.out.2 k (by have h1 : l2.length = s.vars.toNat := HI.out.1.1; omega)
     rw [c2] at c1
     have hne : ((k : Int) != (k : Int)) = false := by simp
     clear c2
     go_wp2_with fail
     go_roundw
     case rel => exact ⟨k + 1, by omega, by go_num, (by first | exact Qt.refl _ | exact Qt.drewN _ _ | exact (Qt.drewN _ _).trans (Qt.drewN _ _) | exact ((Qt.drewN _ _).trans (Qt.drewN _ _)).trans (Qt.drewN _ _) | exact Qt.drew _ | exact (Qt.drewN _ _).trans (Qt.drew _))⟩
     case measure => simp [intOf]; omega
    ·go_wp2_with fail
     clear hk hlt qi
     go_loopw [14, 17, 18, 19, 111, 127] (fun y _ _ _ x _ wr => ∃ i : Nat, ∃ z : Int, i ≤ cyc.length ∧ x = .int .i64 i ∧ y = .int .i64 z ∧ 0 ≤ z ∧ z ≤ 40 ∧ Hid (z + ((mrgD (cyc.take i)).length : Int) = (n : Int)) ∧ Qt W8 wr) (fun _ _ _ _ x _ _ => cyc.length - (intOf x).toNat)
     case atStart => exact ⟨0, (n : Int), by omega, rfl, rfl, by omega, by have := HN.out.1; omega, Lib.hid (by simp [mrgD]), by exact (by first | exact Qt.refl _ | exact Qt.drewN _ _ | exact (Qt.drewN _ _).trans (Qt.drewN _ _) | exact ((Qt.drewN _ _).trans (Qt.drewN _ _)).trans (Qt.drewN _ _) | exact Qt.drew _ | exact (Qt.drewN _ _).trans (Qt.drew _))⟩
     case round =>
      obtain ⟨i, z, hi, rfl, rfl, hz0, hz1, hz, ⟨nw, rfl⟩⟩ := hrel
      by_cases hlt : i < cyc.length
      ·obtain ⟨hc1, hc2, hc3⟩ := HCY.out i hlt
       have hstep := mrgD_snoc (cyc := cyc) hlt
       have htot := Nat.le_trans (mrgD_take cyc (i + 1)) HN.out.2
       have hz2 : 0 ≤ z - (nth cyc i).length + 1 ∧ z - (nth cyc i).length + 1 ≤ 40 := by have := hz.out; omega
       have HZ := Lib.hid (show (z - (nth cyc i).length + 1) + ((mrgD (cyc.take (i + 1))).length : Int) = (n : Int) by have := hz.out; omega)
       obtain ⟨hz2, hz3⟩ := hz2
       have hrow : Ints W8 (nth vs i) (nth cyc i) := HG.out.1 i hlt
       obtain ⟨ya, yc, hyv, -, yi, ycell, -⟩ := hrow.out1 sIntC
       have gi0 := gi .i64 (i : Int) (by omega) (by omega)
       have gc0 := (HG.out.2 i hlt).1
       rw [hyv] at gc0
       obtain ⟨c, hc⟩ : ∃ c, c = nth cyc i := ⟨_, rfl⟩
       rw [← hc] at gc0 yi ycell hc1 hc2 hc3 hz2 hz3 HZ
       have HY := Lib.hid ycell
       have HC3 := Lib.hid hc3
       clear hstep htot hz hc hyv hrow ycell hc3
       go_wp2_with fail
       go_loopw [18, 19, 127] (fun _ _ x wr => ∃ k : Nat, k ≤ c.length ∧ x = .int .i64 k ∧ Qt W8 wr) (fun _ _ x _ => c.length - (intOf x).toNat)
       case atStart => exact ⟨0, by omega, rfl, by exact (by first | exact Qt.refl _ | exact Qt.drewN _ _ | exact (Qt.drewN _ _).trans (Qt.drewN _ _) | exact ((Qt.drewN _ _).trans (Qt.drewN _ _)).trans (Qt.drewN _ _) | exact Qt.drew _ | exact (Qt.drewN _ _).trans (Qt.drew _))⟩
       case round =>
        obtain ⟨k, hk, rfl, ⟨nw2, rfl⟩⟩ := hrel
        by_cases hkl : k < c.length
        ·obtain ⟨h1, h2, h3⟩ := HC3.out k hkl
         have yk := yi .i64 (k : Int) (by omega) (by omega)
         have y0 := yi .i64 0 (by omega) (by omega)
         have ck := HY.out k hkl
         have c0 := HY.out 0 (by omega)
         rw [Nat.add_zero] at c0
         obtain ⟨v, hv⟩ : ∃ v, v = nth c k := ⟨_, rfl⟩
         obtain ⟨u, hu⟩ : ∃ u, u = nth c 0 := ⟨_, rfl⟩
         rw [← hv] at h1 h2 h3 ck
         rw [← hu] at h3 c0
         have pv := pi .i64 v (by omega) (by omega)
         have cv := HP.out v.toNat (by omega)
         rw [h3] at cv
         have t1 : decide (v < 0) = false := by simp; omega
         have t2 : decide ((l.length : Int) ≤ v) = false := by simp; omega
         have t3 : (u != u) = false := by simp
         clear h3 hv hu
         go_wp2_with fail
         go_quiet (fail)
         go_wp2_with fail
         go_roundw
         case rel => exact ⟨k + 1, by omega, by go_num, (by first | exact Qt.refl _ | exact Qt.drewN _ _ | exact (Qt.drewN _ _).trans (Qt.drewN _ _) | exact ((Qt.drewN _ _).trans (Qt.drewN _ _)).trans (Qt.drewN _ _) | exact Qt.drew _ | exact (Qt.drewN _ _).trans (Qt.drew _))⟩
         case measure => simp [intOf]; omega
        ·go_wp2_with fail
         go_roundw
         case rel => exact ⟨i + 1, _, by omega, by go_num, rfl, hz2, hz3, HZ, (by first | exact Qt.refl _ | exact Qt.drewN _ _ | exact (Qt.drewN _ _).trans (Qt.drewN _ _) | exact ((Qt.drewN _ _).trans (Qt.drewN _ _)).trans (Qt.drewN _ _) | exact Qt.drew _ | exact (Qt.drewN _ _).trans (Qt.drew _))⟩
         case measure => simp [intOf]; omega
      ·go_wp2_with fail
       go_ret
       exact ⟨by simp, by exact below_drewN HB8.out _⟩
set_option maxRecDepth 100000 in
theorem CollapseAcyclic_lifted (os : Os) (started : os.Started) (H : Type) (enc : TypeId × Value → H) :
  ReturnsInHanded {} Tryz.checked os 6 .any (Rows.collapseAcyclicSpec.pre6 enc Tryz.prog Tryz.f6 Rows.collapseAcyclicRow.domain false) (Rows.collapseAcyclicSpec.post enc Tryz.prog Tryz.f6 false true false false) := by
 refine returnsInHanded_of_change (C := Tryz.checked) own started (by kernel_rfl) Tryz.func6
  (ChangeSpec.witness6 (enc := enc) (C := Tryz.checked) false ⟨#[], #[.agg #[.int .i64 0, .int .i64 0, .int .i64 0, .slice none 0 0]], []⟩ 8 (by kernel_rfl) (by kernel_rfl) (by kernel_rfl) (by kernel_rfl)) ?_
 intro W base args ds gs before hval0 hW hcnd _
 have hval : ∀ (j : Nat) t v, Tryz.f6.params[j]? = some t → args[j]? = some v → Value.okWide Tryz.prog W .any base t v := hval0
 have hW' := hW
 obtain ⟨p, q, hA0, hV, rfl, hfz, hnd⟩ := hW
 have hA : DataW.TrodAll enc Tryz.prog W 0 (fun _ => true) true Tryz.f6.params.toList args.toList ds p := hA0
 rw [Tryz.params6] at hA hval
 obtain ⟨v0, vs0, d0, ds0, p0, q0, hargs, rfl, rfl, h0, r0⟩ := trodAll_cons hA
 obtain ⟨rfl, rfl, rfl⟩ := trodAll_nil r0
 obtain rfl : args = #[v0] := by cases args; simp_all
 obtain ⟨rfl, rfl⟩ := trodVars_none hV
 obtain ⟨c0, rfl, sz0⟩ := okWide_struct Tryz.underlying24 (hval 0 24 v0 rfl rfl)
 have k0 := h0
 obtain ⟨sy0, cv0, eq0, hC0⟩ := sys_of_trod sz0 h0
 obtain rfl : c0 = #[.int .i64 sy0.vars, .int .i64 sy0.sites, .int .i64 sy0.fields, cv0] := by simpa [SysV] using eq0
 have lt0 : ∀ x ∈ p0, x.block < W.heap.size := by obtain ⟨m, hm⟩ := k0; exact DataW.trod_lt m _ _ _ hm
 clear hA0 hval0
 refine (CollapseAcyclic_walk sy0 cv0 W hC0).mono fun e W' ⟨he, bel⟩ => ?_
 subst he
 exact ⟨_, rfl, _, _, _, [], _, [], hW', trodAll_mk1 (shut_bool Tryz.underlying4 _), (trodAll_cons_mk (Below.trod laidOut (by kernel_rfl) (of_decide_eq_true (by kernel_rfl)) k0 bel lt0) trodAll_mk0), rfl, bel.frame _, fun h => by cases h⟩
theorem CollapseAcyclic_holds : Rows.CollapseAcyclicSaid :=
 OpenClaim.holds_of_wide 6 Tryz.f6 rfl rfl rfl rfl rfl rfl rfl ⟨rfl, rfl, rfl, rfl, rfl⟩ rfl rfl rfl rfl rfl (by kernel_rfl) Tryz.func6 (by kernel_rfl)
  (of_decide_eq_true (by kernel_rfl)) (by unfold Func.isWrapper; first | (rw [if_pos (by decide +kernel)]; kernel_rfl) | (rw [if_neg (by decide +kernel)]; exact ⟨rfl, rfl⟩))
  (fun os started H enc _ => CollapseAcyclic_lifted os started H enc)
end Go.Proofs.YtgblfjccccdidaaGreat
end
