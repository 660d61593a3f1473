/- What the statements on solutions share. -/
import Derived.Test.YtkfhopnolflchaaAwk
import Derived.Test.YtkfhopnolflchaaOpn
namespace Go.Proofs.Ytkfhopnolflchaa
open Go.ChangeShapes Go.WideShapes Go.ChangeAt Go.RowKit Go.Dfl Go.And

theorem own : ownKnob Try.prog.godebug = none := by kernel_rfl
theorem laidOut : laidOutB Try.prog = true := by kernel_rfl

/-- The least solution is below every closed assignment. -/
theorem sol_least {s : Sy} {lu lv a b : List (List Int)} (hs : Sol s.S lu lv) (hc : ClosedP s a b) : winB lu a = true ∧ winB lv b = true := by
  have h1 := hs.1
  have h2 := hs.2.1
  have h3 := hc.l1
  have h4 := hc.l2
  rw [winB_iff, winB_iff]
  refine ⟨⟨by omega, fun i hi x hx => ?_⟩, by omega, fun i hi x hx => ?_⟩
  · obtain ⟨h0, hp⟩ := ((hs.2.2.1 i (by omega)).mem x).1 hx
    have := hp.least hc.shut
    rw [nth_append, if_pos (by omega)] at this
    rwa [Int.toNat_of_nonneg h0] at this
  · obtain ⟨h0, hp⟩ := ((hs.2.2.2 i (by omega)).mem x).1 hx
    have := hp.least hc.shut
    rw [nth_append, if_neg (by omega), h3, Nat.add_sub_cancel_left] at this
    rwa [Int.toNat_of_nonneg h0] at this
theorem winB_refl (a : List (List Int)) : winB a a = true := (winB_iff _ _).2 ⟨rfl, fun _ _ _ h => h⟩

/-- A system and an assignment, boxed, in memory. -/
structure SysB (sb : Nat) (s : Sy) (cv : Value) (Z : World) : Prop where
  box : BoxS Z sb s cv
  cons : ConsIn Z cv s.cons
theorem SysB.below {sb : Nat} {s : Sy} {cv : Value} {Z Z' : World} (h : SysB sb s cv Z) (hb : Below Z.heap.size Z Z') : SysB sb s cv Z' := ⟨h.box.grown (grownBy_below hb) (by simp), h.cons.below hb⟩
structure PtsB (pb : Nat) (u v : Value) (a b : List (List Int)) (Z : World) : Prop where
  p0 : Z.cell? ⟨pb, 0, none⟩ = some u
  p1 : Z.cell? ⟨pb, 1, none⟩ = some v
  pts : PtsIn Z u v a b
theorem PtsB.below {pb : Nat} {u v : Value} {a b : List (List Int)} {Z Z' : World} (h : PtsB pb u v a b Z) (hb : Below Z.heap.size Z Z') : PtsB pb u v a b Z' := ⟨(grownBy_below hb).cell h.p0 (by simp), (grownBy_below hb).cell h.p1 (by simp), h.pts.below hb⟩
theorem PtsB.new {Z : World} {u v : Value} {a b : List (List Int)} (h : PtsIn Z u v a b) (t : TypeId) : PtsB Z.heap.size u v a b (Z.alloc (.cells #[u, v] t)) := by
  have hc := cells_new (W := Z) (cs := [u, v]) (t := t) rfl
  exact ⟨hc 0 _ rfl, hc 1 _ rfl, h.below ((Below.refl _ _).alloc (Nat.le_refl _) _)⟩
theorem SysB.new {Z : World} {s : Sy} {cv : Value} (h : ConsIn Z cv s.cons) (t : TypeId) : SysB Z.heap.size s cv (Z.alloc (.cells #[.int .i64 s.vars, .int .i64 s.sites, .int .i64 s.fields, cv] t)) :=
  ⟨BoxS.new _ _ _ _, h.below ((Below.refl _ _).alloc (Nat.le_refl _) _)⟩

def TruePost (w : World) (e : Ending) (w' : World) : Prop := e = .returned (.bool true) ∧ Below w.heap.size w w'
end Go.Proofs.Ytkfhopnolflchaa
