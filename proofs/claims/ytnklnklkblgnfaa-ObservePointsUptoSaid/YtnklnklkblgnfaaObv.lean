/- How executions lie in memory. -/
import Derived.Test.YtnklnklkblgnfaaViw
import Derived.Test.YtnklnklkblgnfaaObp
import Derived.Test.YtnklnklkblgnfaaProg
import Derived.Test.YtnklnklkblgnfaaChecked
namespace Go.Proofs.Ytnklnklkblgnfaa
open Go.RowKit Go.Dfl Go.Obs
open Go.Proofs.Ytnklnklkblgnfaa.Rows (uptoBulk uptoBulkAll)
theorem own : ownKnob Try.prog.godebug = none := by kernel_rfl
theorem laidOut : laidOutB Try.prog = true := by kernel_rfl
def TruePost (w : World) (e : Ending) (w' : World) : Prop := e = .returned (.bool true) ∧ Below w.heap.size w w'
theorem qt_below {w w' : World} (h : Qt w w') : Below w.heap.size w w' := h.below _
theorem bel_trans {W A B : World} (h : Below W.heap.size W A) (k : Below A.heap.size A B) : Below W.heap.size W B := h.trans (k.mono h.size)
/-- A value of an execution. -/
def vVal : Vw Vl := ⟨3, fun _ cs x => cs = [.int .i64 x.k, .int .i64 x.n, .int .i64 x.s] ∧ inI x.k ∧ inI x.n ∧ inI x.s, fun _ => 4, fun h _ => h⟩
/-- A step. -/
def vOb : Vw Ob := ⟨5, fun w cs x => ∃ v, cs = [.int .i64 x.f, .int .i64 x.i, .int .i64 x.fr, .int .i64 x.c, v] ∧ (inI x.f ∧ inI x.i ∧ inI x.fr ∧ inI x.c) ∧ InS vVal w v x.vs, fun x => (vL vVal).wt x.vs + 5, fun ⟨v, h1, h2, h3⟩ hb => ⟨v, h1, h2, h3.below hb⟩⟩
def vExec : Vw Ex := ⟨2, fun w cs x => ∃ v, cs = [.int .i64 x.e, v] ∧ inI x.e ∧ InS vOb w v x.o, fun x => (vL vOb).wt x.o + 2, fun ⟨v, h1, h2, h3⟩ hb => ⟨v, h1, h2, h3.below hb⟩⟩
theorem cI : Try.prog.cellsOf 3 = 1 := by kernel_rfl
theorem opens_int : Opens Try.prog 3 vI := Opens.int Try.underlying3 cI
theorem opens_int64 : Opens Try.prog 2 vI := Opens.int Try.underlying2 (by kernel_rfl)
set_option maxRecDepth 100000 in
theorem opens_val : Opens Try.prog 56 vVal := ⟨by kernel_rfl, fun H enc w base spare held n cs x h => by
  obtain ⟨hl, ds, hd, hdl, hf⟩ := Opens.fields Try.underlying56 h
  rw [show Try.prog.cellsOf 56 = 3 by kernel_rfl] at hl
  match cs, hl, ds, hdl with
  | [c0, c1, c2], _, [d0, d1, d2], _ =>
    obtain ⟨y0, e0, k0, ⟨o0, b0⟩, w0⟩ := hf 0 _ rfl _ _ opens_int
    obtain ⟨y1, e1, k1, ⟨o1, b1⟩, w1⟩ := hf 1 _ rfl _ _ opens_int64
    obtain ⟨y2, e2, k2, ⟨o2, b2⟩, w2⟩ := hf 2 _ rfl _ _ opens_int
    simp [vI] at o0 o1 o2 k0 k1 k2 w0 w1 w2
    subst o0 o1 o2 k0 k1 k2
    exact ⟨⟨y0, y1, y2⟩, ⟨rfl, b0, b1, b2⟩, by rw [hd, uptoBulk]; simp only [uptoBulkAll]; show 4 ≤ _; omega⟩⟩
theorem opens_vals : Opens Try.prog 48 (vL vVal) := opens_val.slice (by decide) Try.underlying48 (by kernel_rfl)
set_option maxRecDepth 100000 in
theorem opens_ob : Opens Try.prog 50 vOb := ⟨by kernel_rfl, fun H enc w base spare held n cs x h => by
  obtain ⟨hl, ds, hd, hdl, hf⟩ := Opens.fields Try.underlying50 h
  rw [show Try.prog.cellsOf 50 = 5 by kernel_rfl] at hl
  match cs, hl, ds, hdl with
  | [c0, c1, c2, c3, c4], _, [d0, d1, d2, d3, d4], _ =>
    obtain ⟨y0, e0, k0, ⟨o0, b0⟩, w0⟩ := hf 0 _ rfl _ _ opens_int
    obtain ⟨y1, e1, k1, ⟨o1, b1⟩, w1⟩ := hf 1 _ rfl _ _ opens_int
    obtain ⟨y2, e2, k2, ⟨o2, b2⟩, w2⟩ := hf 2 _ rfl _ _ opens_int
    obtain ⟨y3, e3, k3, ⟨o3, b3⟩, w3⟩ := hf 3 _ rfl _ _ opens_int
    obtain ⟨y4, e4, k4, ⟨v, o4, b4⟩, w4⟩ := hf 4 _ rfl _ _ opens_vals
    simp [vI, vL] at o0 o1 o2 o3 o4 k0 k1 k2 k3 k4 w0 w1 w2 w3
    subst o0 o1 o2 o3 o4 k0 k1 k2 k3 k4
    exact ⟨⟨y0, y1, y2, y3, y4⟩, ⟨_, rfl, ⟨b0, b1, b2, b3⟩, b4⟩, by rw [hd, uptoBulk]; simp only [uptoBulkAll]; show (vL vVal).wt y4 + 5 ≤ _; omega⟩⟩
theorem opens_obs : Opens Try.prog 22 (vL vOb) := opens_ob.slice (by decide) Try.underlying22 (by kernel_rfl)
set_option maxRecDepth 100000 in
theorem opens_exec : Opens Try.prog 24 vExec := ⟨by kernel_rfl, fun H enc w base spare held n cs x h => by
  obtain ⟨hl, ds, hd, hdl, hf⟩ := Opens.fields Try.underlying24 h
  rw [show Try.prog.cellsOf 24 = 2 by kernel_rfl] at hl
  match cs, hl, ds, hdl with
  | [c0, c1], _, [d0, d1], _ =>
    obtain ⟨y0, e0, k0, ⟨o0, b0⟩, w0⟩ := hf 0 _ rfl _ _ opens_int
    obtain ⟨y1, e1, k1, ⟨v, o1, b1⟩, w1⟩ := hf 1 _ rfl _ _ opens_obs
    simp [vI, vL] at o0 o1 k0 k1 w0
    subst o0 o1 k0 k1
    exact ⟨⟨y0, y1⟩, ⟨_, rfl, b0, b1⟩, by rw [hd, uptoBulk]; simp only [uptoBulkAll]; show (vL vOb).wt y1 + 2 ≤ _; omega⟩⟩
end Go.Proofs.Ytnklnklkblgnfaa
