/- How units lie in memory. Printed by gen_view.py. -/
import Derived.Test.YtnklnklkblgnfaaObv
import Derived.Test.YtnklnklkblgnfaaUnp
namespace Go.Proofs.Ytnklnklkblgnfaa
open Go.RowKit Go.Dfl Go.Obs
open Go.Proofs.Ytnklnklkblgnfaa.Rows (uptoBulk uptoBulkAll)
theorem opens_string : Opens Try.prog 9 vS := Opens.str Try.underlying9 (by kernel_rfl)
theorem opens_bool : Opens Try.prog 4 vB := Opens.bool Try.underlying4 (by kernel_rfl)
/-- How api.Field lies in memory. -/
def vVd : Vw Vd := ⟨2, fun _ cs x => cs = [.string x.n, .string x.t] ∧ x.n.size ≤ maxLen ∧ x.t.size ≤ maxLen, fun x => (x.n.size + 1) + (x.t.size + 1) + 1, fun ⟨h0, h1, h2⟩ _ => ⟨h0, h1, h2⟩⟩
set_option maxRecDepth 100000 in
theorem opens_vd : Opens Try.prog 131 vVd := ⟨by kernel_rfl, fun H enc w base spare held n cs x h => by
  obtain ⟨hl, ds, hd, hdl, hf⟩ := Opens.fields Try.underlying131 h
  rw [show Try.prog.cellsOf 131 = 2 by kernel_rfl] at hl
  match cs, hl, ds, hdl with
  | [c0, c1], _, [d0, d1], _ =>
    obtain ⟨y0, e0, k0, ⟨o0, b0⟩, w0⟩ := hf 0 _ rfl _ _ opens_string
    obtain ⟨y1, e1, k1, ⟨o1, b1⟩, w1⟩ := hf 1 _ rfl _ _ opens_string
    simp [vS] at o0 k0 o1 k1 w0 w1
    subst o0 k0 o1 k1
    exact ⟨⟨y0, y1⟩, ⟨rfl, b0, b1⟩, by rw [hd, uptoBulk]; simp only [uptoBulkAll]; show (y0.size + 1) + (y1.size + 1) + 1 ≤ _; omega⟩⟩
theorem sVd : SliceOf Try.prog 67 131 (.agg #[.string .empty, .string .empty]) 2 32 := ⟨Try.underlying67, info_parts (P := Try.prog) (e := 131) (by kernel_rfl)⟩
theorem InS.vd {W : World} {v : Value} {l : List Vd} (h : InS vVd W v l) : ∃ a c, v = .slice a l.length c ∧ l.length ≤ 9223372036854775807 ∧
    (∀ x : Int, 0 ≤ x → x < l.length → ∀ W, (Instr.indexAt 67 (.slice a l.length c) (.int .i64 x)).run Try.prog W = .ok (.pointer (some ⟨blk a, ofs a + x.toNat * 2, none⟩)) W) ∧
    ∀ i, i < l.length → blk a < W.heap.size ∧ ((nth l i).n.size ≤ maxLen ∧ (nth l i).t.size ≤ maxLen) ∧ ∀ Z, Below W.heap.size W Z → Z.cell? ⟨blk a, ofs a + i * 2, none⟩ = some (.string (nth l i).n) ∧ Z.cell? ⟨blk a, ofs a + i * 2 + 1, none⟩ = some (.string (nth l i).t) := by
  obtain ⟨oa, oc, he, hl, hi, hc⟩ := InS.out h sVd
  refine ⟨oa, oc, he, hl, hi, fun i hil => ?_⟩
  obtain ⟨h1, cs, hok, h3⟩ := hc i hil
  obtain ⟨rfl, hb⟩ := hok
  exact ⟨h1, hb, fun Z hZ => ⟨h3 Z hZ 0 (by decide), h3 Z hZ 1 (by decide)⟩⟩
theorem opens_sl_vS : Opens Try.prog 133 (vL vS) := opens_string.slice (by decide) Try.underlying133 (by kernel_rfl)
/-- How api.Sig lies in memory. -/
def vSg : Vw Sg := ⟨4, fun w cs x => ∃ v2, cs = [.string x.n, .bool x.st, v2, .string x.r] ∧ x.n.size ≤ maxLen ∧ x.r.size ≤ maxLen ∧ InS vS w v2 x.ps, fun x => (x.n.size + 1) + 1 + (vL vS).wt x.ps + (x.r.size + 1) + 1, fun ⟨v2, h0, h1, h2, h3⟩ hb => ⟨v2, h0, h1, h2, h3.below hb⟩⟩
set_option maxRecDepth 100000 in
theorem opens_sg : Opens Try.prog 135 vSg := ⟨by kernel_rfl, fun H enc w base spare held n cs x h => by
  obtain ⟨hl, ds, hd, hdl, hf⟩ := Opens.fields Try.underlying135 h
  rw [show Try.prog.cellsOf 135 = 4 by kernel_rfl] at hl
  match cs, hl, ds, hdl with
  | [c0, c1, c2, c3], _, [d0, d1, d2, d3], _ =>
    obtain ⟨y0, e0, k0, ⟨o0, b0⟩, w0⟩ := hf 0 _ rfl _ _ opens_string
    obtain ⟨y1, e1, k1, o1, w1⟩ := hf 1 _ rfl _ _ opens_bool
    obtain ⟨y2, e2, k2, ⟨v2, o2, b2⟩, w2⟩ := hf 2 _ rfl _ _ opens_sl_vS
    obtain ⟨y3, e3, k3, ⟨o3, b3⟩, w3⟩ := hf 3 _ rfl _ _ opens_string
    simp [vS, vB, vL] at o0 k0 o1 k1 o2 k2 o3 k3 w0 w1 w3
    subst o0 k0 o1 k1 o2 k2 o3 k3
    exact ⟨⟨y0, y1, y2, y3⟩, ⟨_, rfl, b0, b3, b2⟩, by rw [hd, uptoBulk]; simp only [uptoBulkAll]; show (y0.size + 1) + 1 + (vL vS).wt y2 + (y3.size + 1) + 1 ≤ _; omega⟩⟩
theorem sSg : SliceOf Try.prog 127 135 (.agg #[.string .empty, .bool false, .slice none 0 0, .string .empty]) 4 64 := ⟨Try.underlying127, info_parts (P := Try.prog) (e := 135) (by kernel_rfl)⟩
theorem InS.sg {W : World} {v : Value} {l : List Sg} (h : InS vSg W v l) : ∃ a c, v = .slice a l.length c ∧ l.length ≤ 9223372036854775807 ∧
    (∀ x : Int, 0 ≤ x → x < l.length → ∀ W, (Instr.indexAt 127 (.slice a l.length c) (.int .i64 x)).run Try.prog W = .ok (.pointer (some ⟨blk a, ofs a + x.toNat * 4, none⟩)) W) ∧
    ∀ i, i < l.length → blk a < W.heap.size ∧ ∃ v2, ((nth l i).n.size ≤ maxLen ∧ (nth l i).r.size ≤ maxLen ∧ InS vS W v2 (nth l i).ps) ∧ ∀ Z, Below W.heap.size W Z → Z.cell? ⟨blk a, ofs a + i * 4, none⟩ = some (.string (nth l i).n) ∧ Z.cell? ⟨blk a, ofs a + i * 4 + 1, none⟩ = some (.bool (nth l i).st) ∧ Z.cell? ⟨blk a, ofs a + i * 4 + 2, none⟩ = some (v2) ∧ Z.cell? ⟨blk a, ofs a + i * 4 + 3, none⟩ = some (.string (nth l i).r) := by
  obtain ⟨oa, oc, he, hl, hi, hc⟩ := InS.out h sSg
  refine ⟨oa, oc, he, hl, hi, fun i hil => ?_⟩
  obtain ⟨h1, cs, hok, h3⟩ := hc i hil
  obtain ⟨v2, rfl, hb⟩ := hok
  exact ⟨h1, v2, hb, fun Z hZ => ⟨h3 Z hZ 0 (by decide), h3 Z hZ 1 (by decide), h3 Z hZ 2 (by decide), h3 Z hZ 3 (by decide)⟩⟩
theorem opens_sl_vVd : Opens Try.prog 67 (vL vVd) := opens_vd.slice (by decide) Try.underlying67 (by kernel_rfl)
theorem opens_sl_vSg : Opens Try.prog 127 (vL vSg) := opens_sg.slice (by decide) Try.underlying127 (by kernel_rfl)
/-- How api.ClassDecl lies in memory. -/
def vCl : Vw Cl := ⟨4, fun w cs x => ∃ v2, ∃ v3, cs = [.string x.n, .string x.s, v2, v3] ∧ x.n.size ≤ maxLen ∧ x.s.size ≤ maxLen ∧ InS vVd w v2 x.fs ∧ InS vSg w v3 x.ms, fun x => (x.n.size + 1) + (x.s.size + 1) + (vL vVd).wt x.fs + (vL vSg).wt x.ms + 1, fun ⟨v2, v3, h0, h1, h2, h3, h4⟩ hb => ⟨v2, v3, h0, h1, h2, h3.below hb, h4.below hb⟩⟩
set_option maxRecDepth 100000 in
theorem opens_cl : Opens Try.prog 129 vCl := ⟨by kernel_rfl, fun H enc w base spare held n cs x h => by
  obtain ⟨hl, ds, hd, hdl, hf⟩ := Opens.fields Try.underlying129 h
  rw [show Try.prog.cellsOf 129 = 4 by kernel_rfl] at hl
  match cs, hl, ds, hdl with
  | [c0, c1, c2, c3], _, [d0, d1, d2, d3], _ =>
    obtain ⟨y0, e0, k0, ⟨o0, b0⟩, w0⟩ := hf 0 _ rfl _ _ opens_string
    obtain ⟨y1, e1, k1, ⟨o1, b1⟩, w1⟩ := hf 1 _ rfl _ _ opens_string
    obtain ⟨y2, e2, k2, ⟨v2, o2, b2⟩, w2⟩ := hf 2 _ rfl _ _ opens_sl_vVd
    obtain ⟨y3, e3, k3, ⟨v3, o3, b3⟩, w3⟩ := hf 3 _ rfl _ _ opens_sl_vSg
    simp [vS, vL] at o0 k0 o1 k1 o2 k2 o3 k3 w0 w1
    subst o0 k0 o1 k1 o2 k2 o3 k3
    exact ⟨⟨y0, y1, y2, y3⟩, ⟨_, _, rfl, b0, b1, b2, b3⟩, by rw [hd, uptoBulk]; simp only [uptoBulkAll]; show (y0.size + 1) + (y1.size + 1) + (vL vVd).wt y2 + (vL vSg).wt y3 + 1 ≤ _; omega⟩⟩
theorem sCl : SliceOf Try.prog 34 129 (.agg #[.string .empty, .string .empty, .slice none 0 0, .slice none 0 0]) 4 80 := ⟨Try.underlying34, info_parts (P := Try.prog) (e := 129) (by kernel_rfl)⟩
theorem InS.cl {W : World} {v : Value} {l : List Cl} (h : InS vCl W v l) : ∃ a c, v = .slice a l.length c ∧ l.length ≤ 9223372036854775807 ∧
    (∀ x : Int, 0 ≤ x → x < l.length → ∀ W, (Instr.indexAt 34 (.slice a l.length c) (.int .i64 x)).run Try.prog W = .ok (.pointer (some ⟨blk a, ofs a + x.toNat * 4, none⟩)) W) ∧
    ∀ i, i < l.length → blk a < W.heap.size ∧ ∃ v2, ∃ v3, ((nth l i).n.size ≤ maxLen ∧ (nth l i).s.size ≤ maxLen ∧ InS vVd W v2 (nth l i).fs ∧ InS vSg W v3 (nth l i).ms) ∧ ∀ Z, Below W.heap.size W Z → Z.cell? ⟨blk a, ofs a + i * 4, none⟩ = some (.string (nth l i).n) ∧ Z.cell? ⟨blk a, ofs a + i * 4 + 1, none⟩ = some (.string (nth l i).s) ∧ Z.cell? ⟨blk a, ofs a + i * 4 + 2, none⟩ = some (v2) ∧ Z.cell? ⟨blk a, ofs a + i * 4 + 3, none⟩ = some (v3) := by
  obtain ⟨oa, oc, he, hl, hi, hc⟩ := InS.out h sCl
  refine ⟨oa, oc, he, hl, hi, fun i hil => ?_⟩
  obtain ⟨h1, cs, hok, h3⟩ := hc i hil
  obtain ⟨v2, v3, rfl, hb⟩ := hok
  exact ⟨h1, v2, v3, hb, fun Z hZ => ⟨h3 Z hZ 0 (by decide), h3 Z hZ 1 (by decide), h3 Z hZ 2 (by decide), h3 Z hZ 3 (by decide)⟩⟩
theorem opens_sl_vI : Opens Try.prog 45 (vL vI) := opens_int.slice (by decide) Try.underlying45 (by kernel_rfl)
/-- How api.Instr lies in memory. -/
def vIs : Vw Is := ⟨10, fun w cs x => ∃ v7, cs = [.int .i64 x.op, .int .i64 x.d, .int .i64 x.a, .int .i64 x.b, .int .i64 x.n, .string x.c, .string x.m, v7, .int .i64 x.g, .int .i64 x.ct] ∧ inI x.op ∧ inI x.d ∧ inI x.a ∧ inI x.b ∧ inI x.n ∧ x.c.size ≤ maxLen ∧ x.m.size ≤ maxLen ∧ inI x.g ∧ inI x.ct ∧ InS vI w v7 x.ar, fun x => 1 + 1 + 1 + 1 + 1 + (x.c.size + 1) + (x.m.size + 1) + (vL vI).wt x.ar + 1 + 1 + 1, fun ⟨v7, h0, h1, h2, h3, h4, h5, h6, h7, h8, h9, h10⟩ hb => ⟨v7, h0, h1, h2, h3, h4, h5, h6, h7, h8, h9, h10.below hb⟩⟩
set_option maxRecDepth 100000 in
theorem opens_is : Opens Try.prog 72 vIs := ⟨by kernel_rfl, fun H enc w base spare held n cs x h => by
  obtain ⟨hl, ds, hd, hdl, hf⟩ := Opens.fields Try.underlying72 h
  rw [show Try.prog.cellsOf 72 = 10 by kernel_rfl] at hl
  match cs, hl, ds, hdl with
  | [c0, c1, c2, c3, c4, c5, c6, c7, c8, c9], _, [d0, d1, d2, d3, d4, d5, d6, d7, d8, d9], _ =>
    obtain ⟨y0, e0, k0, ⟨o0, b0⟩, w0⟩ := hf 0 _ rfl _ _ opens_int
    obtain ⟨y1, e1, k1, ⟨o1, b1⟩, w1⟩ := hf 1 _ rfl _ _ opens_int
    obtain ⟨y2, e2, k2, ⟨o2, b2⟩, w2⟩ := hf 2 _ rfl _ _ opens_int
    obtain ⟨y3, e3, k3, ⟨o3, b3⟩, w3⟩ := hf 3 _ rfl _ _ opens_int
    obtain ⟨y4, e4, k4, ⟨o4, b4⟩, w4⟩ := hf 4 _ rfl _ _ opens_int64
    obtain ⟨y5, e5, k5, ⟨o5, b5⟩, w5⟩ := hf 5 _ rfl _ _ opens_string
    obtain ⟨y6, e6, k6, ⟨o6, b6⟩, w6⟩ := hf 6 _ rfl _ _ opens_string
    obtain ⟨y7, e7, k7, ⟨v7, o7, b7⟩, w7⟩ := hf 7 _ rfl _ _ opens_sl_vI
    obtain ⟨y8, e8, k8, ⟨o8, b8⟩, w8⟩ := hf 8 _ rfl _ _ opens_int
    obtain ⟨y9, e9, k9, ⟨o9, b9⟩, w9⟩ := hf 9 _ rfl _ _ opens_int
    simp [vI, vS, vL] at o0 k0 o1 k1 o2 k2 o3 k3 o4 k4 o5 k5 o6 k6 o7 k7 o8 k8 o9 k9 w0 w1 w2 w3 w4 w5 w6 w8 w9
    subst o0 k0 o1 k1 o2 k2 o3 k3 o4 k4 o5 k5 o6 k6 o7 k7 o8 k8 o9 k9
    exact ⟨⟨y0, y1, y2, y3, y4, y5, y6, y7, y8, y9⟩, ⟨_, rfl, b0, b1, b2, b3, b4, b5, b6, b8, b9, b7⟩, by rw [hd, uptoBulk]; simp only [uptoBulkAll]; show 1 + 1 + 1 + 1 + 1 + (y5.size + 1) + (y6.size + 1) + (vL vI).wt y7 + 1 + 1 + 1 ≤ _; omega⟩⟩
theorem sIs : SliceOf Try.prog 68 72 (.agg #[.int .i64 0, .int .i64 0, .int .i64 0, .int .i64 0, .int .i64 0, .string .empty, .string .empty, .slice none 0 0, .int .i64 0, .int .i64 0]) 10 112 := ⟨Try.underlying68, info_parts (P := Try.prog) (e := 72) (by kernel_rfl)⟩
theorem InS.is {W : World} {v : Value} {l : List Is} (h : InS vIs W v l) : ∃ a c, v = .slice a l.length c ∧ l.length ≤ 9223372036854775807 ∧
    (∀ x : Int, 0 ≤ x → x < l.length → ∀ W, (Instr.indexAt 68 (.slice a l.length c) (.int .i64 x)).run Try.prog W = .ok (.pointer (some ⟨blk a, ofs a + x.toNat * 10, none⟩)) W) ∧
    ∀ i, i < l.length → blk a < W.heap.size ∧ ∃ v7, (inI (nth l i).op ∧ inI (nth l i).d ∧ inI (nth l i).a ∧ inI (nth l i).b ∧ inI (nth l i).n ∧ (nth l i).c.size ≤ maxLen ∧ (nth l i).m.size ≤ maxLen ∧ inI (nth l i).g ∧ inI (nth l i).ct ∧ InS vI W v7 (nth l i).ar) ∧ ∀ Z, Below W.heap.size W Z → Z.cell? ⟨blk a, ofs a + i * 10, none⟩ = some (.int .i64 (nth l i).op) ∧ Z.cell? ⟨blk a, ofs a + i * 10 + 1, none⟩ = some (.int .i64 (nth l i).d) ∧ Z.cell? ⟨blk a, ofs a + i * 10 + 2, none⟩ = some (.int .i64 (nth l i).a) ∧ Z.cell? ⟨blk a, ofs a + i * 10 + 3, none⟩ = some (.int .i64 (nth l i).b) ∧ Z.cell? ⟨blk a, ofs a + i * 10 + 4, none⟩ = some (.int .i64 (nth l i).n) ∧ Z.cell? ⟨blk a, ofs a + i * 10 + 5, none⟩ = some (.string (nth l i).c) ∧ Z.cell? ⟨blk a, ofs a + i * 10 + 6, none⟩ = some (.string (nth l i).m) ∧ Z.cell? ⟨blk a, ofs a + i * 10 + 7, none⟩ = some (v7) ∧ Z.cell? ⟨blk a, ofs a + i * 10 + 8, none⟩ = some (.int .i64 (nth l i).g) ∧ Z.cell? ⟨blk a, ofs a + i * 10 + 9, none⟩ = some (.int .i64 (nth l i).ct) := by
  obtain ⟨oa, oc, he, hl, hi, hc⟩ := InS.out h sIs
  refine ⟨oa, oc, he, hl, hi, fun i hil => ?_⟩
  obtain ⟨h1, cs, hok, h3⟩ := hc i hil
  obtain ⟨v7, rfl, hb⟩ := hok
  exact ⟨h1, v7, hb, fun Z hZ => ⟨h3 Z hZ 0 (by decide), h3 Z hZ 1 (by decide), h3 Z hZ 2 (by decide), h3 Z hZ 3 (by decide), h3 Z hZ 4 (by decide), h3 Z hZ 5 (by decide), h3 Z hZ 6 (by decide), h3 Z hZ 7 (by decide), h3 Z hZ 8 (by decide), h3 Z hZ 9 (by decide)⟩⟩
theorem opens_sl_vIs : Opens Try.prog 68 (vL vIs) := opens_is.slice (by decide) Try.underlying68 (by kernel_rfl)
/-- How api.Func lies in memory. -/
def vFu : Vw Fu := ⟨7, fun w cs x => ∃ v4, ∃ v6, cs = [.string x.c, .string x.m, .bool x.st, .int .i64 x.ps, v4, .string x.r, v6] ∧ x.c.size ≤ maxLen ∧ x.m.size ≤ maxLen ∧ inI x.ps ∧ x.r.size ≤ maxLen ∧ InS vVd w v4 x.vs ∧ InS vIs w v6 x.cd, fun x => (x.c.size + 1) + (x.m.size + 1) + 1 + 1 + (vL vVd).wt x.vs + (x.r.size + 1) + (vL vIs).wt x.cd + 1, fun ⟨v4, v6, h0, h1, h2, h3, h4, h5, h6⟩ hb => ⟨v4, v6, h0, h1, h2, h3, h4, h5.below hb, h6.below hb⟩⟩
set_option maxRecDepth 100000 in
theorem opens_fu : Opens Try.prog 70 vFu := ⟨by kernel_rfl, fun H enc w base spare held n cs x h => by
  obtain ⟨hl, ds, hd, hdl, hf⟩ := Opens.fields Try.underlying70 h
  rw [show Try.prog.cellsOf 70 = 7 by kernel_rfl] at hl
  match cs, hl, ds, hdl with
  | [c0, c1, c2, c3, c4, c5, c6], _, [d0, d1, d2, d3, d4, d5, d6], _ =>
    obtain ⟨y0, e0, k0, ⟨o0, b0⟩, w0⟩ := hf 0 _ rfl _ _ opens_string
    obtain ⟨y1, e1, k1, ⟨o1, b1⟩, w1⟩ := hf 1 _ rfl _ _ opens_string
    obtain ⟨y2, e2, k2, o2, w2⟩ := hf 2 _ rfl _ _ opens_bool
    obtain ⟨y3, e3, k3, ⟨o3, b3⟩, w3⟩ := hf 3 _ rfl _ _ opens_int
    obtain ⟨y4, e4, k4, ⟨v4, o4, b4⟩, w4⟩ := hf 4 _ rfl _ _ opens_sl_vVd
    obtain ⟨y5, e5, k5, ⟨o5, b5⟩, w5⟩ := hf 5 _ rfl _ _ opens_string
    obtain ⟨y6, e6, k6, ⟨v6, o6, b6⟩, w6⟩ := hf 6 _ rfl _ _ opens_sl_vIs
    simp [vI, vS, vB, vL] at o0 k0 o1 k1 o2 k2 o3 k3 o4 k4 o5 k5 o6 k6 w0 w1 w2 w3 w5
    subst o0 k0 o1 k1 o2 k2 o3 k3 o4 k4 o5 k5 o6 k6
    exact ⟨⟨y0, y1, y2, y3, y4, y5, y6⟩, ⟨_, _, rfl, b0, b1, b3, b5, b4, b6⟩, by rw [hd, uptoBulk]; simp only [uptoBulkAll]; show (y0.size + 1) + (y1.size + 1) + 1 + 1 + (vL vVd).wt y4 + (y5.size + 1) + (vL vIs).wt y6 + 1 ≤ _; omega⟩⟩
theorem sFu : SliceOf Try.prog 37 70 (.agg #[.string .empty, .string .empty, .bool false, .int .i64 0, .slice none 0 0, .string .empty, .slice none 0 0]) 7 112 := ⟨Try.underlying37, info_parts (P := Try.prog) (e := 70) (by kernel_rfl)⟩
theorem InS.fu {W : World} {v : Value} {l : List Fu} (h : InS vFu W v l) : ∃ a c, v = .slice a l.length c ∧ l.length ≤ 9223372036854775807 ∧
    (∀ x : Int, 0 ≤ x → x < l.length → ∀ W, (Instr.indexAt 37 (.slice a l.length c) (.int .i64 x)).run Try.prog W = .ok (.pointer (some ⟨blk a, ofs a + x.toNat * 7, none⟩)) W) ∧
    ∀ i, i < l.length → blk a < W.heap.size ∧ ∃ v4, ∃ v6, ((nth l i).c.size ≤ maxLen ∧ (nth l i).m.size ≤ maxLen ∧ inI (nth l i).ps ∧ (nth l i).r.size ≤ maxLen ∧ InS vVd W v4 (nth l i).vs ∧ InS vIs W v6 (nth l i).cd) ∧ ∀ Z, Below W.heap.size W Z → Z.cell? ⟨blk a, ofs a + i * 7, none⟩ = some (.string (nth l i).c) ∧ Z.cell? ⟨blk a, ofs a + i * 7 + 1, none⟩ = some (.string (nth l i).m) ∧ Z.cell? ⟨blk a, ofs a + i * 7 + 2, none⟩ = some (.bool (nth l i).st) ∧ Z.cell? ⟨blk a, ofs a + i * 7 + 3, none⟩ = some (.int .i64 (nth l i).ps) ∧ Z.cell? ⟨blk a, ofs a + i * 7 + 4, none⟩ = some (v4) ∧ Z.cell? ⟨blk a, ofs a + i * 7 + 5, none⟩ = some (.string (nth l i).r) ∧ Z.cell? ⟨blk a, ofs a + i * 7 + 6, none⟩ = some (v6) := by
  obtain ⟨oa, oc, he, hl, hi, hc⟩ := InS.out h sFu
  refine ⟨oa, oc, he, hl, hi, fun i hil => ?_⟩
  obtain ⟨h1, cs, hok, h3⟩ := hc i hil
  obtain ⟨v4, v6, rfl, hb⟩ := hok
  exact ⟨h1, v4, v6, hb, fun Z hZ => ⟨h3 Z hZ 0 (by decide), h3 Z hZ 1 (by decide), h3 Z hZ 2 (by decide), h3 Z hZ 3 (by decide), h3 Z hZ 4 (by decide), h3 Z hZ 5 (by decide), h3 Z hZ 6 (by decide)⟩⟩
theorem opens_sl_vCl : Opens Try.prog 34 (vL vCl) := opens_cl.slice (by decide) Try.underlying34 (by kernel_rfl)
theorem opens_sl_vFu : Opens Try.prog 37 (vL vFu) := opens_fu.slice (by decide) Try.underlying37 (by kernel_rfl)
def vHier : Vw (List Cl) := ⟨1, fun w cs x => ∃ v, cs = [v] ∧ InS vCl w v x, fun x => (vL vCl).wt x + 1, fun ⟨v, h1, h2⟩ hb => ⟨v, h1, h2.below hb⟩⟩
set_option maxRecDepth 100000 in
theorem opens_hier : Opens Try.prog 36 vHier := ⟨by kernel_rfl, fun H enc w base spare held n cs x h => by
  obtain ⟨hl, ds, hd, hdl, hf⟩ := Opens.fields Try.underlying36 h
  rw [show Try.prog.cellsOf 36 = 1 by kernel_rfl] at hl
  match cs, hl, ds, hdl with
  | [c0], _, [d0], _ =>
    obtain ⟨y0, e0, k0, ⟨v0, o0, b0⟩, w0⟩ := hf 0 _ rfl _ _ opens_sl_vCl
    simp [vL] at o0 k0
    subst o0 k0
    exact ⟨y0, ⟨_, rfl, b0⟩, by rw [hd, uptoBulk]; simp only [uptoBulkAll]; show (vL vCl).wt y0 + 1 ≤ _; omega⟩⟩
/-- A unit. -/
def vUnit : Vw Un := ⟨3, fun w cs x => ∃ v0 v1, cs = [v0, v1, .int .i64 x.mn] ∧ inI x.mn ∧ InS vCl w v0 x.cs ∧ InS vFu w v1 x.fs, fun x => vHier.wt x.cs + (vL vFu).wt x.fs + 1 + 1, fun ⟨v0, v1, h1, h2, h3, h4⟩ hb => ⟨v0, v1, h1, h2, h3.below hb, h4.below hb⟩⟩
set_option maxRecDepth 100000 in
theorem opens_unit : Opens Try.prog 39 vUnit := ⟨by kernel_rfl, fun H enc w base spare held n cs x h => by
  obtain ⟨hl, ds, hd, hdl, hf⟩ := Opens.fields Try.underlying39 h
  rw [show Try.prog.cellsOf 39 = 3 by kernel_rfl] at hl
  match cs, hl, ds, hdl with
  | [c0, c1, c2], _, [d0, d1, d2], _ =>
    obtain ⟨y0, e0, k0, ⟨v0, o0, b0⟩, w0⟩ := hf 0 _ rfl _ _ opens_hier
    obtain ⟨y1, e1, k1, ⟨v1, o1, b1⟩, w1⟩ := hf 1 _ rfl _ _ opens_sl_vFu
    obtain ⟨y2, e2, k2, ⟨o2, b2⟩, w2⟩ := hf 2 _ rfl _ _ opens_int
    simp [vI, vL, vHier] at o0 o1 o2 k0 k1 k2 w2
    subst o0 o1 o2 k0 k1 k2
    exact ⟨⟨y0, y1, y2⟩, ⟨_, _, rfl, b2, b0, b1⟩, by rw [hd, uptoBulk]; simp only [uptoBulkAll]; show vHier.wt y0 + (vL vFu).wt y1 + 1 + 1 ≤ _; omega⟩⟩
end Go.Proofs.Ytnklnklkblgnfaa
