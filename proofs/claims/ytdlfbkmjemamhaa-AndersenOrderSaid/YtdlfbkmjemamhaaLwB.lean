/- Systems with some of the constraints of another one; a slice of constraints, cut. -/
import Derived.Test.YtdlfbkmjemamhaaLwA
namespace Go.Proofs.Ytdlfbkmjemamhaa
open Go.ChangeShapes Go.WideShapes Go.ChangeAt Go.RowKit Go.Dfl Go.And

theorem sub_chk {s : Sy} {l : List R} (h : ∀ c ∈ l, c ∈ s.cons) (h0 : chkCode s = 0) : chkCode { s with cons := l } = 0 := by
  have v := chkCode_ok.1 h0
  refine chkCode_ok.2 ⟨v.vars, v.sites, v.fields, fun c hc => ?_⟩
  have g := v.cons c (h c hc)
  exact ⟨g.kind, g.a, g.b, g.f, g.s, g.f0, g.s0, g.asc⟩
theorem sub_shut {s : Sy} {l : List R} (h : ∀ c ∈ l, c ∈ s.cons) {p : Nat → Nat → Prop} (hs : Go.And.Shut s.S p) : Go.And.Shut ({ s with cons := l } : Sy).S p := by
  intro c hc
  obtain ⟨r, hr, rfl⟩ := List.mem_map.1 hc
  exact hs _ (List.mem_map.2 ⟨r, h r hr, rfl⟩)
theorem sub_win {s : Sy} {l : List R} (h : ∀ c ∈ l, c ∈ s.cons) {qu qv lu lv : List (List Int)} (hq : Sol ({ s with cons := l } : Sy).S qu qv) (hs : Sol s.S lu lv) : winB qu lu = true ∧ winB qv lv = true := by
  have h1 : qu.length = s.S.vars := hq.1
  have h2 : qv.length = s.S.sites * s.S.fields := hq.2.1
  have h3 := hs.1
  have h4 := hs.2.1
  rw [winB_iff, winB_iff]
  refine ⟨⟨by omega, fun i hi x hx => ?_⟩, by omega, fun i hi x hx => ?_⟩
  · obtain ⟨h0, hp⟩ := ((hq.2.2.1 i (by show i < s.S.vars; omega)).mem x).1 hx
    exact ((hs.2.2.1 i (by omega)).mem x).2 ⟨h0, fun p hp' => hp p (sub_shut h hp')⟩
  · obtain ⟨h0, hp⟩ := ((hq.2.2.2 i (by show i < s.S.sites * s.S.fields; omega)).mem x).1 hx
    exact ((hs.2.2.2 i (by omega)).mem x).2 ⟨h0, fun p hp' => hp p (sub_shut h hp')⟩
theorem sub_closed {s : Sy} {l : List R} (h : ∀ c ∈ l, c ∈ s.cons) {a b : List (List Int)} (hc : ClosedP s a b) : ClosedP { s with cons := l } a b :=
  ⟨sub_chk h hc.chk, hc.l1, hc.l2, hc.ok, sub_shut h hc.shut⟩

/-- 'x[k:]' of a slice of constraints. -/
theorem ConsIn.cut {W : World} {v : Value} {l : List R} (h : ConsIn W v l) (k : Nat) (hk : k ≤ l.length) :
    ∃ a c, (∀ (ik : IntKind) (Z : World), (Instr.slice 22 v (some (.int ik (k : Int))) none none).run Try.prog Z = .ok (.slice a (l.drop k).length c) Z) ∧ ConsIn W (.slice a (l.drop k).length c) (l.drop k) := by
  obtain ⟨rs, h1, ⟨a, cap, rfl, h2, h3, h4⟩, h5⟩ := h
  obtain ⟨i0, hi, _, hs, _⟩ := sCon.info
  have hce : Try.prog.cellsOf 39 = 5 := by kernel_rfl
  refine ⟨if cap = k then a else a.map (·.add (k * 5)), cap - k, fun ik Z => ?_, rs.drop k, by simp [h1], ⟨_, cap - k, rfl, by simp; omega, by omega, fun i hi' => ?_⟩, fun i hi' => ?_⟩
  · simp [Instr.slice, run_underlying sCon.und, Instr.sliceBounds, Instr.sliceBound, asIntOf, hk, run_sizeOf _ hi, hce]
  · simp only [List.length_drop] at hi'
    obtain ⟨q1, q2, q3⟩ := h4 (k + i) (by omega)
    rw [if_neg (by omega), q1]
    have e4 : (⟨blk a, ofs a, none⟩ : Addr).add (k * 5) = ⟨blk a, ofs a + k * 5, none⟩ := add1
    refine ⟨by rw [Option.map_some, e4]; rfl, by rw [Option.map_some, e4]; exact q2, fun j hj => ?_⟩
    have := q3 j hj
    have e : ofs a + (k + i) * 5 + j = ofs a + k * 5 + i * 5 + j := by omega
    rw [e] at this
    have e2 : nth (rs.drop k) i = nth rs (k + i) := nth_drop _ _ _
    show W.cell? _ = some (((nth (rs.drop k) i).vals[j]?).getD undef)
    rw [e2]
    rw [Option.map_some, e4]
    exact this
  · simp only [List.length_drop] at hi'
    obtain ⟨q1, q2, q3, q4, q5⟩ := h5 (k + i) (by omega)
    rw [nth_drop, nth_drop]
    exact ⟨q1, q2, q3, q4, q5⟩
end Go.Proofs.Ytdlfbkmjemamhaa
