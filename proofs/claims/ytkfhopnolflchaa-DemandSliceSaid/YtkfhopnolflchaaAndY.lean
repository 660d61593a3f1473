/- Bounds of the steps; the rows of the solver, read. -/
import Derived.Test.YtkfhopnolflchaaAndX
namespace Go.And
theorem Puts.mass {S : Syst} : ∀ {l : List (Nat × (Nat → Bool))} {a b : St}, Puts l a b → (∀ e ∈ l, e.1 < S.N ∧ ∀ x, e.2 x = true → x < S.sites) → b.todo.length + Go.And.mass S a ≤ a.todo.length + Go.And.mass S b ∧ Go.And.mass S a ≤ Go.And.mass S b
  | [], a, b, h, _ => by cases h; exact ⟨Nat.le_refl _, Nat.le_refl _⟩
  | e :: l, a, b, ⟨m, h1, h2⟩, hl => by
    have q1 := h1.mass (hl e (by simp)).1 (hl e (by simp)).2
    have q2 := Puts.mass h2 fun x hx => hl x (by simp [hx])
    omega
theorem Joins.mass {S : Syst} : ∀ {l : List (Nat × Nat)} {a b : St}, Joins l a b → (∀ e ∈ l, e.2 < S.N) → (∀ j x, a.p j x = true → x < S.sites) → b.todo.length + Go.And.mass S a ≤ a.todo.length + Go.And.mass S b ∧ Go.And.mass S a ≤ Go.And.mass S b
  | [], a, b, h, _, _ => by cases h; exact ⟨Nat.le_refl _, Nat.le_refl _⟩
  | e :: l, a, b, ⟨m, h1, h2⟩, hl, hb => by
    have q1 := h1.mass (hl e (by simp)) (hb e.1)
    have q2 := Joins.mass h2 (fun x hx => hl x (by simp [hx])) (h1.bnd hb)
    omega
theorem Put.bnd {i n : Nat} {s : Nat → Bool} {a b : St} (h : Put i s a b) (hs : ∀ x, s x = true → x < n) (hb : ∀ j x, a.p j x = true → x < n) : ∀ j x, b.p j x = true → x < n := by
  intro j x hx
  rcases h with ⟨-, rfl⟩ | ⟨-, rfl⟩
  · exact hb j x hx
  · by_cases e : j = i
    · subst e
      simp only [upd_same] at hx
      cases h1 : a.p j x
      · simp only [h1, Bool.not_false, Bool.and_true, Bool.false_or] at hx; exact hs x hx
      · exact hb j x h1
    · simp only [upd_other _ _ _ e] at hx; exact hb j x hx
theorem Puts.bnd {n : Nat} : ∀ {l : List (Nat × (Nat → Bool))} {a b : St}, Puts l a b → (∀ e ∈ l, ∀ x, e.2 x = true → x < n) → (∀ j x, a.p j x = true → x < n) → ∀ j x, b.p j x = true → x < n
  | [], a, b, h, _, hb => by cases h; exact hb
  | e :: l, a, b, ⟨m, h1, h2⟩, hl, hb => Puts.bnd h2 (fun x hx => hl x (by simp [hx])) (h1.bnd (hl e (by simp)) hb)
theorem Joins.bnd {n : Nat} : ∀ {l : List (Nat × Nat)} {a b : St}, Joins l a b → (∀ j x, a.p j x = true → x < n) → ∀ j x, b.p j x = true → x < n
  | [], a, b, h, hb => by cases h; exact hb
  | e :: l, a, b, ⟨m, h1, h2⟩, hb => Joins.bnd h2 (h1.bnd hb)
theorem Puts.len : ∀ {l : List (Nat × (Nat → Bool))} {a b : St}, Puts l a b → b.cp = a.cp
  | [], a, b, h => by cases h; rfl
  | e :: l, a, b, ⟨m, h1, h2⟩ => by rw [Puts.len h2, h1.le.2.2.1]
end Go.And
namespace Go.Proofs.Ytkfhopnolflchaa
open Go.RowKit Go.Dfl Go.And

section
variable {S : Syst} {w0 : World} {sv : Nat} {rl : Nat → Nat} {V : Vals} {st : St} {W : World}
/-- The targets of a node. -/
theorem Mem.cpRow (h : Mem S w0 sv rl V st W) {i : Nat} (hi : i < S.N) : ∃ a c, nth V.cvs i = .slice a (st.cp i).length c ∧ (st.cp i).length ≤ 9223372036854775807 ∧
    (∀ x : Int, 0 ≤ x → x < (st.cp i).length → ∀ W', (Instr.indexAt 27 (.slice a (st.cp i).length c) (.int .i64 x)).run Try.prog W' = .ok (.pointer (some ⟨blk a, ofs a + x.toNat, none⟩)) W') ∧
    ∀ j, j < (st.cp i).length → W.cell? ⟨blk a, ofs a + j, none⟩ = some (.int .i64 ((nth (st.cp i) j : Nat) : Int)) := by
  have hC := h.cp (by omega)
  have ho := hC.own.inn i (by rw [hC.len]; exact hi)
  have hm := hC.mean i hi
  obtain ⟨a, c, h1, h2, h3, h4, -⟩ := ho.lst.out1 sInt
  have hl : (nth V.cll i).length = (st.cp i).length := by rw [hm]; simp
  rw [hl] at h1 h2 h3 h4
  refine ⟨a, c, h1, h2, fun x => h3 .i64 x, fun j hj => ?_⟩
  rw [h4 j hj, hm]
  simp [nth, hj]
theorem Mem.ptRow (h : Mem S w0 sv rl V st W) {i : Nat} (hi : i < S.vars) : ∃ a c, nth V.pvs i = .slice a (st.pt i).length c ∧ (st.pt i).length ≤ 9223372036854775807 ∧
    (∀ x : Int, 0 ≤ x → x < (st.pt i).length → ∀ W', (Instr.indexAt 96 (.slice a (st.pt i).length c) (.int .i64 x)).run Try.prog W' = .ok (.pointer (some ⟨blk a, ofs a + x.toNat * 2, none⟩)) W') ∧
    ∀ j, j < (st.pt i).length → ∃ sa sn sc, W.cell? ⟨blk a, ofs a + j * 2, none⟩ = some (.int .i64 ((nth (st.pt i) j).1 : Int)) ∧ W.cell? ⟨blk a, ofs a + j * 2 + 1, none⟩ = some (.slice sa sn sc) ∧ IsS rl W (.slice sa sn sc) (nth (st.pt i) j).2 := by
  have hC := h.pt (by omega)
  have ho := hC.own.inn i (by rw [hC.len]; exact hi)
  have hm := hC.mean i hi
  obtain ⟨a, c, h1, h2, h3, h4, -⟩ := (OwnE.sliced ho).outN sPart (by show 0 < 2; omega)
  have hl : (nth V.pll i).length = (st.pt i).length := hm.1
  rw [hl] at h1 h2 h3 h4
  refine ⟨a, c, h1, h2, fun x => h3 .i64 x, fun j hj => ?_⟩
  obtain ⟨q1, q2⟩ := hm.2 j (by omega)
  refine ⟨(nth (nth V.pll i) j).sa, (nth (nth V.pll i) j).sn, (nth (nth V.pll i) j).sc, ?_, ?_, q2⟩
  · have := h4 j hj 0 (by show 0 < 2; omega)
    rw [← q1]; exact this
  · exact h4 j hj 1 (by show 1 < 2; omega)
theorem Mem.ldRow (h : Mem S w0 sv rl V st W) {i : Nat} (hi : i < S.vars) : ∃ a c, nth V.lvs i = .slice a (st.ld i).length c ∧ (st.ld i).length ≤ 9223372036854775807 ∧
    (∀ x : Int, 0 ≤ x → x < (st.ld i).length → ∀ W', (Instr.indexAt 22 (.slice a (st.ld i).length c) (.int .i64 x)).run Try.prog W' = .ok (.pointer (some ⟨blk a, ofs a + x.toNat * 5, none⟩)) W') ∧
    ∀ j, j < (st.ld i).length → ∃ sa sn sc, W.cell? ⟨blk a, ofs a + j * 5, none⟩ = some (.int .i64 ((nth (st.ld i) j).k : Int)) ∧ W.cell? ⟨blk a, ofs a + j * 5 + 1, none⟩ = some (.int .i64 ((nth (st.ld i) j).a : Int)) ∧ W.cell? ⟨blk a, ofs a + j * 5 + 2, none⟩ = some (.int .i64 ((nth (st.ld i) j).b : Int)) ∧ W.cell? ⟨blk a, ofs a + j * 5 + 3, none⟩ = some (.int .i64 ((nth (st.ld i) j).f : Int)) ∧ W.cell? ⟨blk a, ofs a + j * 5 + 4, none⟩ = some (.slice sa sn sc) := by
  have hC := h.ld (by omega)
  have ho := hC.own.inn i (by rw [hC.len]; exact hi)
  have hm := hC.mean i hi
  obtain ⟨a, c, h1, h2, h3, h4, -⟩ := (OwnE.sliced ho).outN sCon (by show 0 < 5; omega)
  have hl : (nth V.lll i).length = (st.ld i).length := hm.1
  rw [hl] at h1 h2 h3 h4
  refine ⟨a, c, h1, h2, fun x => h3 .i64 x, fun j hj => ?_⟩
  obtain ⟨q1, q2, q3, q4⟩ := hm.2 j (by omega)
  refine ⟨(nth (nth V.lll i) j).sa, (nth (nth V.lll i) j).sn, (nth (nth V.lll i) j).sc, ?_, ?_, ?_, ?_, ?_⟩
  · have := h4 j hj 0 (by show 0 < 5; omega)
    rw [← q1]; exact this
  · have := h4 j hj 1 (by show 1 < 5; omega)
    rw [← q2]; exact this
  · have := h4 j hj 2 (by show 2 < 5; omega)
    rw [← q3]; exact this
  · have := h4 j hj 3 (by show 3 < 5; omega)
    rw [← q4]; exact this
  · exact h4 j hj 4 (by show 4 < 5; omega)
theorem Mem.srRow (h : Mem S w0 sv rl V st W) {i : Nat} (hi : i < S.vars) : ∃ a c, nth V.svs i = .slice a (st.sr i).length c ∧ (st.sr i).length ≤ 9223372036854775807 ∧
    (∀ x : Int, 0 ≤ x → x < (st.sr i).length → ∀ W', (Instr.indexAt 22 (.slice a (st.sr i).length c) (.int .i64 x)).run Try.prog W' = .ok (.pointer (some ⟨blk a, ofs a + x.toNat * 5, none⟩)) W') ∧
    ∀ j, j < (st.sr i).length → ∃ sa sn sc, W.cell? ⟨blk a, ofs a + j * 5, none⟩ = some (.int .i64 ((nth (st.sr i) j).k : Int)) ∧ W.cell? ⟨blk a, ofs a + j * 5 + 1, none⟩ = some (.int .i64 ((nth (st.sr i) j).a : Int)) ∧ W.cell? ⟨blk a, ofs a + j * 5 + 2, none⟩ = some (.int .i64 ((nth (st.sr i) j).b : Int)) ∧ W.cell? ⟨blk a, ofs a + j * 5 + 3, none⟩ = some (.int .i64 ((nth (st.sr i) j).f : Int)) ∧ W.cell? ⟨blk a, ofs a + j * 5 + 4, none⟩ = some (.slice sa sn sc) := by
  have hC := h.sr (by omega)
  have ho := hC.own.inn i (by rw [hC.len]; exact hi)
  have hm := hC.mean i hi
  obtain ⟨a, c, h1, h2, h3, h4, -⟩ := (OwnE.sliced ho).outN sCon (by show 0 < 5; omega)
  have hl : (nth V.sll i).length = (st.sr i).length := hm.1
  rw [hl] at h1 h2 h3 h4
  refine ⟨a, c, h1, h2, fun x => h3 .i64 x, fun j hj => ?_⟩
  obtain ⟨q1, q2, q3, q4⟩ := hm.2 j (by omega)
  refine ⟨(nth (nth V.sll i) j).sa, (nth (nth V.sll i) j).sn, (nth (nth V.sll i) j).sc, ?_, ?_, ?_, ?_, ?_⟩
  · have := h4 j hj 0 (by show 0 < 5; omega)
    rw [← q1]; exact this
  · have := h4 j hj 1 (by show 1 < 5; omega)
    rw [← q2]; exact this
  · have := h4 j hj 2 (by show 2 < 5; omega)
    rw [← q3]; exact this
  · have := h4 j hj 3 (by show 3 < 5; omega)
    rw [← q4]; exact this
  · exact h4 j hj 4 (by show 4 < 5; omega)

/-- The elements of a set, as a list. -/
theorem IsS.list {v : Value} {s : Nat → Bool} (h : IsS rl W v s) : ∃ L : List Nat, L.Pairwise (· < ·) ∧ ∀ y, s y = true ↔ y ∈ L := by
  obtain ⟨r, -, -, -, h4, -⟩ := h
  refine ⟨(List.range (64 * r.length)).filter s, List.pairwise_lt_range.filter _, fun y => ?_⟩
  rw [List.mem_filter, List.mem_range]
  constructor
  · intro hy
    refine ⟨?_, hy⟩
    rw [← h4] at hy
    by_cases hlt : y < 64 * r.length
    · exact hlt
    · rw [hasN_out _ _ (by omega)] at hy; cases hy
  · exact fun hh => hh.2
end
end Go.Proofs.Ytkfhopnolflchaa
