/- A system of constraints as it lies in memory. -/
import Derived.Test.YtkfhopnolflchaaAndM
namespace Go.And
/-- A constraint and a system, as they come in. -/
structure R where
  k : Int
  a : Int
  b : Int
  f : Int
  s : List Int
instance : Inhabited R := ⟨⟨0, 0, 0, 0, []⟩⟩
structure Sy where
  vars : Int
  sites : Int
  fields : Int
  cons : List R
def R.C (c : R) : C := ⟨c.k.toNat, c.a.toNat, c.b.toNat, c.f.toNat, c.s.map Int.toNat⟩
def Sy.S (s : Sy) : Syst := ⟨s.vars.toNat, s.sites.toNat, s.fields.toNat, s.cons.map R.C⟩
/-- A valid constraint. -/
structure VldC (s : Sy) (c : R) : Prop where
  kind : 1 ≤ c.k ∧ c.k ≤ 5
  a : 0 ≤ c.a ∧ (if c.k = 1 then c.a < s.sites else c.a < s.vars)
  b : 0 ≤ c.b ∧ c.b < s.vars
  f : (c.k = 3 ∨ c.k = 4) → 0 ≤ c.f ∧ c.f < s.fields
  s : ∀ x ∈ c.s, 0 ≤ x ∧ x < s.sites
  f0 : c.k ≠ 3 → c.k ≠ 4 → c.f = 0
  s0 : c.k ≠ 5 → c.s = []
  asc : c.s.Pairwise (· < ·)
structure Vld (s : Sy) : Prop where
  vars : 0 ≤ s.vars
  sites : 0 ≤ s.sites
  fields : 0 ≤ s.fields
  cons : ∀ c ∈ s.cons, VldC s c
structure Sm (s : Sy) : Prop where
  vars : s.vars ≤ 40
  sites : s.sites ≤ 12
  fields : s.fields ≤ 5
  cons : s.cons.length ≤ 101

theorem VldC.f' {s : Sy} {c : R} (h : VldC s c) : 0 ≤ c.f := by
  by_cases h3 : c.k = 3
  · exact (h.f (.inl h3)).1
  · by_cases h4 : c.k = 4
    · exact (h.f (.inr h4)).1
    · rw [h.f0 h3 h4]; omega
theorem Vld.ok {s : Sy} (h : Vld s) : s.S.Ok := by
  intro c hc
  obtain ⟨r, hr, rfl⟩ := List.mem_map.1 hc
  have g := h.cons r hr
  have gk := g.kind
  have ga := g.a
  have gb := g.b
  refine ⟨⟨by show 1 ≤ r.k.toNat; omega, by show r.k.toNat ≤ 5; omega⟩, ?_, by show r.b.toNat < s.vars.toNat; omega, ?_, ?_, ?_, ?_⟩
  · show if r.k.toNat = 1 then r.a.toNat < s.sites.toNat else r.a.toNat < s.vars.toNat
    by_cases h1 : r.k = 1
    · rw [if_pos h1] at ga; rw [if_pos (by omega)]; omega
    · rw [if_neg h1] at ga; rw [if_neg (by omega)]; omega
  · intro hk
    have hk' : r.k = 3 ∨ r.k = 4 := by
      have : r.k.toNat = 3 ∨ r.k.toNat = 4 := hk
      omega
    have := g.f hk'
    show r.f.toNat < s.fields.toNat
    omega
  · intro h3 h4
    have h3' : r.k.toNat ≠ 3 := h3
    have h4' : r.k.toNat ≠ 4 := h4
    have := g.f0 (by omega) (by omega)
    show r.f.toNat = 0
    omega
  · intro x hx
    obtain ⟨y, hy, rfl⟩ := List.mem_map.1 hx
    have := g.s y hy
    show y.toNat < s.sites.toNat
    omega
  · intro h5
    have h5' : r.k.toNat ≠ 5 := h5
    have := g.s0 (by omega)
    show r.s.map Int.toNat = []
    rw [this]; rfl
theorem nth_map' {α β : Type} [Inhabited α] [Inhabited β] (f : α → β) (l : List α) (i : Nat) (h : i < l.length) : Go.Dfl.nth (l.map f) i = f (Go.Dfl.nth l i) := by simp [Go.Dfl.nth, h]
theorem cast_toNat : ∀ {l : List Int}, (∀ x ∈ l, 0 ≤ x) → (l.map Int.toNat).map (fun x : Nat => (x : Int)) = l
  | [], _ => rfl
  | x :: l, h => by
    have := h x (by simp)
    have ih := cast_toNat (l := l) fun y hy => h y (List.mem_cons_of_mem _ hy)
    rw [List.map_cons, List.map_cons, ih, Int.toNat_of_nonneg this]
end Go.And
namespace Go.Proofs.Ytkfhopnolflchaa
open Go.RowKit Go.Dfl Go.And
/-- The constraints in memory. -/
def ConsIn (W : World) (v : Value) (l : List R) : Prop :=
  ∃ rs : List RC, rs.length = l.length ∧ Sliced W v l.length 5 (fun i j => ((RC.vals (nth rs i))[j]?).getD undef) ∧ ∀ i, i < l.length → (nth rs i).k = (nth l i).k ∧ (nth rs i).a = (nth l i).a ∧ (nth rs i).b = (nth l i).b ∧ (nth rs i).f = (nth l i).f ∧ Ints W (nth rs i).set (nth l i).s
def SysV (s : Sy) (cv : Value) : Value := .agg #[.int .i64 s.vars, .int .i64 s.sites, .int .i64 s.fields, cv]

theorem ConsIn.below {W W' : World} {v : Value} {l : List R} (h : ConsIn W v l) (hb : Below W.heap.size W W') : ConsIn W' v l := by
  obtain ⟨rs, h1, h2, h3⟩ := h
  exact ⟨rs, h1, h2.below hb, fun i hi => ⟨(h3 i hi).1, (h3 i hi).2.1, (h3 i hi).2.2.1, (h3 i hi).2.2.2.1, (h3 i hi).2.2.2.2.below hb⟩⟩
theorem ConsIn.qt {W W' : World} {v : Value} {l : List R} (h : ConsIn W v l) (hb : Qt W W') : ConsIn W' v l := h.below (hb.below _)
theorem ConsIn.out {W : World} {v : Value} {l : List R} (h : ConsIn W v l) : ∃ a c, v = .slice a l.length c ∧ l.length ≤ 9223372036854775807 ∧
    (∀ x : Int, 0 ≤ x → x < l.length → ∀ W', (Instr.indexAt 22 (.slice a l.length c) (.int .i64 x)).run Try.prog W' = .ok (.pointer (some ⟨blk a, ofs a + x.toNat * 5, none⟩)) W') ∧
    ∀ j, j < l.length → ∃ sa sn sc, W.cell? ⟨blk a, ofs a + j * 5, none⟩ = some (.int .i64 (nth l j).k) ∧ W.cell? ⟨blk a, ofs a + j * 5 + 1, none⟩ = some (.int .i64 (nth l j).a) ∧ W.cell? ⟨blk a, ofs a + j * 5 + 2, none⟩ = some (.int .i64 (nth l j).b) ∧ W.cell? ⟨blk a, ofs a + j * 5 + 3, none⟩ = some (.int .i64 (nth l j).f) ∧ W.cell? ⟨blk a, ofs a + j * 5 + 4, none⟩ = some (.slice sa sn sc) ∧ Ints W (.slice sa sn sc) (nth l j).s ∧ blk a < W.heap.size := by
  obtain ⟨rs, hl, h2, h3⟩ := h
  obtain ⟨a, c, h1, hn, hi, h4, h5⟩ := h2.outN sCon (by omega)
  refine ⟨a, c, h1, hn, fun x => hi .i64 x, fun j hj => ?_⟩
  obtain ⟨q1, q2, q3, q4, q5⟩ := h3 j hj
  refine ⟨(nth rs j).sa, (nth rs j).sn, (nth rs j).sc, ?_, ?_, ?_, ?_, ?_, q5, h5 j hj⟩
  · have := h4 j hj 0 (by omega)
    rw [← q1]; exact this
  · have := h4 j hj 1 (by omega)
    rw [← q2]; exact this
  · have := h4 j hj 2 (by omega)
    rw [← q3]; exact this
  · have := h4 j hj 3 (by omega)
    rw [← q4]; exact this
  · exact h4 j hj 4 (by omega)
end Go.Proofs.Ytkfhopnolflchaa
