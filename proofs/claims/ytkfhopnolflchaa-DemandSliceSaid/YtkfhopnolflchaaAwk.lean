/- The closed example of the statements: awake. -/
import Derived.Test.YtkfhopnolflchaaDrv
namespace Go.Proofs.Ytkfhopnolflchaa
open Go.RowKit Go.Dfl Go.And

/-- Constraints that a function lays itself. -/
theorem consIn_lit {W : World} {b : Nat} (rs : List RC) (l : List R) (hlen : rs.length = l.length) (hcap : l.length ≤ 1000) (hb : ∀ j y, (rs.flatMap RC.vals)[j]? = some y → W.cell? ⟨b, j, none⟩ = some y) (h : ∀ i, i < l.length → (nth rs i).k = (nth l i).k ∧ (nth rs i).a = (nth l i).a ∧ (nth rs i).b = (nth l i).b ∧ (nth rs i).f = (nth l i).f ∧ (nth rs i).set = .slice none 0 0 ∧ (nth l i).s = []) :
    ConsIn W (.slice (some ⟨b, 0, none⟩) l.length l.length) l := by
  refine ⟨rs, hlen, ⟨some ⟨b, 0, none⟩, l.length, rfl, Nat.le_refl _, by unfold maxLen; omega, fun i hi => ⟨rfl, ?_, fun j hj => ?_⟩⟩, fun i hi => ?_⟩
  · have h1 := flat_get (E := elC) rs i 0 (by omega) (by show 0 < 5; omega)
    have h2 : ((RC.vals (nth rs i))[0]?) = some (.int .i64 (nth rs i).k) := rfl
    exact World.block_lt_of_cell? W ⟨b, i * 5 + 0, none⟩ (hb _ _ (h1.trans h2))
  · have h1 := flat_get (E := elC) rs i j (by omega) hj
    have h2 : ∃ y, (RC.vals (nth rs i))[j]? = some y := by
      have : j < (RC.vals (nth rs i)).length := by simp [RC.vals]; omega
      exact ⟨_, List.getElem?_eq_getElem this⟩
    obtain ⟨y, hy⟩ := h2
    have h3 : W.cell? ⟨b, i * 5 + j, none⟩ = some y := hb _ _ (h1.trans hy)
    show W.cell? ⟨b, 0 + i * 5 + j, none⟩ = _
    rw [show 0 + i * 5 + j = i * 5 + j by omega, h3]
    show some y = some (((RC.vals (nth rs i))[j]?).getD undef)
    rw [hy]; rfl
  · obtain ⟨h1, h2, h3, h4, h5, h6⟩ := h i hi
    exact ⟨h1, h2, h3, h4, by rw [h5, h6]; exact Lst.nil _ _⟩
theorem grid_lit {W : World} {b : Nat} (vs : List Value) (ll : List (List Int)) (hlen : vs.length = ll.length) (hcap : vs.length ≤ 1000) (hb : ∀ j y, vs[j]? = some y → W.cell? ⟨b, j, none⟩ = some y) (h : ∀ i, i < ll.length → Ints W (nth vs i) (nth ll i)) :
    Grid (Value.int .i64) W (.slice (some ⟨b, 0, none⟩) vs.length vs.length) vs ll := by
  refine ⟨⟨some ⟨b, 0, none⟩, vs.length, rfl, Nat.le_refl _, by unfold maxLen; omega, fun i hi => ?_⟩, hlen, h⟩
  have h1 := hb i (nth vs i) (by rw [nth_eq _ _ hi]; exact List.getElem?_eq_getElem hi)
  refine ⟨rfl, World.block_lt_of_cell? W ⟨b, i, none⟩ h1, fun j hj => ?_⟩
  obtain rfl : j = 0 := by omega
  show W.cell? ⟨b, 0 + i * 1 + 0, none⟩ = _
  rw [show 0 + i * 1 + 0 = i by omega]; exact h1
theorem ints_cell {W : World} {b : Nat} {x : Int} (h : W.cell? ⟨b, 0, none⟩ = some (.int .i64 x)) : Ints W (.slice (some ⟨b, 0, none⟩) 1 1) [x] := by
  refine ⟨some ⟨b, 0, none⟩, 1, rfl, by simp, by unfold maxLen; omega, fun i hi => ⟨rfl, World.block_lt_of_cell? W _ h, fun j hj => ?_⟩⟩
  simp at hi
  obtain rfl : j = 0 := by omega
  obtain rfl : i = 0 := by omega
  simpa [blk, ofs, nth] using h

/-- The least solution is closed. -/
theorem sol_closed {s : Sy} {lu lv : List (List Int)} (h0 : chkCode s = 0) (hs : Sol s.S lu lv) : ClosedP s lu lv := by
  have hv := chkCode_ok.1 h0
  have hok := hv.ok
  have hsol : ∀ i, i < (lu ++ lv).length → IsSol s.S i (nth (lu ++ lv) i) := by
    intro i hi
    rw [nth_append]
    have h1 := hs.1
    have h2 := hs.2.1
    by_cases e : i < lu.length
    · rw [if_pos e]; exact hs.2.2.1 i (by omega)
    · rw [if_neg e]
      simp at hi
      have := hs.2.2.2 (i - lu.length) (by omega)
      rw [h1, show s.S.vars + (i - s.S.vars) = i by omega] at this
      rw [h1]; exact this
  have hlen : (lu ++ lv).length = s.S.N := by simp [hs.1, hs.2.1, Syst.N]
  have hmem : ∀ i x, ((x : Nat) : Int) ∈ nth (lu ++ lv) i ↔ Pts s.S i x := by
    intro i x
    by_cases hi : i < (lu ++ lv).length
    · rw [(hsol i hi).mem]; simp
    · rw [nth_out _ _ (by omega)]
      constructor
      · intro h; cases h
      · intro h; have := (pts_bound hok h).1; omega
  refine ⟨h0, hs.1, hs.2.1, fun i hi => ?_, fun c hc => ?_⟩
  · obtain ⟨L, hL, h1, h2⟩ := hsol i hi
    constructor
    · rw [subB_iff]
      intro j hj
      have hx := nth_mem _ _ hj
      obtain ⟨h3, h4⟩ := ((hsol i hi).mem _).1 hx
      have h5 := (pts_bound hok h4).2
      have h6 : s.S.sites = s.sites.toNat := rfl
      omega
    · unfold ascB
      rw [decide_eq_true_eq, hL, List.pairwise_map]
      exact h1.imp fun h => by omega
  · have := pts_shut s.S c hc
    simpa only [hmem] using this

def s0 : Sy := ⟨2, 1, 1, [⟨1, 0, 0, 0, []⟩, ⟨4, 0, 0, 0, []⟩, ⟨3, 0, 1, 0, []⟩]⟩
def sB : Sy := ⟨2, 0, 0, [⟨2, 0, 2, 0, []⟩]⟩
def sN : Sy := ⟨-1, 0, 0, []⟩
def sK : Sy := ⟨0, 0, 0, [⟨0, 0, 0, 0, []⟩]⟩
def sE : Sy := ⟨1, 1, 0, []⟩
theorem chk_s0 : chkCode s0 = 0 := by decide
theorem chk_sB : chkCode sB = 4 := by decide
theorem chk_sN : chkCode sN = 4 := by decide
theorem chk_sK : chkCode sK = 12 := by decide
theorem chk_sE : chkCode sE = 0 := by decide
theorem sol0 : Sol s0.S [[0], [0]] [[0]] := by
  have h0 : Pts s0.S 0 0 := fun p hp => (hp ⟨1, 0, 0, 0, []⟩ (by simp [s0, Sy.S, R.C])).1 rfl
  have h2 : Pts s0.S 2 0 := fun p hp => by
    have := (hp ⟨4, 0, 0, 0, []⟩ (by simp [s0, Sy.S, R.C])).2.2.2.1 rfl 0 (h0 p hp) 0 (h0 p hp)
    simpa [Syst.cell, s0, Sy.S] using this
  have h1 : Pts s0.S 1 0 := fun p hp => by
    have := (hp ⟨3, 0, 1, 0, []⟩ (by simp [s0, Sy.S, R.C])).2.2.1 rfl 0 (h0 p hp) 0 (by simpa [Syst.cell, s0, Sy.S] using h2 p hp)
    exact this
  have hS : ∀ i, Pts s0.S i 0 → IsSol s0.S i [0] := fun i hi => ⟨[0], rfl, by simp, fun y => by
    constructor
    · intro h; simp at h; subst h; exact hi
    · intro h
      have := (pts_bound (chkCode_ok.1 chk_s0).ok h).2
      have e : s0.S.sites = 1 := rfl
      simp; omega⟩
  refine ⟨rfl, rfl, fun i hi => ?_, fun i hi => ?_⟩
  · have : i = 0 ∨ i = 1 := by have : s0.S.vars = 2 := rfl; omega
    rcases this with rfl | rfl
    · exact hS 0 h0
    · exact hS 1 h1
  · have : i = 0 := by have : s0.S.sites * s0.S.fields = 1 := rfl; omega
    subst this
    exact hS 2 h2
theorem sol_s0 {lu lv : List (List Int)} (h : Sol s0.S lu lv) : lu = [[0], [0]] ∧ lv = [[0]] := h.unique sol0
theorem not_closed_q : ¬ ClosedP s0 [[0], []] [[0]] := fun h => by
  have := (h.shut ⟨3, 0, 1, 0, []⟩ (by simp [s0, Sy.S, R.C])).2.2.1 rfl 0 (by simp [nth]) 0 (by simp [nth, Syst.cell, s0, Sy.S])
  simp [nth] at this
theorem not_derive_e : ¬ DeriveP sE [[0]] [] := fun ⟨_, lu, lv, hs, hw, _⟩ => by
  have h1 := ((winB_iff _ _).1 hw).2 0 (by simp) 0 (by simp [nth])
  have h2 := ((hs.2.2.1 0 (by show 0 < 1; omega)).mem 0).1 h1
  exact h2.2 (fun _ _ => False) (fun c hc => by simp [sE, Sy.S] at hc)
theorem sm_lit (s : Sy) (h1 : s.vars ≤ 40) (h2 : s.sites ≤ 12) (h3 : s.fields ≤ 5) (h4 : s.cons.length ≤ 101) : Sm s := ⟨h1, h2, h3, h4⟩

theorem grownBy_below' {w w' : World} (h : Below w.heap.size w w') : w.grownBy w' none := grownBy_below h
theorem calls_gen {P : Program} {f : FuncId} {args : Array Value} {w : World} {Q : Ending → World → Prop} (p : World → Prop) (hw : p w) (h : ∀ W, p W → Calls P f args W Q) : Calls P f args w Q := h w hw
theorem nilCons (W : World) : ConsIn W (.slice none 0 0) [] := ⟨[], rfl, ⟨none, 0, rfl, by simp, by unfold maxLen; omega, fun i hi => by simp at hi⟩, fun i hi => by simp at hi⟩
theorem nilGrid (W : World) : Grid (Value.int .i64) W (.slice none 0 0) [] [] := ⟨Lst.nil _ _, rfl, fun i hi => by simp at hi⟩

/-- What the example has in memory. -/
structure AwkIn (w0 : World) (sb pb qb : Nat) (cv u v g h : Value) (Z : World) : Prop where
  s : BoxS Z sb s0 cv
  p0 : Z.cell? ⟨pb, 0, none⟩ = some u
  p1 : Z.cell? ⟨pb, 1, none⟩ = some v
  q0 : Z.cell? ⟨qb, 0, none⟩ = some g
  q1 : Z.cell? ⟨qb, 1, none⟩ = some h
  cs : ConsIn Z cv s0.cons
  pp : PtsIn Z u v [[0], [0]] [[0]]
  qq : PtsIn Z g h [[0], []] [[0]]
  bel : Below w0.heap.size w0 Z
theorem AwkIn.below {w0 : World} {sb pb qb : Nat} {cv u v q1 q2 : Value} {Z Z' : World} (h : AwkIn w0 sb pb qb cv u v q1 q2 Z) (hb : Below Z.heap.size Z Z') : AwkIn w0 sb pb qb cv u v q1 q2 Z' :=
  have g := grownBy_below hb
  ⟨h.s.grown g (by simp), g.cell h.p0 (by simp), g.cell h.p1 (by simp), g.cell h.q0 (by simp), g.cell h.q1 (by simp), h.cs.below hb, h.pp.below hb, h.qq.below hb, h.bel.trans (hb.mono h.bel.size)⟩
theorem inR_lit1 : InR [[0], [0]] := fun i hi x hx => by
  have : i = 0 ∨ i = 1 := by simp at hi; omega
  rcases this with rfl | rfl <;> (simp [nth] at hx; subst hx; omega)
theorem inR_lit2 : InR [[0]] := fun i hi x hx => by
  have : i = 0 := by simp at hi; omega
  subst this; simp [nth] at hx; subst hx; omega
theorem inR_lit3 : InR [[0], []] := fun i hi x hx => by
  have : i = 0 ∨ i = 1 := by simp at hi; omega
  rcases this with rfl | rfl
  · simp [nth] at hx; subst hx; omega
  · simp [nth] at hx
theorem len_lit (ll : List (List Int)) (h : ∀ l ∈ ll, l.length ≤ 1) : ∀ i, i < ll.length → (nth ll i).length ≤ 1000000 := fun i hi => Nat.le_trans (h _ (nth_mem _ _ hi)) (by omega)

end Go.Proofs.Ytkfhopnolflchaa
