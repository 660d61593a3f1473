/- The closed example of the statements: awake. -/
import Derived.Test.YtdlfbkmjemamhaaDrv
namespace Go.Proofs.Ytdlfbkmjemamhaa
open Go.RowKit Go.Dfl Go.And

/-- Constraints that a function lays itself. -/
theorem consIn_lit {W : World} {b : Nat} (rs : List RC) (l : List R) (hlen : rs.length = l.length) (hcap : l.length ≤ 1000) (hb : ∀ j y, (rs.flatMap RC.vals)[j]? = some y → W.cell? ⟨b, j, none⟩ = some y) (h : ∀ i, i < l.length → (nth rs i).k = (nth l i).k ∧ (nth rs i).a = (nth l i).a ∧ (nth rs i).b = (nth l i).b ∧ (nth rs i).f = (nth l i).f ∧ (nth rs i).set = .slice none 0 0 ∧ (nth l i).s = []) :
    ConsIn W (.slice (some ⟨b, 0, none⟩) l.length l.length) l := by
  refine ⟨rs, hlen, ⟨some ⟨b, 0, none⟩, l.length, rfl, Nat.le_refl _, by unfold maxLen; omega, fun i hi => ⟨rfl, ?_, fun j hj => ?_⟩⟩, fun i hi => ?_⟩
  · have h1 := flat_get (E := elC) rs i 0 (by omega) (by show 0 < 5; omega)
    have h2 : ((RC.vals (nth rs i))[0]?) = some (.int .i64 (nth rs i).k) := rfl
    exact World.block_lt_of_cell? W ⟨b, i * 5 + 0, none⟩ (hb _ _ (h1.trans h2))
  · have h1 := flat_get (E := elC) rs i j (by omega) hj
    have h2 : ∃ y, (RC.vals (nth rs i))[j]? = some y := by
      have : j < (RC.vals (nth rs i)).length := by simp [RC.vals]; omega
      exact ⟨_, List.getElem?_eq_getElem this⟩
    obtain ⟨y, hy⟩ := h2
    have h3 : W.cell? ⟨b, i * 5 + j, none⟩ = some y := hb _ _ (h1.trans hy)
    show W.cell? ⟨b, 0 + i * 5 + j, none⟩ = _
    rw [show 0 + i * 5 + j = i * 5 + j by omega, h3]
    show some y = some (((RC.vals (nth rs i))[j]?).getD undef)
    rw [hy]; rfl
  · obtain ⟨h1, h2, h3, h4, h5, h6⟩ := h i hi
    exact ⟨h1, h2, h3, h4, by rw [h5, h6]; exact Lst.nil _ _⟩
theorem grid_lit {W : World} {b : Nat} (vs : List Value) (ll : List (List Int)) (hlen : vs.length = ll.length) (hcap : vs.length ≤ 1000) (hb : ∀ j y, vs[j]? = some y → W.cell? ⟨b, j, none⟩ = some y) (h : ∀ i, i < ll.length → Ints W (nth vs i) (nth ll i)) :
    Grid (Value.int .i64) W (.slice (some ⟨b, 0, none⟩) vs.length vs.length) vs ll := by
  refine ⟨⟨some ⟨b, 0, none⟩, vs.length, rfl, Nat.le_refl _, by unfold maxLen; omega, fun i hi => ?_⟩, hlen, h⟩
  have h1 := hb i (nth vs i) (by rw [nth_eq _ _ hi]; exact List.getElem?_eq_getElem hi)
  refine ⟨rfl, World.block_lt_of_cell? W ⟨b, i, none⟩ h1, fun j hj => ?_⟩
  obtain rfl : j = 0 := by omega
  show W.cell? ⟨b, 0 + i * 1 + 0, none⟩ = _
  rw [show 0 + i * 1 + 0 = i by omega]; exact h1
theorem ints_cell {W : World} {b : Nat} {x : Int} (h : W.cell? ⟨b, 0, none⟩ = some (.int .i64 x)) : Ints W (.slice (some ⟨b, 0, none⟩) 1 1) [x] := by
  refine ⟨some ⟨b, 0, none⟩, 1, rfl, by simp, by unfold maxLen; omega, fun i hi => ⟨rfl, World.block_lt_of_cell? W _ h, fun j hj => ?_⟩⟩
  simp at hi
  obtain rfl : j = 0 := by omega
  obtain rfl : i = 0 := by omega
  simpa [blk, ofs, nth] using h

/-- The least solution is closed. -/
theorem sol_closed {s : Sy} {lu lv : List (List Int)} (h0 : chkCode s = 0) (hs : Sol s.S lu lv) : ClosedP s lu lv := by
  have hv := chkCode_ok.1 h0
  have hok := hv.ok
  have hsol : ∀ i, i < (lu ++ lv).length → IsSol s.S i (nth (lu ++ lv) i) := by
    intro i hi
    rw [nth_append]
    have h1 := hs.1
    have h2 := hs.2.1
    by_cases e : i < lu.length
    · rw [if_pos e]; exact hs.2.2.1 i (by omega)
    · rw [if_neg e]
      simp at hi
      have := hs.2.2.2 (i - lu.length) (by omega)
      rw [h1, show s.S.vars + (i - s.S.vars) = i by omega] at this
      rw [h1]; exact this
  have hlen : (lu ++ lv).length = s.S.N := by simp [hs.1, hs.2.1, Syst.N]
  have hmem : ∀ i x, ((x : Nat) : Int) ∈ nth (lu ++ lv) i ↔ Pts s.S i x := by
    intro i x
    by_cases hi : i < (lu ++ lv).length
    · rw [(hsol i hi).mem]; simp
    · rw [nth_out _ _ (by omega)]
      constructor
      · intro h; cases h
      · intro h; have := (pts_bound hok h).1; omega
  refine ⟨h0, hs.1, hs.2.1, fun i hi => ?_, fun c hc => ?_⟩
  · obtain ⟨L, hL, h1, h2⟩ := hsol i hi
    constructor
    · rw [subB_iff]
      intro j hj
      have hx := nth_mem _ _ hj
      obtain ⟨h3, h4⟩ := ((hsol i hi).mem _).1 hx
      have h5 := (pts_bound hok h4).2
      have h6 : s.S.sites = s.sites.toNat := rfl
      omega
    · unfold ascB
      rw [decide_eq_true_eq, hL, List.pairwise_map]
      exact h1.imp fun h => by omega
  · have := pts_shut s.S c hc
    simpa only [hmem] using this

def s0 : Sy := ⟨2, 1, 1, [⟨1, 0, 0, 0, []⟩, ⟨4, 0, 0, 0, []⟩, ⟨3, 0, 1, 0, []⟩]⟩
def sB : Sy := ⟨2, 0, 0, [⟨2, 0, 2, 0, []⟩]⟩
def sN : Sy := ⟨-1, 0, 0, []⟩
def sK : Sy := ⟨0, 0, 0, [⟨0, 0, 0, 0, []⟩]⟩
def sE : Sy := ⟨1, 1, 0, []⟩
theorem chk_s0 : chkCode s0 = 0 := by decide
theorem chk_sB : chkCode sB = 4 := by decide
theorem chk_sN : chkCode sN = 4 := by decide
theorem chk_sK : chkCode sK = 12 := by decide
theorem chk_sE : chkCode sE = 0 := by decide
theorem sol0 : Sol s0.S [[0], [0]] [[0]] := by
  have h0 : Pts s0.S 0 0 := fun p hp => (hp ⟨1, 0, 0, 0, []⟩ (by simp [s0, Sy.S, R.C])).1 rfl
  have h2 : Pts s0.S 2 0 := fun p hp => by
    have := (hp ⟨4, 0, 0, 0, []⟩ (by simp [s0, Sy.S, R.C])).2.2.2.1 rfl 0 (h0 p hp) 0 (h0 p hp)
    simpa [Syst.cell, s0, Sy.S] using this
  have h1 : Pts s0.S 1 0 := fun p hp => by
    have := (hp ⟨3, 0, 1, 0, []⟩ (by simp [s0, Sy.S, R.C])).2.2.1 rfl 0 (h0 p hp) 0 (by simpa [Syst.cell, s0, Sy.S] using h2 p hp)
    exact this
  have hS : ∀ i, Pts s0.S i 0 → IsSol s0.S i [0] := fun i hi => ⟨[0], rfl, by simp, fun y => by
    constructor
    · intro h; simp at h; subst h; exact hi
    · intro h
      have := (pts_bound (chkCode_ok.1 chk_s0).ok h).2
      have e : s0.S.sites = 1 := rfl
      simp; omega⟩
  refine ⟨rfl, rfl, fun i hi => ?_, fun i hi => ?_⟩
  · have : i = 0 ∨ i = 1 := by have : s0.S.vars = 2 := rfl; omega
    rcases this with rfl | rfl
    · exact hS 0 h0
    · exact hS 1 h1
  · have : i = 0 := by have : s0.S.sites * s0.S.fields = 1 := rfl; omega
    subst this
    exact hS 2 h2
theorem sol_s0 {lu lv : List (List Int)} (h : Sol s0.S lu lv) : lu = [[0], [0]] ∧ lv = [[0]] := h.unique sol0
theorem not_closed_q : ¬ ClosedP s0 [[0], []] [[0]] := fun h => by
  have := (h.shut ⟨3, 0, 1, 0, []⟩ (by simp [s0, Sy.S, R.C])).2.2.1 rfl 0 (by simp [nth]) 0 (by simp [nth, Syst.cell, s0, Sy.S])
  simp [nth] at this
theorem not_derive_e : ¬ DeriveP sE [[0]] [] := fun ⟨_, lu, lv, hs, hw, _⟩ => by
  have h1 := ((winB_iff _ _).1 hw).2 0 (by simp) 0 (by simp [nth])
  have h2 := ((hs.2.2.1 0 (by show 0 < 1; omega)).mem 0).1 h1
  exact h2.2 (fun _ _ => False) (fun c hc => by simp [sE, Sy.S] at hc)
theorem sm_lit (s : Sy) (h1 : s.vars ≤ 40) (h2 : s.sites ≤ 12) (h3 : s.fields ≤ 5) (h4 : s.cons.length ≤ 101) : Sm s := ⟨h1, h2, h3, h4⟩

theorem grownBy_below' {w w' : World} (h : Below w.heap.size w w') : w.grownBy w' none := grownBy_below h
theorem calls_gen {P : Program} {f : FuncId} {args : Array Value} {w : World} {Q : Ending → World → Prop} (p : World → Prop) (hw : p w) (h : ∀ W, p W → Calls P f args W Q) : Calls P f args w Q := h w hw
theorem nilCons (W : World) : ConsIn W (.slice none 0 0) [] := ⟨[], rfl, ⟨none, 0, rfl, by simp, by unfold maxLen; omega, fun i hi => by simp at hi⟩, fun i hi => by simp at hi⟩
theorem nilGrid (W : World) : Grid (Value.int .i64) W (.slice none 0 0) [] [] := ⟨Lst.nil _ _, rfl, fun i hi => by simp at hi⟩

/-- What the example has in memory. -/
structure AwkIn (w0 : World) (sb pb qb : Nat) (cv u v g h : Value) (Z : World) : Prop where
  s : BoxS Z sb s0 cv
  p0 : Z.cell? ⟨pb, 0, none⟩ = some u
  p1 : Z.cell? ⟨pb, 1, none⟩ = some v
  q0 : Z.cell? ⟨qb, 0, none⟩ = some g
  q1 : Z.cell? ⟨qb, 1, none⟩ = some h
  cs : ConsIn Z cv s0.cons
  pp : PtsIn Z u v [[0], [0]] [[0]]
  qq : PtsIn Z g h [[0], []] [[0]]
  bel : Below w0.heap.size w0 Z
theorem AwkIn.below {w0 : World} {sb pb qb : Nat} {cv u v q1 q2 : Value} {Z Z' : World} (h : AwkIn w0 sb pb qb cv u v q1 q2 Z) (hb : Below Z.heap.size Z Z') : AwkIn w0 sb pb qb cv u v q1 q2 Z' :=
  have g := grownBy_below hb
  ⟨h.s.grown g (by simp), g.cell h.p0 (by simp), g.cell h.p1 (by simp), g.cell h.q0 (by simp), g.cell h.q1 (by simp), h.cs.below hb, h.pp.below hb, h.qq.below hb, h.bel.trans (hb.mono h.bel.size)⟩
theorem inR_lit1 : InR [[0], [0]] := fun i hi x hx => by
  have : i = 0 ∨ i = 1 := by simp at hi; omega
  rcases this with rfl | rfl <;> (simp [nth] at hx; subst hx; omega)
theorem inR_lit2 : InR [[0]] := fun i hi x hx => by
  have : i = 0 := by simp at hi; omega
  subst this; simp [nth] at hx; subst hx; omega
theorem inR_lit3 : InR [[0], []] := fun i hi x hx => by
  have : i = 0 ∨ i = 1 := by simp at hi; omega
  rcases this with rfl | rfl
  · simp [nth] at hx; subst hx; omega
  · simp [nth] at hx
theorem len_lit (ll : List (List Int)) (h : ∀ l ∈ ll, l.length ≤ 1) : ∀ i, i < ll.length → (nth ll i).length ≤ 1000000 := fun i hi => Nat.le_trans (h _ (nth_mem _ _ hi)) (by omega)

set_option maxHeartbeats 12800000 in
set_option maxRecDepth 100000 in
theorem awake_any (W : World) : Calls Try.prog 9 #[] W fun e W' => e = .returned (.bool true) ∧ Below W.heap.size W W' := by
  go_enter Try.func9, Try.ntmps9
  go_wp2_with fail
  have hc0 := cells_new (W := W) (cs := ([⟨1, 0, 0, 0, none, 0, 0⟩, ⟨4, 0, 0, 0, none, 0, 0⟩, ⟨3, 0, 1, 0, none, 0, 0⟩] : List RC).flatMap RC.vals) (t := 39) rfl
  have hx0 : ConsIn (W.alloc (.cells (([⟨1, 0, 0, 0, none, 0, 0⟩, ⟨4, 0, 0, 0, none, 0, 0⟩, ⟨3, 0, 1, 0, none, 0, 0⟩] : List RC).flatMap RC.vals).toArray 39)) (.slice (some ⟨W.heap.size, 0, none⟩) 3 3) s0.cons := consIn_lit _ s0.cons rfl (by decide) hc0 (fun i hi => by
    have : i = 0 ∨ i = 1 ∨ i = 2 := by have : s0.cons.length = 3 := rfl; omega
    rcases this with rfl | rfl | rfl <;> exact ⟨rfl, rfl, rfl, rfl, rfl, rfl⟩)
  refine calls_gen (fun Z => ConsIn Z (.slice (some ⟨W.heap.size, 0, none⟩) 3 3) s0.cons ∧ BoxS Z (W.heap.size + 1) s0 (.slice (some ⟨W.heap.size, 0, none⟩) 3 3) ∧ Below W.heap.size W Z) ⟨hx0.below ((Below.refl _ _).alloc (Nat.le_refl _) _), ?_, below2' _ _ _⟩ ?_
  · have := BoxS.new (W.alloc (.cells (([⟨1, 0, 0, 0, none, 0, 0⟩, ⟨4, 0, 0, 0, none, 0, 0⟩, ⟨3, 0, 1, 0, none, 0, 0⟩] : List RC).flatMap RC.vals).toArray 39)) s0 (.slice (some ⟨W.heap.size, 0, none⟩) 3 3) 24
    rw [show (W.alloc (.cells (([⟨1, 0, 0, 0, none, 0, 0⟩, ⟨4, 0, 0, 0, none, 0, 0⟩, ⟨3, 0, 1, 0, none, 0, 0⟩] : List RC).flatMap RC.vals).toArray 39)).heap.size = W.heap.size + 1 by simp only [World.size_alloc]] at this
    exact this
  clear hc0 hx0
  rintro Z1 ⟨hx1, hb1, hbe1⟩
  have H1 := Lib.hid (And.intro hx1 (And.intro hb1 hbe1))
  clear hx1 hb1 hbe1
  refine (Solve_any s0 (.slice (some ⟨W.heap.size, 0, none⟩) 3 3) Z1 H1.out.1 (sm_lit _ (by decide) (by decide) (by decide) (by decide))).mono ?_
  rintro e W1 (⟨hbad, -⟩ | ⟨-, xa, xc, ya, yc, lu, lv, rfl, hpts, hsol, q1⟩)
  · exact absurd chk_s0 hbad
  obtain ⟨rfl, rfl⟩ := sol_s0 hsol
  have ev : s0.S.vars = 2 := rfl
  have ew : s0.S.sites * s0.S.fields = 1 := rfl
  rw [ev, ew] at hpts ⊢
  clear ev ew hsol
  have hb1 := H1.out.2.1.grown (grownBy_below q1) (by simp)
  have hcs1 := H1.out.1.below q1
  have hbe1 : Below W.heap.size W W1 := H1.out.2.2.trans (q1.mono H1.out.2.2.size)
  obtain ⟨⟨us, hu⟩, vs, hv⟩ := hpts
  obtain ⟨xa2, xc2, he1, -, hxi, hxc, hxb⟩ := hu.1.out1 sInt2
  simp only [Value.slice.injEq] at he1
  obtain ⟨rfl, hul, rfl⟩ := he1
  obtain ⟨ya2, yc2, he2, -, hyi, hyc, hyb⟩ := hv.1.out1 sInt2
  simp only [Value.slice.injEq] at he2
  obtain ⟨rfl, hvl, rfl⟩ := he2
  rw [← hul] at hxi hxc hxb
  rw [← hvl] at hyi hyc hyb
  obtain ⟨aa, ac, ea, -, hai, hac, hab⟩ := (hu.2.2 1 (by simp)).out1 sInt
  obtain ⟨ba, bc, eb, -, hbi, hbc, hbb⟩ := (hv.2.2 0 (by simp)).out1 sInt
  have el1 : (nth [[(0 : Int)], [0]] 1).length = 1 := rfl
  have el2 : (nth [[(0 : Int)]] 0).length = 1 := rfl
  rw [el1] at ea hai hac hab
  rw [el2] at eb hbi hbc hbb
  have cx1 := hxc 1 (by omega)
  have cy0 := hyc 0 (by omega)
  rw [ea] at cx1
  rw [eb] at cy0
  have ca0 : W1.cell? ⟨blk aa, ofs aa, none⟩ = some (.int .i64 0) := hac 0 (by omega)
  have cb0 : W1.cell? ⟨blk ba, ofs ba, none⟩ = some (.int .i64 0) := hbc 0 (by omega)
  have ixx := hxi .i64 1 (by omega) (by omega)
  have ixy := hyi .i64 0 (by omega) (by omega)
  have ixa := hai .i64 0 (by omega) (by omega)
  have ixb := hbi .i64 0 (by omega) (by omega)
  simp only [Int.toNat_one, Int.toNat_zero, Nat.add_zero] at ixx ixy ixa ixb cy0
  have lt1 := hxb 1 (by omega)
  have lt2 := hyb 0 (by omega)
  have lt3 := hab 0 (by omega)
  have lt4 := hbb 0 (by omega)
  obtain ⟨d0, d1, d2, d3⟩ := hb1
  have ltS : W.heap.size + 1 < W1.heap.size := World.block_lt_of_cell? W1 ⟨W.heap.size + 1, 0, none⟩ d0
  have H2 := Lib.hid (And.intro hu (And.intro hv (And.intro hcs1 (And.intro hbe1 (show BoxS W1 (W.heap.size + 1) s0 _ from ⟨d0, d1, d2, d3⟩)))))
  clear hu hv hcs1 hbe1 hxi hyi hai hbi hxc hyc hac hbc hxb hyb hab hbb q1 H1 hul hvl ea eb el1 el2
  go_wp2_with fail
  refine calls_gen (fun Z => AwkIn W (W.heap.size + 1) W1.heap.size (W1.heap.size + 1 + 1 + 1 + 1 + 1) (.slice (some ⟨W.heap.size, 0, none⟩) 3 3) (.slice xa 2 xc) (.slice ya 1 yc) (.slice (some ⟨W1.heap.size + 1 + 1, 0, none⟩) 2 2) (.slice (some ⟨W1.heap.size + 1 + 1 + 1 + 1, 0, none⟩) 1 1) Z ∧ ConsIn Z (.slice (some ⟨W1.heap.size + 1 + 1 + 1 + 1 + 1 + 1, 0, none⟩) 1 1) sB.cons ∧ Below W1.heap.size W1 Z) ?_ ?_
  · have hZ : Below W1.heap.size W1 ((((((((W1.alloc (.cells #[.slice xa 2 xc, .slice ya 1 yc] 29)).alloc (.cells #[.int .i64 0] 3)).alloc (.cells #[.slice (some ⟨W1.heap.size + 1, 0, none⟩) 1 1, .slice none 0 0] 37)).alloc (.cells #[.int .i64 0] 3)).alloc (.cells #[.slice (some ⟨W1.heap.size + 1 + 1 + 1, 0, none⟩) 1 1] 37)).alloc (.cells #[.slice (some ⟨W1.heap.size + 1 + 1, 0, none⟩) 2 2, .slice (some ⟨W1.heap.size + 1 + 1 + 1 + 1, 0, none⟩) 1 1] 29)).alloc (.cells #[.int .i64 2, .int .i64 0, .int .i64 2, .int .i64 0, .slice none 0 0] 39)).alloc (.cells #[.int .i64 2, .int .i64 0, .int .i64 0, .slice (some ⟨W1.heap.size + 1 + 1 + 1 + 1 + 1 + 1, 0, none⟩) 1 1] 24)) := by
      repeat (refine Below.alloc ?_ (by simp; try omega) _)
      exact Below.refl _ _
    refine ⟨⟨H2.out.2.2.2.2.grown (grownBy_below' hZ) (by simp), by go_simp, by go_simp, by go_simp, by go_simp, H2.out.2.2.1.below hZ, ⟨⟨us, H2.out.1.below hZ⟩, vs, H2.out.2.1.below hZ⟩, ⟨⟨_, grid_lit [.slice (some ⟨W1.heap.size + 1, 0, none⟩) 1 1, .slice none 0 0] [[0], []] rfl (by simp) (fun j y h => ?_) (fun i hi => ?_)⟩, _, grid_lit [.slice (some ⟨W1.heap.size + 1 + 1 + 1, 0, none⟩) 1 1] [[0]] rfl (by simp) (fun j y h => ?_) (fun i hi => ?_)⟩, H2.out.2.2.2.1.trans (hZ.mono H2.out.2.2.2.1.size)⟩, consIn_lit [⟨2, 0, 2, 0, none, 0, 0⟩] sB.cons rfl (by decide) (fun j y h => ?_) (fun i hi => ?_), hZ⟩
    · rcases j with _ | _ | j
      · simp at h; subst h; go_simp
      · simp at h; subst h; go_simp
      · simp at h
    · rcases i with _ | _ | i
      · exact ints_cell (by go_simp)
      · exact Lst.nil _ _
      · simp at hi; omega
    · rcases j with _ | j
      · simp at h; subst h; go_simp
      · simp at h
    · rcases i with _ | i
      · exact ints_cell (by go_simp)
      · simp at hi
    · rcases j with _ | _ | _ | _ | _ | j
      · simp [RC.vals] at h; subst h; go_simp
      · simp [RC.vals] at h; subst h; go_simp
      · simp [RC.vals] at h; subst h; go_simp
      · simp [RC.vals] at h; subst h; go_simp
      · simp [RC.vals] at h; subst h; go_simp
      · simp [RC.vals] at h
    · have : i = 0 := by have : sB.cons.length = 1 := rfl; omega
      subst this
      exact ⟨rfl, rfl, rfl, rfl, rfl, rfl⟩
  clear d0 d1 d2 d3 ltS
  rintro Z3 ⟨hA3, hcB, hZ3⟩
  rw [← hZ3.cell (p := ⟨blk xa, ofs xa + 1, none⟩) lt1] at cx1
  rw [← hZ3.cell (p := ⟨blk ya, ofs ya, none⟩) lt2] at cy0
  rw [← hZ3.cell (p := ⟨blk aa, ofs aa, none⟩) lt3] at ca0
  rw [← hZ3.cell (p := ⟨blk ba, ofs ba, none⟩) lt4] at cb0
  clear H2 lt1 lt2 lt3 lt4 hZ3
  obtain ⟨pb, hpb⟩ : ∃ pb, pb = W1.heap.size := ⟨_, rfl⟩
  obtain ⟨qb, hqb⟩ : ∃ qb, qb = W1.heap.size + 1 + 1 + 1 + 1 + 1 := ⟨_, rfl⟩
  obtain ⟨sb, hsb⟩ : ∃ sb, sb = W.heap.size + 1 := ⟨_, rfl⟩
  obtain ⟨cv, hcv⟩ : ∃ cv, cv = Value.slice (some ⟨W.heap.size, 0, none⟩) 3 3 := ⟨_, rfl⟩
  obtain ⟨gv, hgv⟩ : ∃ gv, gv = Value.slice (some ⟨W1.heap.size + 1 + 1, 0, none⟩) 2 2 := ⟨_, rfl⟩
  obtain ⟨hv, hhv⟩ : ∃ hv, hv = Value.slice (some ⟨W1.heap.size + 1 + 1 + 1 + 1, 0, none⟩) 1 1 := ⟨_, rfl⟩
  obtain ⟨bv, hbv⟩ : ∃ bv, bv = Value.slice (some ⟨W1.heap.size + 1 + 1 + 1 + 1 + 1 + 1, 0, none⟩) 1 1 := ⟨_, rfl⟩
  rw [← hbv] at hcB
  have oc : cv.oneCell' = true := by rw [hcv]; rfl
  have og : gv.oneCell' = true := by rw [hgv]; rfl
  have oh : hv.oneCell' = true := by rw [hhv]; rfl
  have hA3' : AwkIn W sb pb qb cv (.slice xa 2 xc) (.slice ya 1 yc) gv hv Z3 := by rw [hsb, hpb, hqb, hcv, hgv, hhv]; exact hA3
  have H3 := Lib.hid (And.intro hA3' hcB)
  rw [← hcv, ← hbv, ← hqb, ← hgv, ← hhv, ← hpb, ← hsb]
  clear hA3 hA3' hcB hpb hqb hsb hcv hgv hhv hbv
  refine (Solve_any sB bv Z3 H3.out.2 (sm_lit _ (by decide) (by decide) (by decide) (by decide))).mono ?_
  intro e W4 h4
  have h5 : e = .returned (.tuple #[.agg #[.slice none 0 0, .slice none 0 0], .int .i64 4]) ∧ Below Z3.heap.size Z3 W4 := by
    rcases h4 with ⟨-, h, q⟩ | ⟨hbad, -⟩
    · rw [chk_sB] at h; exact ⟨h, q⟩
    · rw [chk_sB] at hbad; omega
  obtain ⟨rfl, q4⟩ := h5
  have hA4 := H3.out.1.below q4
  have g4 := grownBy_below q4
  replace cx1 := g4.cell cx1 (by simp)
  replace cy0 := g4.cell cy0 (by simp)
  replace ca0 := g4.cell ca0 (by simp)
  replace cb0 := g4.cell cb0 (by simp)
  obtain ⟨⟨d0, d1, d2, d3⟩, p0, p1, q0, q1, -, -, -, -⟩ := hA4
  have hA4' := (H3.out.1.below q4).below ((Below.refl W4.heap.size W4).alloc (Nat.le_refl _) (.cells #[.slice none 0 0, .slice none 0 0] 29))
  have H4 := Lib.hid hA4'
  have l1 : sb < W4.heap.size := World.block_lt_of_cell? W4 ⟨sb, 0, none⟩ d0
  have l2 : pb < W4.heap.size := World.block_lt_of_cell? W4 ⟨pb, 0, none⟩ p0
  have l3 : qb < W4.heap.size := World.block_lt_of_cell? W4 ⟨qb, 0, none⟩ q0
  have l4 : blk xa < W4.heap.size := World.block_lt_of_cell? W4 ⟨blk xa, ofs xa + 1, none⟩ cx1
  have l5 : blk ya < W4.heap.size := World.block_lt_of_cell? W4 ⟨blk ya, ofs ya, none⟩ cy0
  have l6 : blk aa < W4.heap.size := World.block_lt_of_cell? W4 ⟨blk aa, ofs aa, none⟩ ca0
  have l7 : blk ba < W4.heap.size := World.block_lt_of_cell? W4 ⟨blk ba, ofs ba, none⟩ cb0
  have n1 : sb ≠ W4.heap.size := by omega
  have n2 : pb ≠ W4.heap.size := by omega
  have n3 : qb ≠ W4.heap.size := by omega
  have n4 : blk xa ≠ W4.heap.size := by omega
  have n5 : blk ya ≠ W4.heap.size := by omega
  have n6 : blk aa ≠ W4.heap.size := by omega
  have n7 : blk ba ≠ W4.heap.size := by omega
  clear hA4' q4 g4 h4 H3
  have sm0 : Sm s0 := sm_lit _ (by decide) (by decide) (by decide) (by decide)
  have Hsm := Lib.hid sm0
  clear sm0
  go_wp2_with fail
  clear d0 d1 d2 d3 p0 p1 q0 q1 l1 l2 l3 l4 l5 l6 l7 n1 n2 n3 n4 n5 n6 n7 cx1 cy0 ca0 cb0 ixx ixy ixa ixb
  refine (Closed_any s0 cv _ _ [[0], [0]] [[0]] _ H4.out.cs Hsm.out H4.out.pp (by simp) (by simp)).mono ?_
  rintro e W5 ⟨b, rfl, hb, r5⟩
  obtain rfl : b = true := hb.2 (sol_closed chk_s0 sol0)
  clear hb
  have hA5 := H4.out.below r5
  obtain ⟨⟨d0, d1, d2, d3⟩, p0, p1, q0, q1, -, -, -, -⟩ := hA5
  have H5 := Lib.hid (H4.out.below r5)
  clear H4 r5
  go_wp2_with fail
  clear d0 d1 d2 d3 p0 p1 q0 q1
  refine (Closed_any s0 cv _ _ [[0], []] [[0]] _ H5.out.cs Hsm.out H5.out.qq (by simp) (by simp)).mono ?_
  rintro e W6 ⟨b, rfl, hb, r6⟩
  obtain rfl : b = false := by cases b; rfl; exact absurd (hb.1 rfl) not_closed_q
  clear hb
  have hA6 := H5.out.below r6
  obtain ⟨⟨d0, d1, d2, d3⟩, p0, p1, q0, q1, -, -, -, -⟩ := hA6
  have H6 := Lib.hid (H5.out.below r6)
  clear H5 r6
  go_wp2_with fail
  clear d0 d1 d2 d3 p0 p1 q0 q1
  refine (WithinP_any _ _ _ _ [[0], []] [[0]] [[0], [0]] [[0]] _ H6.out.qq H6.out.pp inR_lit3 inR_lit2 inR_lit1 inR_lit2 (len_lit _ (by simp)) (len_lit _ (by simp))).mono ?_
  rintro e W7 ⟨rfl, r7⟩
  rw [show (winB [[0], []] [[0], [0]] && winB [[0]] [[0]]) = true by decide]
  have hA7 := H6.out.below r7
  obtain ⟨⟨d0, d1, d2, d3⟩, p0, p1, q0, q1, -, -, -, -⟩ := hA7
  have H7 := Lib.hid (H6.out.below r7)
  clear H6 r7
  go_wp2_with fail
  clear d0 d1 d2 d3 p0 p1 q0 q1
  refine (WithinP_any _ _ _ _ [[0], [0]] [[0]] [[0], []] [[0]] _ H7.out.pp H7.out.qq inR_lit1 inR_lit2 inR_lit3 inR_lit2 (len_lit _ (by simp)) (len_lit _ (by simp))).mono ?_
  rintro e W8 ⟨rfl, r8⟩
  rw [show (winB [[0], [0]] [[0], []] && winB [[0]] [[0]]) = false by decide]
  have hA8 := H7.out.below r8
  obtain ⟨⟨d0, d1, d2, d3⟩, p0, p1, q0, q1, -, -, -, -⟩ := hA8
  have H8 := Lib.hid (H7.out.below r8)
  clear H7 r8
  go_wp2_with fail
  clear d0 d1 d2 d3 p0 p1 q0 q1
  refine (Derive_any s0 cv _ _ [[0], [0]] [[0]] _ H8.out.cs Hsm.out H8.out.pp (by simp) (by simp) inR_lit1 inR_lit2).mono ?_
  rintro e W9 ⟨b, rfl, hb, r9⟩
  obtain rfl : b = true := hb.2 ⟨sol_closed chk_s0 sol0, _, _, sol0, by decide, by decide⟩
  clear hb
  have hA9 := H8.out.below r9
  obtain ⟨⟨d0, d1, d2, d3⟩, p0, p1, q0, q1, -, -, -, -⟩ := hA9
  have H9 := Lib.hid (H8.out.below r9)
  clear H8 r9
  go_wp2_with fail
  clear d0 d1 d2 d3 p0 p1 q0 q1
  refine (Check_any sN (.slice none 0 0) _ (nilCons _) (sm_lit _ (by decide) (by decide) (by decide) (by decide))).mono ?_
  rintro e W10 ⟨rfl, r10⟩
  rw [chk_sN]
  have hA10 := H9.out.below r10
  obtain ⟨⟨d0, d1, d2, d3⟩, p0, p1, q0, q1, -, -, -, -⟩ := hA10
  have H10 := Lib.hid (H9.out.below r10)
  clear H9 r10
  go_wp2_with fail
  clear d0 d1 d2 d3 p0 p1 q0 q1
  have hbA : Below W10.heap.size W10 (W10.alloc (.cells #[.int .i64 0, .int .i64 0, .int .i64 0, .int .i64 0, .slice none 0 0] 39)) := (Below.refl _ _).alloc (Nat.le_refl _) _
  have hkk := cells_new (W := W10) (cs := ([⟨0, 0, 0, 0, none, 0, 0⟩] : List RC).flatMap RC.vals) (t := 39) rfl
  have hck : ConsIn (W10.alloc (.cells #[.int .i64 0, .int .i64 0, .int .i64 0, .int .i64 0, .slice none 0 0] 39)) (.slice (some ⟨W10.heap.size, 0, none⟩) 1 1) sK.cons := consIn_lit [⟨0, 0, 0, 0, none, 0, 0⟩] sK.cons rfl (by decide) hkk (fun i hi => by
    have : i = 0 := by have : sK.cons.length = 1 := rfl; omega
    subst this
    exact ⟨rfl, rfl, rfl, rfl, rfl, rfl⟩)
  have H11 := Lib.hid (And.intro (H10.out.below hbA) hck)
  clear hbA hkk hck H10
  refine (Check_any sK _ _ H11.out.2 (sm_lit _ (by decide) (by decide) (by decide) (by decide))).mono ?_
  rintro e W12 ⟨rfl, r12⟩
  rw [chk_sK]
  have H12 := Lib.hid (H11.out.1.below r12)
  clear H11 r12
  go_wp2_with fail
  refine calls_gen (fun Z => PtsIn Z (.slice (some ⟨W12.heap.size + 1, 0, none⟩) 1 1) (.slice none 0 0) [[0]] [] ∧ Below W.heap.size W Z) ?_ ?_
  · refine ⟨⟨⟨_, grid_lit [.slice (some ⟨W12.heap.size, 0, none⟩) 1 1] [[0]] rfl (by simp) (fun j y h => ?_) (fun i hi => ?_)⟩, _, nilGrid _⟩, (H12.out.bel.alloc H12.out.bel.size _).alloc (by have := H12.out.bel.size; simp; omega) _⟩
    · rcases j with _ | j
      · simp at h; subst h; go_simp
      · simp at h
    · rcases i with _ | i
      · exact ints_cell (by go_simp)
      · simp at hi
  rintro Z13 ⟨hp13, hb13⟩
  have H13 := Lib.hid (And.intro hp13 hb13)
  clear hp13 hb13 H12
  refine (Derive_any sE (.slice none 0 0) _ _ [[0]] [] _ (nilCons _) (sm_lit _ (by decide) (by decide) (by decide) (by decide)) H13.out.1 (by simp) (by simp) inR_lit2 (fun i hi => by simp at hi)).mono ?_
  rintro e W14 ⟨b, rfl, hb, r14⟩
  obtain rfl : b = false := by cases b; rfl; exact absurd (hb.1 rfl) not_derive_e
  have H14 := Lib.hid (H13.out.2.trans (r14.mono H13.out.2.size))
  clear hb r14 H13
  go_wp2_with fail
  go_ret
  exact ⟨rfl, H14.out⟩
end Go.Proofs.Ytdlfbkmjemamhaa
