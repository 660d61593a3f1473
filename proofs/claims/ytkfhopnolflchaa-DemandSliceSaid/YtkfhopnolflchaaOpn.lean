/- From a reading of a system and of an assignment to what a walk is told of them. -/
import Derived.Test.YtkfhopnolflchaaOpen
import Derived.Test.YtkfhopnolflchaaSysM
import Derived.Test.YtkfhopnolflchaaWin
import Derived.Deep.Slices
namespace Go.Dfl
theorem choice2 {α β : Type} [Inhabited α] [Inhabited β] (p : Nat → α → β → Prop) : ∀ n, (∀ i, i < n → ∃ x y, p i x y) → ∃ (xs : List α) (ys : List β), xs.length = n ∧ ys.length = n ∧ ∀ i, i < n → p i (nth xs i) (nth ys i)
  | 0, _ => ⟨[], [], rfl, rfl, fun i hi => by omega⟩
  | n + 1, h => by
    obtain ⟨xs, ys, h1, h2, h3⟩ := choice2 p n fun i hi => h i (by omega)
    obtain ⟨x, y, h4⟩ := h n (by omega)
    refine ⟨xs ++ [x], ys ++ [y], by simp [h1], by simp [h2], fun i hi => ?_⟩
    rw [nth_append, nth_append]
    by_cases e : i < n
    · rw [if_pos (by omega), if_pos (by omega)]; exact h3 i e
    · have : i = n := by omega
      subst this
      rw [if_neg (by omega), if_neg (by omega), h1, h2, Nat.sub_self]
      exact h4
end Go.Dfl
namespace Go.Proofs.Ytkfhopnolflchaa
open Go.ChangeShapes Go.WideShapes Go.ChangeAt Go.RowKit Go.Dfl Go.Deep Go.And

theorem cI : Try.prog.cellsOf 3 = 1 := by kernel_rfl
theorem cL : Try.prog.cellsOf 27 = 1 := by kernel_rfl
theorem cLL : Try.prog.cellsOf 39 = 1 := by kernel_rfl
theorem cC : Try.prog.cellsOf 37 = 5 := by kernel_rfl
theorem cCs : Try.prog.cellsOf 22 = 1 := by kernel_rfl
theorem cSy : Try.prog.cellsOf 24 = 4 := by kernel_rfl
theorem cPt : Try.prog.cellsOf 41 = 2 := by kernel_rfl

section
variable {H : Type} {enc : TypeId × Value → H} {w : World} {base : Nat} {spare : Nat → Bool} {held : Bool}

theorem ints_cs {n : Nat} {c : Value} {x : DataW H × List MemPlace} (h : DataW.trod enc Try.prog w base spare held n 27 [c] = some x) : ∃ (a : Option Addr) (k m : Nat) (l : List Int), c = .slice a k m ∧ Ints w c l ∧ ∀ x ∈ l, -9223372036854775808 ≤ x ∧ x ≤ 9223372036854775807 := by
  rcases open_slice Try.underlying27 h with ⟨hcs, _⟩ | ⟨a, len, cap, m, n', D, Pl, hcs, _⟩
  · simp at hcs; subst hcs
    exact ⟨none, 0, 0, [], rfl, Lst.nil _ _, by simp⟩
  · simp at hcs; subst hcs
    obtain ⟨l, -, h2, h3⟩ := ints_of_trod (enc := enc) (P := Try.prog) (t := 27) (e := 3) Try.underlying27 Try.underlying3 cI (a := some a) (len := len) (cap := cap) (d := x.1) (p := x.2) ⟨n, h⟩
    exact ⟨_, _, _, l, rfl, h2, h3⟩
theorem int_cs {n : Nat} {c : Value} {x : DataW H × List MemPlace} (h : DataW.trod enc Try.prog w base spare held n 3 [c] = some x) : ∃ y : Int, c = .int .i64 y ∧ -9223372036854775808 ≤ y ∧ y ≤ 9223372036854775807 := by
  obtain ⟨y, e0, _, wy⟩ := DataW.trod_int Try.underlying3 h
  simp at e0
  have b0 := bounds_i64 wy
  exact ⟨y, e0, by omega, by omega⟩

set_option maxRecDepth 100000 in
theorem grid_cs {n : Nat} {c : Value} {x : DataW H × List MemPlace} (h : DataW.trod enc Try.prog w base spare held n 39 [c] = some x) : ∃ (a : Option Addr) (m : Nat) (vs : List Value) (ll : List (List Int)), c = .slice a ll.length m ∧ Grid (Value.int .i64) w c vs ll ∧ InR ll := by
  rcases open_slice Try.underlying39 h with ⟨hcs, _⟩ | ⟨a, len, cap, m, n', D, Pl, hcs, _, hl, hm, hmm, _, hel⟩
  · simp at hcs; subst hcs
    exact ⟨none, 0, [], [], rfl, ⟨Lst.nil _ _, rfl, fun i hi => by simp at hi⟩, fun i hi => by simp at hi⟩
  · simp at hcs; subst hcs
    have hlm : len ≤ m := by rw [hmm]; split <;> omega
    obtain ⟨vs, ll, h1, h2, h3⟩ := choice2 (fun i (v : Value) (l : List Int) => w.cell? (a.add i) = some v ∧ Ints w v l ∧ ∀ x ∈ l, -9223372036854775808 ≤ x ∧ x ≤ 9223372036854775807) len (fun i hi => by
      obtain ⟨cs', hc, ht⟩ := hel i (by omega)
      rw [cL, Nat.mul_one] at hc
      obtain ⟨-, hlen, hcell⟩ := World.cells?_some hc
      obtain ⟨c, rfl⟩ : ∃ c, cs' = [c] := by
        match cs', hlen with
        | [c], _ => exact ⟨c, rfl⟩
      obtain ⟨a', k', m', l, -, hI, hr⟩ := ints_cs ht
      refine ⟨c, l, ?_, hI, hr⟩
      have := hcell 0 (by omega)
      simpa [Addr.add] using this)
    refine ⟨some a, cap, vs, ll, by rw [h2], ⟨⟨some a, cap, by rw [h1], by omega, hm, fun i hi => ?_⟩, by rw [h1, h2], fun i hi => (h3 i (by omega)).2.1⟩, fun i hi x hx => (h3 i (by omega)).2.2 x hx⟩
    have hsp : a.spot = none := add_spot rfl (h3 0 (by omega)).1
    have hi' := (h3 i (by omega)).1
    rw [addr_none hsp] at hi'
    refine ⟨?_, (cell_lt hi').1, fun j hj => ?_⟩
    · obtain ⟨b, o, s⟩ := a; simp at hsp; subst hsp; rfl
    · obtain rfl : j = 0 := by omega
      simp only [blk, ofs, Nat.mul_one, Nat.add_zero]
      exact hi'

set_option maxRecDepth 100000 in
theorem con_cs {n : Nat} {cs : List Value} {x : DataW H × List MemPlace} (h : DataW.trod enc Try.prog w base spare held n 37 cs = some x) : ∃ (rc : RC) (r : R), cs = rc.vals ∧ rc.k = r.k ∧ rc.a = r.a ∧ rc.b = r.b ∧ rc.f = r.f ∧ Ints w rc.set r.s := by
  obtain ⟨xs, n', -, -, hlen, hxs, hf⟩ := DataW.trod_struct Try.underlying37 h
  rw [cC] at hlen
  match cs, hlen with
  | [k0, k1, k2, k3, k4], _ =>
    match xs, hxs with
    | [x0, x1, x2, x3, x4], _ =>
      have f0 : DataW.trod enc Try.prog w base spare held n' 3 [k0] = some x0 := by
        have h9 := hf 0 _ rfl
        simpa [cI, cL] using h9
      have f1 : DataW.trod enc Try.prog w base spare held n' 3 [k1] = some x1 := by
        have h9 := hf 1 _ rfl
        simpa [cI, cL] using h9
      have f2 : DataW.trod enc Try.prog w base spare held n' 3 [k2] = some x2 := by
        have h9 := hf 2 _ rfl
        simpa [cI, cL] using h9
      have f3 : DataW.trod enc Try.prog w base spare held n' 3 [k3] = some x3 := by
        have h9 := hf 3 _ rfl
        simpa [cI, cL] using h9
      have f4 : DataW.trod enc Try.prog w base spare held n' 27 [k4] = some x4 := by
        have h9 := hf 4 _ rfl
        simpa [cI, cL] using h9
      obtain ⟨y0, rfl, -⟩ := int_cs f0
      obtain ⟨y1, rfl, -⟩ := int_cs f1
      obtain ⟨y2, rfl, -⟩ := int_cs f2
      obtain ⟨y3, rfl, -⟩ := int_cs f3
      obtain ⟨a, k, m, l, rfl, hI, -⟩ := ints_cs f4
      exact ⟨⟨y0, y1, y2, y3, a, k, m⟩, ⟨y0, y1, y2, y3, l⟩, rfl, rfl, rfl, rfl, rfl, hI⟩

set_option maxRecDepth 100000 in
theorem cons_cs {n : Nat} {c : Value} {x : DataW H × List MemPlace} (h : DataW.trod enc Try.prog w base spare held n 22 [c] = some x) : ∃ (a : Option Addr) (m : Nat) (l : List R), c = .slice a l.length m ∧ ConsIn w c l := by
  rcases open_slice Try.underlying22 h with ⟨hcs, _⟩ | ⟨a, len, cap, m, n', D, Pl, hcs, _, hl, hm, hmm, _, hel⟩
  · simp at hcs; subst hcs
    exact ⟨none, 0, [], rfl, [], rfl, ⟨none, 0, rfl, by simp, by unfold maxLen; omega, fun i hi => by simp at hi⟩, fun i hi => by simp at hi⟩
  · simp at hcs; subst hcs
    have hlm : len ≤ m := by rw [hmm]; split <;> omega
    obtain ⟨rs, l, h1, h2, h3⟩ := choice2 (fun i (rc : RC) (r : R) => (∀ j, j < 5 → w.cell? ((a.add (i * 5)).add j) = rc.vals[j]?) ∧ rc.k = r.k ∧ rc.a = r.a ∧ rc.b = r.b ∧ rc.f = r.f ∧ Ints w rc.set r.s) len (fun i hi => by
      obtain ⟨cs', hc, ht⟩ := hel i (by omega)
      rw [cC] at hc
      obtain ⟨-, hlen, hcell⟩ := World.cells?_some hc
      obtain ⟨rc, r, rfl, q⟩ := con_cs ht
      exact ⟨rc, r, hcell, q⟩)
    refine ⟨some a, cap, l, by rw [h2], rs, by rw [h1, h2], ⟨some a, cap, by rw [h2], by omega, hm, fun i hi => ?_⟩, fun i hi => (h3 i (by omega)).2⟩
    have hv : ∀ (rc : RC) j, j < 5 → ∃ y, rc.vals[j]? = some y := fun rc j hj => ⟨_, List.getElem?_eq_getElem (by simp [RC.vals]; omega)⟩
    have hsp : a.spot = none := by
      obtain ⟨y, hy⟩ := hv (nth rs 0) 0 (by omega)
      have := (h3 0 (by omega)).1 0 (by omega)
      rw [hy] at this
      have h9 := (cell_lt this).2
      obtain ⟨b, o, s⟩ := a
      simp [Addr.add] at h9
      exact h9
    have key : ∀ j, j < 5 → w.cell? ⟨a.block, a.off + i * 5 + j, none⟩ = (nth rs i).vals[j]? := fun j hj => by
      have := (h3 i (by omega)).1 j hj
      rw [addr_none hsp] at this
      rw [addr_none (x := ⟨a.block, a.off + i * 5, none⟩) rfl] at this
      exact this
    refine ⟨?_, ?_, fun j hj => ?_⟩
    · obtain ⟨b, o, s⟩ := a; simp at hsp; subst hsp; rfl
    · obtain ⟨y, hy⟩ := hv (nth rs i) 0 (by omega)
      have := key 0 (by omega)
      rw [hy] at this
      exact (cell_lt this).1
    · obtain ⟨y, hy⟩ := hv (nth rs i) j hj
      have := key j hj
      show w.cell? ⟨a.block, a.off + i * 5 + j, none⟩ = some (((nth rs i).vals[j]?).getD undef)
      rw [this, hy]; rfl

set_option maxRecDepth 100000 in
theorem sys_of_trod {c : Array Value} (hc : c.size = Try.prog.cellsOf 24) {d : DataW H} {p : List MemPlace} (h : DataW.Trod enc Try.prog w base spare held 24 (.agg c) d p) :
    ∃ (s : Sy) (cv : Value), (.agg c : Value) = SysV s cv ∧ ConsIn w cv s.cons := by
  rw [cSy] at hc
  obtain ⟨cs⟩ := c
  match cs, hc with
  | [c0, c1, c2, c3], _ =>
    obtain ⟨fuel, hf0⟩ := h
    have hf1 : DataW.trod enc Try.prog w base spare held fuel 24 [c0, c1, c2, c3] = some (d, p) := hf0
    obtain ⟨xs, n', -, -, hlen, hxs, hf⟩ := DataW.trod_struct Try.underlying24 hf1
    match xs, hxs with
    | [x0, x1, x2, x3], _ =>
      have f0 : DataW.trod enc Try.prog w base spare held n' 3 [c0] = some x0 := by
        have h9 := hf 0 _ rfl
        simpa [cI, cCs] using h9
      have f1 : DataW.trod enc Try.prog w base spare held n' 3 [c1] = some x1 := by
        have h9 := hf 1 _ rfl
        simpa [cI, cCs] using h9
      have f2 : DataW.trod enc Try.prog w base spare held n' 3 [c2] = some x2 := by
        have h9 := hf 2 _ rfl
        simpa [cI, cCs] using h9
      have f3 : DataW.trod enc Try.prog w base spare held n' 22 [c3] = some x3 := by
        have h9 := hf 3 _ rfl
        simpa [cI, cCs] using h9
      obtain ⟨y0, rfl, -⟩ := int_cs f0
      obtain ⟨y1, rfl, -⟩ := int_cs f1
      obtain ⟨y2, rfl, -⟩ := int_cs f2
      obtain ⟨a, m, l, rfl, hC⟩ := cons_cs f3
      exact ⟨⟨y0, y1, y2, l⟩, _, rfl, hC⟩

set_option maxRecDepth 100000 in
theorem pts_of_trod {c : Array Value} (hc : c.size = Try.prog.cellsOf 41) {d : DataW H} {p : List MemPlace} (h : DataW.Trod enc Try.prog w base spare held 41 (.agg c) d p) :
    ∃ (u v : Value) (a b : List (List Int)) (us vs : List Value), (.agg c : Value) = .agg #[u, v] ∧ Grid (Value.int .i64) w u us a ∧ Grid (Value.int .i64) w v vs b ∧ InR a ∧ InR b := by
  rw [cPt] at hc
  obtain ⟨cs⟩ := c
  match cs, hc with
  | [c0, c1], _ =>
    obtain ⟨fuel, hf0⟩ := h
    have hf1 : DataW.trod enc Try.prog w base spare held fuel 41 [c0, c1] = some (d, p) := hf0
    obtain ⟨xs, n', -, -, hlen, hxs, hf⟩ := DataW.trod_struct Try.underlying41 hf1
    match xs, hxs with
    | [x0, x1], _ =>
      have f0 : DataW.trod enc Try.prog w base spare held n' 39 [c0] = some x0 := by
        have h9 := hf 0 _ rfl
        simpa [cLL] using h9
      have f1 : DataW.trod enc Try.prog w base spare held n' 39 [c1] = some x1 := by
        have h9 := hf 1 _ rfl
        simpa [cLL] using h9
      obtain ⟨a, m, vs, ll, -, hG, hR⟩ := grid_cs f0
      obtain ⟨a', m', vs', ll', -, hG', hR'⟩ := grid_cs f1
      exact ⟨c0, c1, ll, ll', vs, vs', rfl, hG, hG', hR, hR'⟩
end
end Go.Proofs.Ytkfhopnolflchaa
