/- Contracts of Clone for ints and of a demand query's slice. -/
import Derived.Test.YtkfhopnolflchaaDmr
import Derived.Test.YtkfhopnolflchaaCls
namespace Go.And
open Go.Dfl (nth)
/-- Whether a constraint belongs to the slice. -/
def keepC (vl fl : List Bool) (c : C) : Bool := (decide (c.k = 4) && nth fl c.f) || (decide (c.k ≠ 4) && nth vl c.b)
def keepB (vl fl : List Bool) (r : R) : Bool := keepC vl fl r.C
def Sy.cut (s : Sy) (vl fl : List Bool) : Sy := { s with cons := s.cons.filter (keepB vl fl) }
theorem Sy.cut_sm {s : Sy} {vl fl : List Bool} (h : Sm s) : Sm (s.cut vl fl) := ⟨h.vars, h.sites, h.fields, Nat.le_trans (List.length_filter_le _ _) h.cons⟩
theorem Sy.cut_vld {s : Sy} {vl fl : List Bool} (h : Vld s) : Vld (s.cut vl fl) :=
  ⟨h.vars, h.sites, h.fields, fun c hc => by
    have g := h.cons c (List.mem_filter.1 hc).1
    exact ⟨g.kind, g.a, g.b, g.f, g.s, g.f0, g.s0, g.asc⟩⟩
theorem Sy.cut_slice {s : Sy} {vl fl : List Bool} {v : Nat} (h1 : ∀ x, nth vl x = true ↔ Vis s.S v x) (h2 : ∀ f, nth fl f = true ↔ LdF s.S v f) : SliceOfS s.S (s.cut vl fl).S v := by
  have hk : ∀ c : C, keepC vl fl c = true ↔ Keep s.S v c := fun c => by
    unfold keepC Keep
    simp [h1, h2]
  refine ⟨rfl, rfl, rfl, fun c => ?_⟩
  show c ∈ (s.cons.filter (keepB vl fl)).map R.C ↔ c ∈ s.cons.map R.C ∧ Keep s.S v c
  simp only [List.mem_map, List.mem_filter]
  constructor
  · rintro ⟨r, ⟨hr, hkr⟩, rfl⟩
    exact ⟨⟨r, hr, rfl⟩, (hk _).1 hkr⟩
  · rintro ⟨⟨r, hr, rfl⟩, hkr⟩
    exact ⟨r, ⟨hr, (hk _).2 hkr⟩, rfl⟩
end Go.And
namespace Go.Proofs.Ytkfhopnolflchaa
open Go.RowKit Go.Dfl Go.And

set_option maxHeartbeats 800000 in
theorem CloneI_any (u : Value) (l : List Int) (W : World) (h : Ints W u l) (hl : l.length ≤ 1000000) :
    Calls Try.prog 25 #[u] W fun e W' => ∃ a c, e = .returned (.slice a l.length c) ∧ OwnI W' W.heap.size 3 (.slice a l.length c) l ∧ Below W.heap.size W W' := by
  have hs := h.src
  have HS := Lib.hid hs
  have hnil : ∀ (w : World) (a : Option Addr) (n c : Nat), (binOp .eql 27 (.slice a n c) (.slice none 0 0)).run Try.prog w = .ok (.bool a.isNone) w := fun w a n c => Lib.run_eql_slice_nil w _ _ a n c 0 0 Try.underlying27
  obtain ⟨a, c, rfl, h2, -⟩ := hs
  clear h
  cases a with
  | none =>
    have h0 := h2 rfl
    have hv : l = [] := List.length_eq_zero_iff.1 h0
    subst hv
    clear h2 h0
    go_enter Try.func25, Try.ntmps25
    go_wp2_with fail
    go_ret
    exact ⟨none, 0, rfl, Own.nil _ _ _ _, Below.refl _ _⟩
  | some ad =>
    clear h2
    go_enter Try.func25, Try.ntmps25
    go_wp2_with (at_builtin; refine wp_appendS (f := Value.int .i64) sIntD rfl rfl _ _ rfl W.heap.size (.slice (some ⟨W.heap.size, 0, none⟩) 0 0) [] rfl (.slice (some ad) l.length c) l rfl (own_empty _ rfl (Nat.le_refl _)) (HS.out.grown (grownBy_alloc _ _) (by simp)) (fun _ _ => rfl) (by simp; omega) (by omega) (by simp) ?_; intro v' W' ho hg hloc)
    obtain ⟨s9, c9, rfl⟩ := ho.shape (n := l.length) (by simp)
    have hb : Below W.heap.size W W' := ((Below.refl W.heap.size W).alloc (Nat.le_refl _) _).grown hg (by simp) (by simp [Value.ownBlock])
    have HO := Lib.hid (And.intro ho hb)
    clear ho hg hloc hb
    go_wp2_with fail
    go_ret
    exact ⟨s9, c9, rfl, by simpa using HO.out.1, HO.out.2⟩

/-- The slice while it is made. -/
structure SlM (s : Sy) (bo : Nat) (ra : Option Addr) (rc : Nat) (rs : List RC) (l : List R) (W : World) : Prop where
  o0 : W.cell? ⟨bo, 0, none⟩ = some (.int .i64 s.vars)
  o1 : W.cell? ⟨bo, 1, none⟩ = some (.int .i64 s.sites)
  o2 : W.cell? ⟨bo, 2, none⟩ = some (.int .i64 s.fields)
  o3 : W.cell? ⟨bo, 3, none⟩ = some (.slice ra rs.length rc)
  frz : ∀ j, W.frozen? ⟨bo, j, none⟩ = false
  own : OwnE elC W (bo + 1) 37 (.slice ra rs.length rc) rs
  len : rs.length = l.length
  el : ∀ i, i < rs.length → (nth rs i).k = (nth l i).k ∧ (nth rs i).a = (nth l i).a ∧ (nth rs i).b = (nth l i).b ∧ (nth rs i).f = (nth l i).f ∧ OwnI W (bo + 1) 3 (nth rs i).set (nth l i).s ∧ ∀ k, (nth rs i).set.ownBlock = some k → (Value.slice ra rs.length rc).ownBlock ≠ some k

section
variable {s : Sy} {bo : Nat} {ra : Option Addr} {rc : Nat} {rs : List RC} {l : List R} {W W1 W2 : World}
theorem SlM.new (s : Sy) (W : World) (t : TypeId) : SlM s W.heap.size none 0 [] [] (W.alloc (.cells #[.int .i64 s.vars, .int .i64 s.sites, .int .i64 s.fields, .slice none 0 0] t)) := by
  have hn := cells_new (W := W) (cs := [.int .i64 s.vars, .int .i64 s.sites, .int .i64 s.fields, .slice none 0 0]) (t := t) rfl
  refine ⟨hn 0 _ rfl, hn 1 _ rfl, hn 2 _ rfl, hn 3 _ rfl, fun j => ?_, OwnE.nil _ _ _ _, rfl, fun i hi => by simp at hi⟩
  have hb := heap_alloc_new W (.cells #[.int .i64 s.vars, .int .i64 s.sites, .int .i64 s.fields, .slice none 0 0] t)
  simp only [World.frozen?, hb]
  first | rfl | simp
theorem SlM.grown (h : SlM s bo ra rc rs l W) {row : Option Nat} (hg : W.grownBy W1 row) (hr : ∀ k, row = some k → W.heap.size ≤ k ∨ k < bo) : SlM s bo ra rc rs l W1 := by
  have lb : bo < W.heap.size := World.block_lt_of_cell? W _ h.o0
  have nb : some bo ≠ row := fun e => by have := hr bo e.symm; omega
  have ne : ∀ {v : Value}, (∀ k, v.ownBlock = some k → bo + 1 ≤ k ∧ k < W.heap.size) → v.ownBlock = none ∨ v.ownBlock ≠ row := fun {v} hv => by
    cases e : v.ownBlock with
    | none => exact .inl rfl
    | some k => exact .inr fun e2 => by have := hv k e; have := hr k e2.symm; omega
  refine ⟨hg.cell h.o0 nb, hg.cell h.o1 nb, hg.cell h.o2 nb, hg.cell h.o3 nb, fun j => ?_, OwnE.grown h.own hg (ne fun k e => OwnE.lt h.own k e), h.len, fun i hi => ?_⟩
  · rw [World.frozen?_of_block (a := ⟨bo, j, none⟩) (hg.block bo lb nb)]; exact h.frz j
  · obtain ⟨e1, e2, e3, e4, e5, e6⟩ := h.el i hi
    exact ⟨e1, e2, e3, e4, e5.grown hg (ne fun k e => e5.lt k e), e6⟩
theorem SlM.push (h : SlM s bo ra rc rs l W) {x : RC} {c : R} (hx : x.k = c.k ∧ x.a = c.a ∧ x.b = c.b ∧ x.f = c.f) (hs : OwnI W (bo + 1) 3 x.set c.s) (hn : ∀ k, x.set.ownBlock = some k → (Value.slice ra rs.length rc).ownBlock ≠ some k)
    (g1 : W.grownBy W1 none) {ra2 : Option Addr} {rc2 : Nat} (ho : OwnE elC W2 (bo + 1) 37 (.slice ra2 (rs.length + 1) rc2) (rs ++ [x])) (g2 : W1.grownBy W2 (Value.slice ra rs.length rc).ownBlock) (hl : (Value.slice ra2 (rs.length + 1) rc2).ownBlock = (Value.slice ra rs.length rc).ownBlock ∨ (Value.slice ra2 (rs.length + 1) rc2).ownBlock = some W1.heap.size) :
    W2.cell? ⟨bo, 3, none⟩ = some (.slice ra rs.length rc) ∧ W2.frozen? ⟨bo, 3, none⟩ = false ∧ SlM s bo ra2 rc2 (rs ++ [x]) (l ++ [c]) (W2.setCell ⟨bo, 3, none⟩ (.slice ra2 (rs.length + 1) rc2)) := by
  have lb : bo < W.heap.size := World.block_lt_of_cell? W _ h.o0
  have nb : some bo ≠ (Value.slice ra rs.length rc).ownBlock := fun e => by have := (OwnE.lt h.own bo e.symm).1; omega
  have c2 : ∀ {j : Nat} {y : Value}, W.cell? ⟨bo, j, none⟩ = some y → W2.cell? ⟨bo, j, none⟩ = some y := fun hy => g2.cell (g1.cell hy (by simp)) nb
  have f2 : ∀ j, W2.frozen? ⟨bo, j, none⟩ = false := fun j => by
    rw [World.frozen?_of_block (a := ⟨bo, j, none⟩) ((g2.block bo (Nat.lt_of_lt_of_le lb g1.size) nb).trans (g1.block bo lb (by simp)))]; exact h.frz j
  have oth : ∀ {j : Nat} {y : Value}, j ≠ 3 → W.cell? ⟨bo, j, none⟩ = some y → (W2.setCell ⟨bo, 3, none⟩ (.slice ra2 (rs.length + 1) rc2)).cell? ⟨bo, j, none⟩ = some y := fun hj hy => by
    rw [World.cell?_setCell_other _ _ _ _ (by intro e; simp at e; try omega)]; exact c2 hy
  have gs := grownBy_setCell W2 ⟨bo, 3, none⟩ (.slice ra2 (rs.length + 1) rc2)
  have hlen : (rs ++ [x]).length = rs.length + 1 := by simp
  -- a set, through the append and the store
  have keepI : ∀ {u : Value} {m : List Int}, OwnI W (bo + 1) 3 u m → (∀ k, u.ownBlock = some k → (Value.slice ra rs.length rc).ownBlock ≠ some k) → OwnI (W2.setCell ⟨bo, 3, none⟩ (.slice ra2 (rs.length + 1) rc2)) (bo + 1) 3 u m ∧ ∀ k, u.ownBlock = some k → (Value.slice ra2 (rs.length + 1) rc2).ownBlock ≠ some k := fun {u m} hu hne => by
    have hw : ∀ row : Option Nat, (∀ k, u.ownBlock = some k → row ≠ some k) → u.ownBlock = none ∨ u.ownBlock ≠ row := fun row hh => by
      cases e : u.ownBlock with
      | none => exact .inl rfl
      | some k => exact .inr fun e2 => hh k e e2.symm
    refine ⟨((hu.grown g1 (hw none (by simp))).grown g2 (hw _ hne)).grown gs (hw _ fun k e => ?_), fun k e => ?_⟩
    · intro e2
      have h1 := (hu.lt k e).1
      have h2 : bo = k := by simpa using e2
      omega
    · rcases hl with e2 | e2
      · rw [e2]; exact hne k e
      · rw [e2]
        have h1 := (hu.lt k e).2
        have h2 := g1.size
        intro e3
        have h3 : W1.heap.size = k := by simpa using e3
        omega
  refine ⟨c2 h.o3, f2 3, oth (by omega) h.o0, oth (by omega) h.o1, oth (by omega) h.o2, by rw [hlen]; exact World.cell?_setCell_same W2 _ _ (c2 h.o3), fun j => by rw [World.frozen?_setCell]; exact f2 j, ?_, by simp [h.len], fun i hi => ?_⟩
  · rw [hlen]
    refine OwnE.grown ho gs (.inr fun e => ?_)
    have h1 := (OwnE.lt ho _ e).1
    have h2 : bo = (⟨bo, 3, none⟩ : Addr).block := rfl
    omega
  · rw [hlen] at hi ⊢
    rw [nth_append, nth_append]
    by_cases e : i < rs.length
    · rw [if_pos e, if_pos (by have := h.len; omega)]
      obtain ⟨e1, e2, e3, e4, e5, e6⟩ := h.el i e
      exact ⟨e1, e2, e3, e4, keepI e5 e6⟩
    · obtain rfl : i = rs.length := by omega
      rw [if_neg e, if_neg (by have := h.len; omega), Nat.sub_self, show rs.length - l.length = 0 by have := h.len; omega]
      exact ⟨hx.1, hx.2.1, hx.2.2.1, hx.2.2.2, keepI hs hn⟩
theorem SlM.cons (h : SlM s bo ra rc rs l W) : ConsIn W (.slice ra l.length rc) l := by
  refine ⟨rs, h.len, ?_, fun i hi => ?_⟩
  · have := OwnE.sliced h.own
    rw [h.len] at this
    exact this
  · obtain ⟨e1, e2, e3, e4, e5, -⟩ := h.el i (by rw [h.len]; exact hi)
    exact ⟨e1, e2, e3, e4, e5.lst⟩
end
end Go.Proofs.Ytkfhopnolflchaa
