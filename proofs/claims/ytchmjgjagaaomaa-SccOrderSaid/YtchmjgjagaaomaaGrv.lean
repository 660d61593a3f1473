/- Contracts of reversed, Reverse of package graph. -/
import Derived.Test.YtchmjgjagaaomaaGrm
namespace Go.Gra
open Go.Dfl (nth nth_mem mem_nth nth_eq nth_ext)
def swp (e : Int × Int) : Int × Int := (e.2, e.1)
/-- The sorted list of the reversed edges. -/
def RevOf (es l : List (Int × Int)) : Prop := l.length = es.length ∧ SortOf (es.map swp) l
theorem swp_inj {x y : Int × Int} (h : swp x = swp y) : x = y := by
  obtain ⟨a, b⟩ := x; obtain ⟨c, d⟩ := y
  simp [swp] at h; simp [h]
theorem revOf_sorted {es r l : List (Int × Int)} (hn : es.Nodup) (hr : r = es.map swp) (hl : l.Perm r) (hs : ∀ i j, i < j → j < l.length → ¬ eLt (nth l j) (nth l i)) : RevOf es l := by
  subst hr
  have hnd : l.Nodup := hl.nodup_iff.2 (List.pairwise_map.2 (hn.imp fun h e => h (swp_inj e)))
  refine ⟨by rw [hl.length_eq, List.length_map], ?_, fun e => hl.mem_iff⟩
  rw [List.pairwise_iff_getElem]
  intro i j hi hj hij
  have h1 := hs i j hij hj
  rw [nth_eq _ _ hj, nth_eq _ _ hi] at h1
  apply Classical.byContradiction
  intro h2
  have h3 := eLt_total h1 h2
  exact (List.pairwise_iff_getElem.1 hnd) i j hi hj hij h3.symm
end Go.Gra
namespace Go.Proofs.Ytchmjgjagaaomaa
open Go.RowKit Go.Dfl Go.Gra

theorem made_pairs (n : Nat) : (madeCells (Value.agg #[.int .i64 0, .int .i64 0]).cells (n * 2)).toList = (List.replicate n ((0 : Int), (0 : Int))).flatMap elE.c := by
  have h1 : (madeCells (Value.agg #[.int .i64 0, .int .i64 0]).cells (n * 2)).toList = List.replicate (n * 2) (.int .i64 0) := by
    rw [List.eq_replicate_iff]
    refine ⟨by simp [madeCells], fun v hv => ?_⟩
    simp only [madeCells, Value.cells] at hv
    simp at hv
    obtain ⟨i, -, rfl⟩ := hv
    rcases (by omega : i % 2 = 0 ∨ i % 2 = 1) with h | h <;> simp [h]
  have h2 : (List.replicate n ((0 : Int), (0 : Int))).flatMap elE.c = List.replicate (n * 2) (.int .i64 0) := by
    rw [List.eq_replicate_iff]
    refine ⟨by rw [flat_len]; simp [elE], fun v hv => ?_⟩
    obtain ⟨x, hx, hv⟩ := List.mem_flatMap.1 hv
    rw [List.mem_replicate] at hx
    obtain ⟨-, rfl⟩ := hx
    simp [elE] at hv
    exact hv
  rw [h1, h2]
/-- 'make([]api.Edge, n)'. -/
theorem wp_makeP (w : World) {ops : Array Oper} {rest : List Oper} {o : Oper} {a : Act} {Q : Exit → Act → World → Prop}
    (hg : o.guard = none) (l c : Operand) (hop : o.op = Op.makeSlice 22 l c) (kl kc : IntKind) (L C : Int) (n : Nat) (hl : a.eval l = .int kl L) (hc : a.eval c = .int kc C) (hL : L = (n : Int)) (hC : C = (n : Int))
    (hb : 16 * n ≤ 281474976710656) (hm : n ≤ maxLen)
    (hK : ∀ s cap w', OwnE elE w' w.heap.size 35 (.slice s n cap) (List.replicate n (0, 0)) → Below w.heap.size w w' → wpList Try.prog ops Q rest (a.put o.dst (.slice s n cap)) w') :
    wpList Try.prog ops Q (o :: rest) a w := by
  obtain ⟨i, hi, hz0, hz1, hz2⟩ := sEdge.info
  refine wpList_make_full w hg l c 22 hop w.heap.size 35 i (.agg #[.int .i64 0, .int .i64 0]) 2 sEdge.und hi hz0 hz1 kl kc L C n hl hc hL hC (by rw [hz2]; exact hb) hm (Nat.le_refl _) ?_
  intro w' h1 h2
  refine hK _ _ w' ?_ ((Below.refl _ _).grown h2 (Nat.le_refl _) (by simp))
  rw [made_pairs] at h1
  unfold OwnE
  rw [List.length_replicate]
  exact h1
theorem results_cell1 {fn : Func} {p : Tmp} {ty : TypeId} (h : fn.results = #[.cell p ty]) (tmps : Array Value) (P : Program) (w : World) :
    (results fn tmps).run P w = ((asAddr (tmps.getD p undef)).run P w).andThen fun a w₁ => (loadVar ty a).run P w₁ := by
  simp only [results, h]
  simp [Sem.run_bind]
/-- What reversed returns. -/
def RevR (g : G) (W : World) (e : Ending) (W' : World) : Prop := ∃ a c l, e = .returned (GV ⟨g.n, l⟩ (.slice a l.length c)) ∧ OwnE elE W' W.heap.size 35 (.slice a l.length c) l ∧ RevOf g.es l ∧ Below W.heap.size W W'
/-- What Reverse returns. -/
def RvrR (g : G) (W : World) (e : Ending) (W' : World) : Prop := (gCode g ≠ 0 ∧ e = .returned (GV ⟨0, []⟩ (.slice none 0 0)) ∧ Below W.heap.size W W') ∨ (gCode g = 0 ∧ RevR g W e W')
end Go.Proofs.Ytchmjgjagaaomaa
