/- Parts of a row of the call's own, as the source of an append; elements of several cells. Of no program. -/
import Derived.Test.YtnklnklkblgnfaaGa
namespace Go.Dfl
open Go.RowKit
section
variable {α : Type} {E : El α}
/-- A slice that is only read, as a source of an append. -/
def SrcE (E : El α) (w : World) (u : Value) (m : List α) : Prop :=
  ∃ a c, u = .slice a m.length c ∧ (a = none → m.length = 0) ∧ ∀ j y, (m.flatMap E.c)[j]? = some y → ∃ ad : Addr, a = some ad ∧ w.cell? (ad.add j) = some y
theorem flat_take (l : List α) (k : Nat) (hk : k ≤ l.length) : (l.take k).flatMap E.c = (l.flatMap E.c).take (k * E.sz) := by
  have h : l.flatMap E.c = (l.take k).flatMap E.c ++ (l.drop k).flatMap E.c := by rw [← List.flatMap_append, List.take_append_drop]
  have h2 : ((l.take k).flatMap E.c).length = k * E.sz := by rw [flat_len, List.length_take, Nat.min_eq_left hk]
  conv => rhs; rw [h]
  rw [List.take_left' h2]
theorem flat_drop (l : List α) (k : Nat) (hk : k ≤ l.length) : (l.drop k).flatMap E.c = (l.flatMap E.c).drop (k * E.sz) := by
  have h : l.flatMap E.c = (l.take k).flatMap E.c ++ (l.drop k).flatMap E.c := by rw [← List.flatMap_append, List.take_append_drop]
  have h2 : ((l.take k).flatMap E.c).length = k * E.sz := by rw [flat_len, List.length_take, Nat.min_eq_left hk]
  conv => rhs; rw [h]
  rw [List.drop_left' h2]
theorem OwnE.cut {P : Program} {t e : TypeId} {z : Value} {by8 : Nat} (ht : SliceOf P t e z E.sz by8) {w : World} {base : Nat} {v : Value} {l : List α} (h : OwnE E w base e v l) (k : Nat) (hk : k ≤ l.length) :
    ∃ u1 u2, (∀ W, (Instr.slice t v none (some (.int .i64 (k : Int))) none).run P W = .ok u1 W) ∧ (∀ W, (Instr.slice t v (some (.int .i64 (k : Int))) none none).run P W = .ok u2 W) ∧
      ∀ W, OwnE E W base e v l → SrcE E W u1 (l.take k) ∧ SrcE E W u2 (l.drop k) := by
  obtain ⟨i, hi, _, hs, _⟩ := ht.info
  have hlt : (l.take k).length = k := by simp; omega
  have hld : (l.drop k).length = l.length - k := by simp
  obtain ⟨h1, ⟨rfl, h2⟩ | ⟨g, cap, cur, rfl, hg, hh, hc, hm, hsz, htk⟩⟩ := h
  · obtain rfl : k = 0 := by omega
    have hl : l = [] := List.eq_nil_of_length_eq_zero h2
    subst hl
    refine ⟨.slice none 0 0, .slice none 0 0, fun W => ?_, fun W => ?_, fun W _ => ⟨⟨none, 0, by simp, by simp, fun j y hj => by simp at hj⟩, ⟨none, 0, by simp, by simp, fun j y hj => by simp at hj⟩⟩⟩
    · simp [Instr.slice, run_underlying ht.und, Instr.sliceBounds, Instr.sliceBound, asIntOf, run_sizeOf _ hi]
    · simp [Instr.slice, run_underlying ht.und, Instr.sliceBounds, Instr.sliceBound, asIntOf, run_sizeOf _ hi]
  · have hce : P.cellsOf e = E.sz := by simp [Program.cellsOf, hi, hs]
    have hpos := E.pos
    refine ⟨.slice (some ⟨g, 0, none⟩) k cap, .slice (some ⟨g, if cap = k then 0 else k * E.sz, none⟩) (l.length - k) (cap - k), fun W => ?_, fun W => ?_, fun W ho => ⟨⟨some ⟨g, 0, none⟩, cap, by rw [hlt], by simp, fun j y hj => ⟨_, rfl, ?_⟩⟩, ⟨_, _, by rw [hld], by simp, fun j y hj => ⟨_, rfl, ?_⟩⟩⟩⟩
    · have h1' : k ≤ cap := by omega
      simp [Instr.slice, run_underlying ht.und, Instr.sliceBounds, Instr.sliceBound, asIntOf, h1', run_sizeOf _ hi, Addr.add]
    · have h1' : k ≤ l.length := by omega
      simp [Instr.slice, run_underlying ht.und, Instr.sliceBounds, Instr.sliceBound, asIntOf, h1', run_sizeOf _ hi, Addr.add]
      by_cases hck : cap = k
      · simp [hck]
      · simp [hck, hce]
        exact fun h0 => h0.symm
    · rw [flat_take l k hk, List.getElem?_take] at hj
      split at hj
      · rename_i hjk
        have hjl : j < (l.flatMap E.c).length := by
          rw [flat_len]
          exact Nat.lt_of_lt_of_le hjk (Nat.mul_le_mul_right _ hk)
        have := World.ownsRow.cellAt ho j (by rw [flat_len] at hjl; exact hjl)
        rw [add0, this]; exact hj
      · cases hj
    · rw [flat_drop l k hk, List.getElem?_drop] at hj
      have hjl : k * E.sz + j < (l.flatMap E.c).length := (List.getElem?_eq_some_iff.1 hj).1
      rw [flat_len] at hjl
      have hck : ¬ cap = k := fun e9 => by
        subst e9
        have : l.length = cap := by omega
        rw [this] at hjl; omega
      have := World.ownsRow.cellAt ho (k * E.sz + j) hjl
      rw [if_neg hck, add1, this]; exact hj
/-- 'append(s, u...)'. -/
theorem wp_appendSE {P : Program} {t e : TypeId} {z : Value} {by8 : Nat} (ht : SliceOf P t e z E.sz by8) (hz : z.cells.size = E.sz) {w : World} {base : Nat} {v u : Value} {l m : List α} {ops : Array Oper} {rest : List Oper} {o : Oper} {a : Act} {Q : Exit → Act → World → Prop}
    (hg : o.guard = none) (s x : Operand) (hop : o.op = .call { callee := .builtin .append, args := #[s, x], argTypes := #[t, t] })
    (hs : a.eval s = v) (hx : a.eval x = u) (hown : OwnE E w base e v l) (hu : SrcE E w u m) (hlen : (l.length + m.length) * by8 ≤ 140737488355328) (hmax : l.length + m.length ≤ 1000000000000) (hbase : base ≤ w.heap.size)
    (hK : ∀ v' w', OwnE E w' base e v' (l ++ m) → w.grownBy w' v.ownBlock → (v'.ownBlock = v.ownBlock ∨ v'.ownBlock = some w.heap.size) → wpList P ops Q rest (a.put o.dst v') w') : wpList P ops Q (o :: rest) a w := by
  refine wpList_plain hg fun K hK' => ?_
  obtain ⟨i, hi, hz0, hz1, hz2⟩ := ht.info
  obtain ⟨ad, cap, rfl, hn, hc⟩ := hu
  have hrun : ∃ v' w', (Builtin.append_ #[t, t] o.type #[v, .slice ad m.length cap]).run P w = .ok v' w' ∧ OwnE E w' base e v' (l ++ m) ∧ w.grownBy w' v.ownBlock ∧ (v'.ownBlock = v.ownBlock ∨ v'.ownBlock = some w.heap.size) := by
    cases ad with
    | none =>
      obtain rfl : m = [] := List.eq_nil_of_length_eq_zero (hn rfl)
      exact ⟨v, w, run_append_none base t o.type e i E.sz ht.und hi v _ _ hown cap, by simpa using hown, grownBy_refl _ _, .inl rfl⟩
    | some ad =>
      obtain ⟨v', w', hr, h5, h6, -, h8⟩ := run_append_own_at (P := P) w base t o.type e i z E.sz by8 ht.und hi hz0 hz1 hz2 hz E.pos v l.length (l.flatMap E.c) hown ad m.length cap (m.flatMap E.c) (by rw [flat_len]) (fun j y hj => by
        obtain ⟨ad', e1, e2⟩ := hc j y hj
        simp only [Option.some.injEq] at e1
        subst e1; exact e2) (fun y hy => by
        obtain ⟨x, -, hx⟩ := List.mem_flatMap.1 hy
        exact E.one x y hx) (by unfold maxLen; omega) hlen hbase
      exact ⟨v', w', hr, by unfold OwnE; rw [List.length_append, List.flatMap_append]; exact h5, h6, h8⟩
  obtain ⟨v', w', hr, k1, k2, k3⟩ := hrun
  unfold Oper.wp execOp
  simp only [hop, resolve, invoke, builtin, Sem.run_bind, Sem.run_pure, Result.andThen_ok, List.map_toArray, List.map_cons, List.map_nil, hs, hx, hr]
  exact hK' _ _ (hK v' w' k1 k2 k3)
theorem ownE_empty0 {w : World} {base B : Nat} {e : TypeId} (h : B = w.heap.size) (hb : base ≤ w.heap.size) : OwnE E (w.alloc (.cells #[] e)) base e (.slice (some ⟨B, 0, none⟩) 0 0) [] := by
  subst h
  exact World.ownsRow_lit (size := E.sz) w #[] 0 hb (by unfold maxLen; omega) (by simp)
theorem SrcE.grown {w w' : World} {u : Value} {m : List α} {row : Option Nat} (h : SrcE E w u m) (hg : w.grownBy w' row) (hr : ∀ k, u.ownBlock = some k → some k ≠ row) : SrcE E w' u m := by
  obtain ⟨a, c, rfl, h1, h2⟩ := h
  refine ⟨a, c, rfl, h1, fun j y hj => ?_⟩
  obtain ⟨ad, rfl, h3⟩ := h2 j y hj
  refine ⟨ad, rfl, hg.cell h3 ?_⟩
  have : (ad.add j).block = ad.block := by unfold Addr.add; split <;> rfl
  rw [this]
  exact hr _ rfl
end
end Go.Dfl
