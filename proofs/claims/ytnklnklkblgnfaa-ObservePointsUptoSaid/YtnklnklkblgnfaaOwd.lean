/- Rows of the call's own, elements of several cells: a copy within the row, one place on; a store in place. Of no program. -/
import Derived.Test.YtnklnklkblgnfaaOwc
import Derived.Laws.CopyRow
namespace Go.Dfl
open Go.RowKit
theorem grownBy_setRow (w : World) (g : Nat) (cs : Array Value) : w.grownBy (w.setRow g cs) (some g) :=
  ⟨rfl, rfl, rfl, by simp [World.setRow], fun k _ hk => setRow_other w g k cs (by have : k ≠ g := fun e => hk (by rw [e]); omega)⟩
section
variable {α : Type} {E : El α}
theorem OwnE.row {w : World} {g cap base : Nat} {cur : Array Value} {e : TypeId} {l : List α} (hg : base ≤ g) (hh : w.heap[g]? = some (.cells cur e (0, 0))) (hc : l.length ≤ cap) (hm : cap ≤ maxLen) (hsz : cur.size = cap * E.sz) (ht : cur.toList.take (l.length * E.sz) = l.flatMap E.c) : OwnE E w base e (.slice (some ⟨g, 0, none⟩) l.length cap) l :=
  ⟨flat_len E l, .inr ⟨g, cap, cur, rfl, hg, hh, hc, hm, hsz, ht⟩⟩
/-- 'copy(l[k+1:], l[k:])'. -/
theorem OwnE.shift {P : Program} {t e : TypeId} {z : Value} {by8 : Nat} (ht : SliceOf P t e z E.sz by8) {w : World} {base : Nat} {v : Value} {l : List α} (h : OwnE E w base e v l) (k : Nat) (hk : k + 1 ≤ l.length) :
    ∃ d s, (∀ W, (Instr.slice t v (some (.int .i64 ((k : Int) + 1))) none none).run P W = .ok d W) ∧ (∀ W, (Instr.slice t v (some (.int .i64 (k : Int))) none none).run P W = .ok s W) ∧
      ∀ W ty, OwnE E W base e v l → ∃ W', (Builtin.copy_ #[t, t] ty #[d, s]).run P W = .ok (goInt (l.length - (k + 1) : Nat)) W' ∧ OwnE E W' base e v (l.take (k + 1) ++ (l.drop k).take (l.length - (k + 1))) ∧ W.grownBy W' v.ownBlock := by
  obtain ⟨i, hi, _, hs, _⟩ := ht.info
  have hce : P.cellsOf e = E.sz := by simp [Program.cellsOf, hi, hs]
  have hpos := E.pos
  obtain ⟨h1, ⟨rfl, h2⟩ | ⟨g, cap, cur, rfl, hg, hh, hc, hm, hsz, htk⟩⟩ := h
  · omega
  · clear cur hh hsz htk
    have hrun : ∀ q : Nat, q ≤ l.length → ∀ W, (Instr.slice t (.slice (some ⟨g, 0, none⟩) l.length cap) (some (.int .i64 (q : Int))) none none).run P W = .ok (.slice (some ⟨g, if cap = q then 0 else q * E.sz, none⟩) (l.length - q) (cap - q)) W := fun q hq W => by
      simp [Instr.slice, run_underlying ht.und, Instr.sliceBounds, Instr.sliceBound, asIntOf, hq, run_sizeOf _ hi, Addr.add]
      by_cases hck : cap = q
      · simp [hck]
      · simp [hck, hce]
        exact fun h0 => h0.symm
    have e1 : ((k : Int) + 1) = ((k + 1 : Nat) : Int) := by omega
    have hck0 : ¬ cap = k := by omega
    refine ⟨.slice (some ⟨g, if cap = k + 1 then 0 else (k + 1) * E.sz, none⟩) (l.length - (k + 1)) (cap - (k + 1)), .slice (some ⟨g, k * E.sz, none⟩) (l.length - k) (cap - k), fun W => by rw [e1]; exact hrun (k + 1) hk W, fun W => by have h9 := hrun k (by omega) W; rwa [if_neg hck0] at h9, fun W ty ho => ?_⟩
    · obtain ⟨hfl, ⟨h9, -⟩ | ⟨g', cap', cur, hv, hg', hh, -, hm', hsz, htk⟩⟩ := ho
      · cases h9
      simp only [Value.slice.injEq, Option.some.injEq, Addr.mk.injEq, and_true, true_and] at hv
      obtain ⟨rfl, rfl⟩ := hv
      obtain ⟨n, hn⟩ : ∃ n, n = l.length - (k + 1) := ⟨_, rfl⟩
      have hll : (l.take (k + 1) ++ (l.drop k).take n).length = l.length := by simp; omega
      obtain ⟨cs, hcs⟩ : ∃ cs, cs = ((l.drop k).take n).flatMap E.c := ⟨_, rfl⟩
      have hcl : cs.length = n * E.sz := by rw [hcs, flat_len, List.length_take, List.length_drop, Nat.min_eq_left (by omega)]
      have hcs2 : cs = ((cur.toList.take (l.length * E.sz)).drop (k * E.sz)).take (n * E.sz) := by
        rw [htk, hcs, flat_take _ n (by simp; omega), flat_drop l k (by omega)]
      have hsrc : ∀ j v, cs[j]? = some v → W.cell? ((⟨g, k * E.sz, none⟩ : Addr).add j) = some v := fun j v hj => by
        have hjl : j < n * E.sz := by rw [← hcl]; exact (List.getElem?_eq_some_iff.1 hj).1
        have hlt : k * E.sz + j < l.length * E.sz := by
          have : k * E.sz + n * E.sz ≤ l.length * E.sz := by rw [← Nat.add_mul]; exact Nat.mul_le_mul_right _ (by omega)
          omega
        rw [hcs2, List.getElem?_take, if_pos hjl, List.getElem?_drop, List.getElem?_take, if_pos hlt] at hj
        rw [add1]
        simp only [World.cell?, hh]
        simpa using hj
      have hl := run_loadCells_list (P := P) W ⟨g, k * E.sz, none⟩ cs hsrc
      rw [hcl] at hl
      have hmin : (l.length - k).min n = n := Nat.min_eq_right (by omega)
      have h1c : ∀ v ∈ cs, v.oneCell' = true := fun v hv => by
        rw [hcs] at hv
        obtain ⟨x, -, hx⟩ := List.mem_flatMap.1 hv
        exact E.one x v hx
      have hks : (k + 1) * E.sz + n * E.sz = l.length * E.sz := by rw [← Nat.add_mul]; congr 1; omega
      have hlc : l.length * E.sz ≤ cap * E.sz := Nat.mul_le_mul_right _ hc
      have hfin : ∀ cur2 : Array Value, cur2.size = cur.size → cur2.toList.take (l.length * E.sz) = cur.toList.take ((k + 1) * E.sz) ++ cs → OwnE E (W.setRow g cur2) base e (.slice (some ⟨g, 0, none⟩) l.length cap) (l.take (k + 1) ++ (l.drop k).take n) := fun cur2 hs2 ht2 => by
        have := OwnE.row (E := E) (w := W.setRow g cur2) (base := base) (l := l.take (k + 1) ++ (l.drop k).take n) hg (setRow_heap W g cur cur2 e _ hh) (cap := cap) (by rw [hll]; exact hc) hm (by rw [hs2, hsz]) (by
          rw [hll, ht2, List.flatMap_append, ← hcs]
          congr 1
          rw [flat_take l (k + 1) (by omega), ← htk, List.take_take, Nat.min_eq_left (Nat.mul_le_mul_right _ (by omega))])
        rwa [hll] at this
      by_cases hck : cap = k + 1
      · have hn0 : n = 0 := by omega
        have hc0 : cs = [] := List.eq_nil_of_length_eq_zero (by rw [hcl, hn0]; simp)
        refine ⟨W.setRow g cur, ?_, hn ▸ hfin cur rfl ?_, grownBy_setRow _ _ _⟩
        · rw [setRow_self W g cur e (0, 0) hh, ← hn]
          rw [hc0] at hl
          simp [Builtin.copy_, run_underlying ht.und, Builtin.lenOf, Builtin.firstCells, sizeOf, typeInfo, hi, hs, hmin, hl, storeCells]
        · rw [hc0, List.append_nil]; congr 2; omega
      · have hst := run_storeCells_at P g ((k + 1) * E.sz) e cs 0 cur W hh (by rw [hcl, hsz]; omega) h1c
        refine ⟨_, ?_, hn ▸ hfin (cur.toList.take ((k + 1) * E.sz + 0) ++ cs ++ cur.toList.drop ((k + 1) * E.sz + 0 + cs.length)).toArray ?_ ?_, grownBy_setRow _ _ _⟩
        · rw [if_neg hck, ← hn]
          simp [Builtin.copy_, run_underlying ht.und, Builtin.lenOf, Builtin.firstCells, sizeOf, typeInfo, hi, hs, hmin, hl] at hst ⊢
          rw [hst]; rfl
        · simp [hcl]; omega
        · simp only [Nat.add_zero]
          rw [List.take_append_of_le_length (by simp [hcl]; omega), List.take_of_length_le (by simp [hcl]; omega)]
/-- A store of an element, in place. -/
theorem wpList_storeE [Inhabited α] {P : Program} {w : World} {base : Nat} {e : TypeId} {a : Option Addr} {c : Nat} {l : List α} {ops : Array Oper} {rest : List Oper} {o : Oper} {ac : Act} {Q : Exit → Act → World → Prop} (hgd : o.guard = none) (x y : Operand) (ho : o.op = .store e x y) (hi : (P.info? e).map (·.size) = some E.sz)
    (h : OwnE E w base e (.slice a l.length c) l) (k : Nat) (hk : k < l.length) (u : α) (hx : ac.eval x = .pointer (some ⟨blk a, ofs a + k * E.sz, none⟩)) (hy : ac.eval y = .agg (E.c u).toArray)
    (hK : ∀ w', OwnE E w' base e (.slice a l.length c) (l.take k ++ [u] ++ l.drop (k + 1)) → w.grownBy w' (Value.slice a l.length c).ownBlock → wpList P ops Q rest (ac.put o.dst undef) w') : wpList P ops Q (o :: rest) ac w := by
  obtain ⟨h1, ⟨h9, h2⟩ | ⟨g, cap, cur, hv, hg, hh, hc, hm, hsz, htk⟩⟩ := h
  · omega
  simp only [Value.slice.injEq] at hv
  obtain ⟨rfl, -, rfl⟩ := hv
  have hx' : ac.eval x = .pointer (some ⟨g, k * E.sz, none⟩) := by rw [hx]; simp [blk, ofs]
  have hks : k * E.sz + E.sz = (k + 1) * E.sz := by rw [Nat.succ_mul]
  have hlc : l.length * E.sz ≤ c * E.sz := Nat.mul_le_mul_right _ hc
  have hkl : (k + 1) * E.sz ≤ l.length * E.sz := Nat.mul_le_mul_right _ hk
  have hst := run_storeCells_at P g (k * E.sz) e (E.c u) 0 cur w hh (by rw [E.len, hsz]; omega) (E.one u)
  simp only [Nat.add_zero] at hst
  have hll : (l.take k ++ [u] ++ l.drop (k + 1)).length = l.length := by simp; omega
  refine wpList_plain hgd fun K hK' => ?_
  cases hq : P.info? e with
  | none => simp [hq] at hi
  | some i =>
    have hs : i.size = E.sz := by simpa [hq] using hi
    unfold Oper.wp execOp
    simp only [ho, hx', hy, Instr.storeAt, Instr.sureAddr, Sem.run_bind, Sem.run_pure, Result.andThen_ok]
    simp [storeVar, sizeOf, typeInfo, hq, Value.cells, hs, hst, E.len]
    have hO := OwnE.row (E := E) (w := w.setRow g (cur.toList.take (k * E.sz) ++ E.c u ++ cur.toList.drop (k * E.sz + (E.c u).length)).toArray) (base := base) (l := l.take k ++ [u] ++ l.drop (k + 1)) hg (setRow_heap w g cur _ e _ hh) (cap := c) (by rw [hll]; exact hc) hm (by simp only [List.size_toArray, List.length_append, List.length_take, List.length_drop, Array.length_toList, E.len, hsz]; omega) (by
      rw [hll, E.len, List.flatMap_append, List.flatMap_append, flat_take l k (by omega), flat_drop l (k + 1) (by omega), ← htk]
      rw [List.take_append, List.take_of_length_le (by simp [E.len]; omega)]
      simp only [List.flatMap_cons, List.flatMap_nil, List.append_nil]
      congr 1
      · congr 1
        rw [List.take_take, Nat.min_eq_left (by omega)]
      · simp only [List.length_append, List.length_take, Array.length_toList, E.len]
        rw [hks, List.drop_take]
        congr 1
        omega)
    rw [hll] at hO
    have := hK _ hO (grownBy_setRow _ _ _)
    refine hK' _ _ ?_
    simpa [E.len] using this
end
end Go.Dfl
