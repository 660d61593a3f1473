/- A set of keys kept as a map[K]bool that the call made, and its range; 'make([]T, 0, n)'. Of no program. -/
import Derived.Test.YtnklnklkblgnfaaGa
import Derived.Maps.RangeWalk
namespace Go.Dfl
open Go.Maps Go.RowKit
/-- Block b is a map[K]bool whose keys are just those of the list. -/
def SetT (P : Program) (k e : TypeId) (w : World) (b n : Nat) (l : List Value) : Prop :=
  ∃ D : DataW Unit, w.ownsMap P k (plainElem P e) b n D ∧ ∀ key kl, keyOf P k key = some kl → (Maps.has D kl = true ↔ key ∈ l)
/-- A range over it is under way: the keys of 'seen' have come. -/
def RngT (P : Program) (k e : TypeId) (w : World) (b r n : Nat) (l seen : List Value) (cnt : Nat) : Prop :=
  ∃ (D : DataW Unit) (left : Lit → Bool), w.ranges P k (plainElem P e) b r n D left cnt ∧ ∀ key kl, keyOf P k key = some kl → (left kl = true ↔ key ∈ l ∧ key ∉ seen)
section
variable {P : Program} {k e t : TypeId} {w w' : World} {b r n : Nat} {l seen : List Value}
theorem SetT.made (P : Program) (k e : TypeId) (w : World) {B : Nat} (hB : B = w.heap.size) : SetT P k e (w.alloc (.map #[] 0)) B 0 [] := by
  subst hB
  exact ⟨_, World.ownsMap_made w P k _, fun key kl _ => by simp [Maps.has]⟩
theorem SetT.kept {row : Option Nat} (h : SetT P k e w b n l) (hg : w.grownBy w' row) (hne : some b ≠ row) : SetT P k e w' b n l := by
  obtain ⟨D, h1, h2⟩ := h
  exact ⟨D, h1.kept hg hne, h2⟩
theorem SetT.lt (h : SetT P k e w b n l) : b < w.heap.size := by obtain ⟨D, h1, -⟩ := h; exact h1.lt
theorem SetT.put (h : SetT P k e w b n l) (K : Keyed P k) (ht : P.underlying t = some (.map k e)) (he : P.underlying e = some .bool) (hn : n < maxLen) {key : Value} {kl : Lit} (hkey : keyOf P k key = some kl) :
    ∃ w', (Instr.mapUpdate t (.map (some b)) key (.bool true)).run P w = .ok () w' ∧ SetT P k e w' b (n + 1) (l ++ [key]) ∧ w.grownBy w' (some b) := by
  obtain ⟨D, h1, h2⟩ := h
  obtain ⟨w', hrun, how, hg⟩ := h1.update K ht hn hkey (plainElem_bool he true)
  refine ⟨w', hrun, ⟨_, how, fun key' kl' hk' => ?_⟩, hg⟩
  by_cases ek : kl' = kl
  · subst ek
    obtain rfl := K.inj hk' hkey
    rw [has_put_same h1.isMap (K.key hkey)]; simp
  · rw [has_put_other ek, h2 key' kl' hk']
    have : key' ≠ key := fun e' => ek (by rw [e', hkey] at hk'; simpa using hk'.symm)
    simp [this]
theorem SetT.len (h : SetT P k e w b n l) (ht : P.underlying t = some (.map k e)) : ∃ m : Nat, m ≤ n ∧ ∀ ty, (Builtin.len_ #[t] ty #[.map (some b)]).run P w = .ok (.int .i64 (m : Int)) w := by
  obtain ⟨D, h1, h2⟩ := h
  exact ⟨_, h1.size_le, fun ty => h1.len ht ty⟩
theorem wp_setPut {ops : Array Oper} {rest : List Oper} {o : Oper} {a : Act} {Q : Exit → Act → World → Prop} (h : SetT P k e w b n l) (hg : o.guard = none) (m x v : Operand) (hop : o.op = Op.mapUpdate t m x v) (K : Keyed P k) (ht : P.underlying t = some (.map k e)) (he : P.underlying e = some .bool)
    (hm : a.eval m = .map (some b)) (hv : a.eval v = .bool true) (hn : n < maxLen) (key : Value) (kl : Lit) (hx : a.eval x = key) (hkey : keyOf P k key = some kl)
    (hK : ∀ w', SetT P k e w' b (n + 1) (l ++ [key]) → w.grownBy w' (some b) → wpList P ops Q rest (a.put o.dst undef) w') : wpList P ops Q (o :: rest) a w := by
  refine wpList_plain hg fun K' hK' => ?_
  obtain ⟨w', hrun, r1, r2⟩ := h.put K ht he hn hkey
  unfold Oper.wp
  simp [execOp, hop, hm, hx, hv, hrun, Result.andThen]
  exact hK' _ _ (hK w' r1 r2)
theorem RngT.lt {cnt : Nat} (h : RngT P k e w b r n l seen cnt) : r < w.heap.size ∧ b < w.heap.size ∧ r ≠ b := by
  obtain ⟨D, left, h1, -⟩ := h
  exact ⟨h1.lt, h1.owns.lt, h1.ne⟩
theorem RngT.kept {cnt : Nat} {row : Option Nat} (h : RngT P k e w b r n l seen cnt) (hg : w.grownBy w' row) (hb : some b ≠ row) (hr : some r ≠ row) : RngT P k e w' b r n l seen cnt := by
  obtain ⟨D, left, h1, h2⟩ := h
  exact ⟨D, left, h1.kept hg hb hr, h2⟩
theorem RngT.left_eq {cnt : Nat} (h : RngT P k e w b r n l seen cnt) : w.rangeLeft b r = cnt := by
  obtain ⟨D, left, h1, h2⟩ := h
  exact h1.left_eq
/-- 'range m'. -/
theorem wp_setRange {ops : Array Oper} {rest : List Oper} {o : Oper} {a : Act} {Q : Exit → Act → World → Prop} (h : SetT P k e w b n l) (hg : o.guard = none) (m : Operand) (hop : o.op = Op.range t m) (K : Keyed P k) (ht : P.underlying t = some (.map k e)) (hm : a.eval m = .map (some b))
    (hK : ∀ w' cnt, RngT P k e w' b w.heap.size n l [] cnt → w.grownBy w' none → w'.heap.size = w.heap.size + 1 → wpList P ops Q rest (a.put o.dst (.pointer (some ⟨w.heap.size, 0, none⟩))) w') : wpList P ops Q (o :: rest) a w := by
  obtain ⟨D, h1, h2⟩ := h
  refine wpList_range_own w hg m t hop k e K ht (plainElem P e) b n D hm h1 fun w' q1 q2 q3 => hK w' _ ⟨D, _, q1, fun key kl hk => ?_⟩ q2 q3
  rw [h2 key kl hk]; simp
/-- The step. -/
theorem wp_setNext {ops : Array Oper} {rest : List Oper} {o : Oper} {a : Act} {Q : Exit → Act → World → Prop} {cnt : Nat} (h : RngT P k e w b r n l seen cnt) (hg : o.guard = none) (it : Operand) (hop : o.op = Op.next it false) (K : Keyed P k) (he : P.underlying e = some .bool)
    (hit : a.eval it = .pointer (some ⟨r, 0, none⟩))
    (hDone : Hid (∀ key kl, keyOf P k key = some kl → key ∈ l → key ∈ seen) → wpList P ops Q rest (a.put o.dst (.tuple #[.bool false])) w)
    (hMore : ∀ (key : Value) (c : Bool) (w' : World), Hid (∃ cnt', key ∈ l ∧ key ∉ seen ∧ RngT P k e w' b r n l (seen ++ [key]) cnt' ∧ cnt' < cnt ∧ w.grownBy w' (some r) ∧ w'.heap.size = w.heap.size) →
      (Instr.entry (.pointer (some ⟨r, 0, none⟩))).run P w' = .ok (.tuple #[key, .bool c]) w' → wpList P ops Q rest (a.put o.dst (.tuple #[.bool true, key, .bool c])) w') :
    wpList P ops Q (o :: rest) a w := by
  obtain ⟨D, left, h1, h2⟩ := h
  refine wpList_next_ranges w hg it hop k K (plainElem P e) (fun x : Value => x) (fun c : Bool => Value.bool c) (fun key kl _ => ⟨key, rfl⟩) (fun v y hv => by obtain ⟨c, rfl, -⟩ := plainElem_bool_inv he hv; exact ⟨c, rfl⟩) b r n D left cnt hit h1 ?_ ?_
  · intro _ hl
    refine hDone (Lib.hid fun key kl hk hm => ?_)
    false_or_by_contra
    rename_i hno
    have := (h2 key kl hk).2 ⟨hm, hno⟩
    rw [hl kl] at this; cases this
  · intro x c kl y w1 cnt1 hkx hlx _ _ hrg hlt hgr hsz hen
    obtain ⟨hm, hn⟩ := (h2 x kl hkx).1 hlx
    refine hMore x c w1 (Lib.hid ⟨cnt1, hm, hn, ⟨D, _, hrg, fun key kl' hk' => ?_⟩, hlt, hgr, hsz⟩) hen
    rw [Bool.and_eq_true, h2 key kl' hk', List.mem_append, List.mem_singleton]
    by_cases ek : kl' = kl
    · subst ek
      obtain rfl := K.inj hk' hkx
      rw [WideAt.sameKey_self (K.key hk')]; simp
    · have hne : key ≠ x := fun e' => ek (by rw [e', hkx] at hk'; simpa using hk'.symm)
      have hs : kl'.sameKey kl = false := sameKey_ne ek
      rw [hs]; simp [hne]
end
/-- The step, keys of 3 integers. -/
theorem wp_setNext3 {P : Program} {k e : TypeId} {w : World} {b r n cnt : Nat} {ll ss : List (Int × Int × Int)} {ops : Array Oper} {rest : List Oper} {o : Oper} {a : Act} {Q : Exit → Act → World → Prop} (mk : Int × Int × Int → Value) (hmk : ∀ x1 x2 x3, mk (x1, x2, x3) = .agg #[.int .i64 x1, .int .i64 x2, .int .i64 x3])
    (h : RngT P k e w b r n (ll.map mk) (ss.map mk) cnt) (hg : o.guard = none) (it : Operand) (hop : o.op = Op.next it false) (K : Keyed P k) (he : P.underlying e = some .bool) (hit : a.eval it = .pointer (some ⟨r, 0, none⟩))
    (hDone : Hid (∀ x, (∃ kl, keyOf P k (mk x) = some kl) → x ∈ ll → mk x ∈ ss.map mk) → wpList P ops Q rest (a.put o.dst (.tuple #[.bool false])) w)
    (hMore : ∀ (x1 x2 x3 : Int) (c : Bool) (w' : World), Hid (∃ cnt', (x1, x2, x3) ∈ ll ∧ (x1, x2, x3) ∉ ss ∧ RngT P k e w' b r n (ll.map mk) ((ss ++ [(x1, x2, x3)]).map mk) cnt' ∧ cnt' < cnt ∧ w.grownBy w' (some r) ∧ w'.heap.size = w.heap.size) →
      (Instr.entry (.pointer (some ⟨r, 0, none⟩))).run P w' = .ok (.tuple #[.agg #[.int .i64 x1, .int .i64 x2, .int .i64 x3], .bool c]) w' → wpList P ops Q rest (a.put o.dst (.tuple #[.bool true, .agg #[.int .i64 x1, .int .i64 x2, .int .i64 x3], .bool c])) w') :
    wpList P ops Q (o :: rest) a w := by
  refine wp_setNext h hg it hop K he hit (fun hd => hDone (Lib.hid fun x ⟨kl, hk⟩ hm => hd.out _ kl hk (List.mem_map_of_mem hm))) (fun key c w' hh hen => ?_)
  obtain ⟨cnt', h1, h2, h3, h4⟩ := hh.out
  obtain ⟨⟨x1, x2, x3⟩, hx, rfl⟩ := List.mem_map.1 h1
  rw [hmk] at hen ⊢
  exact hMore x1 x2 x3 c w' (Lib.hid ⟨cnt', hx, fun hs => h2 (List.mem_map_of_mem hs), by rw [List.map_append]; exact h3, h4⟩) hen
/-- The step, keys of 4 integers. -/
theorem wp_setNext4 {P : Program} {k e : TypeId} {w : World} {b r n cnt : Nat} {ll ss : List (Int × Int × Int × Int)} {ops : Array Oper} {rest : List Oper} {o : Oper} {a : Act} {Q : Exit → Act → World → Prop} (mk : Int × Int × Int × Int → Value) (hmk : ∀ x1 x2 x3 x4, mk (x1, x2, x3, x4) = .agg #[.int .i64 x1, .int .i64 x2, .int .i64 x3, .int .i64 x4])
    (h : RngT P k e w b r n (ll.map mk) (ss.map mk) cnt) (hg : o.guard = none) (it : Operand) (hop : o.op = Op.next it false) (K : Keyed P k) (he : P.underlying e = some .bool) (hit : a.eval it = .pointer (some ⟨r, 0, none⟩))
    (hDone : Hid (∀ x, (∃ kl, keyOf P k (mk x) = some kl) → x ∈ ll → mk x ∈ ss.map mk) → wpList P ops Q rest (a.put o.dst (.tuple #[.bool false])) w)
    (hMore : ∀ (x1 x2 x3 x4 : Int) (c : Bool) (w' : World), Hid (∃ cnt', (x1, x2, x3, x4) ∈ ll ∧ (x1, x2, x3, x4) ∉ ss ∧ RngT P k e w' b r n (ll.map mk) ((ss ++ [(x1, x2, x3, x4)]).map mk) cnt' ∧ cnt' < cnt ∧ w.grownBy w' (some r) ∧ w'.heap.size = w.heap.size) →
      (Instr.entry (.pointer (some ⟨r, 0, none⟩))).run P w' = .ok (.tuple #[.agg #[.int .i64 x1, .int .i64 x2, .int .i64 x3, .int .i64 x4], .bool c]) w' → wpList P ops Q rest (a.put o.dst (.tuple #[.bool true, .agg #[.int .i64 x1, .int .i64 x2, .int .i64 x3, .int .i64 x4], .bool c])) w') :
    wpList P ops Q (o :: rest) a w := by
  refine wp_setNext h hg it hop K he hit (fun hd => hDone (Lib.hid fun x ⟨kl, hk⟩ hm => hd.out _ kl hk (List.mem_map_of_mem hm))) (fun key c w' hh hen => ?_)
  obtain ⟨cnt', h1, h2, h3, h4⟩ := hh.out
  obtain ⟨⟨x1, x2, x3, x4⟩, hx, rfl⟩ := List.mem_map.1 h1
  rw [hmk] at hen ⊢
  exact hMore x1 x2 x3 x4 c w' (Lib.hid ⟨cnt', hx, fun hs => h2 (List.mem_map_of_mem hs), by rw [List.map_append]; exact h3, h4⟩) hen
/-- 'make([]T, 0, n)'. -/
theorem wp_make0 {α : Type} {E : El α} {P : Program} {t e : TypeId} {z : Value} {by8 : Nat} (ht : SliceOf P t e z E.sz by8) (w : World) {ops : Array Oper} {rest : List Oper} {o : Oper} {a : Act} {Q : Exit → Act → World → Prop}
    (hg : o.guard = none) (l c : Operand) (hop : o.op = Op.makeSlice t l c) (kl kc : IntKind) (n : Nat) (hl : a.eval l = .int kl 0) (hc : a.eval c = .int kc (n : Int))
    (hb : by8 * n ≤ 281474976710656) (hm : n ≤ maxLen)
    (hK : ∀ w', OwnE E w' w.heap.size e (.slice (some ⟨w.heap.size, 0, none⟩) 0 n) [] → Below w.heap.size w w' → wpList P ops Q rest (a.put o.dst (.slice (some ⟨w.heap.size, 0, none⟩) 0 n)) w') :
    wpList P ops Q (o :: rest) a w := by
  obtain ⟨i, hi, hz0, hz1, hz2⟩ := ht.info
  refine wpList_plain hg fun K hK' => ?_
  have hrun := run_make (P := P) (w := w) t e i z ht.und hi hz0 kl kc 0 (n : Int) (by omega) (by omega) (by rw [hz2]; omega) (by unfold maxLen at hm; omega)
  simp only [Int.toNat_natCast, Int.toNat_zero] at hrun
  unfold Oper.wp
  simp [execOp, hop, hl, hc, hrun, Result.andThen]
  refine hK' _ _ (hK _ ⟨by simp, .inr ⟨w.heap.size, n, _, rfl, Nat.le_refl _, heap_alloc_new w _, by simp, hm, ?_, by simp⟩⟩ ((Below.refl _ _).alloc (Nat.le_refl _) _))
  rw [size_madeCells, hz1]
end Go.Dfl
