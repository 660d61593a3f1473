/- Plain: nodes taken away one after the other, each as soon as no edge leads to it any more. Of no program. -/
import Derived.Test.YtchmjgjagaaomaaBase
import Derived.Test.YtchmjgjagaaomaaGa
namespace Go.Kah
open Go.Dfl (nth nth_set nth_mem mem_nth nth_eq nth_ext nth_append take_snoc)
theorem nodup_le {α : Type} [DecidableEq α] : ∀ (l m : List α), l.Nodup → (∀ x ∈ l, x ∈ m) → l.length ≤ m.length
  | [], _, _, _ => by simp
  | a :: l, m, hn, h => by
    rw [List.nodup_cons] at hn
    have h1 := nodup_le l (m.erase a) hn.2 fun x hx => by
      have hne : x ≠ a := fun e => hn.1 (e ▸ hx)
      exact (List.mem_erase_of_ne hne).2 (h x (List.mem_cons_of_mem _ hx))
    have h2 := List.length_erase_of_mem (h a (by simp))
    have h3 : 0 < m.length := List.length_pos_of_mem (h a (by simp))
    simp only [List.length_cons]
    omega
theorem nodup_snoc {o : List Nat} {x : Nat} (h : o.Nodup) (hx : ¬ x ∈ o) : (o ++ [x]).Nodup := by
  rw [List.nodup_append]
  exact ⟨h, by simp, fun a ha b hb e => hx (by rw [List.mem_singleton] at hb; rw [← hb, ← e]; exact ha)⟩
/-- A path of at least one edge. -/
inductive Plus (R : Nat → Nat → Prop) : Nat → Nat → Prop
  | one {a b : Nat} : R a b → Plus R a b
  | cons {a b c : Nat} : R a b → Plus R b c → Plus R a c
theorem Plus.trans {R : Nat → Nat → Prop} {a b c : Nat} (h : Plus R a b) (k : Plus R b c) : Plus R a c := by
  induction h with
  | one h => exact .cons h k
  | cons h _ ih => exact .cons h (ih k)
theorem Plus.imp {R Q : Nat → Nat → Prop} {a b : Nat} (h : Plus R a b) (hi : ∀ x y, R x y → Q x y) : Plus Q a b := by
  induction h with
  | one h => exact .one (hi _ _ h)
  | cons h _ ih => exact .cons (hi _ _ h) ih
/-- In a finite set in which each has a predecessor there is a cycle. -/
theorem cycle_of {A : Nat → Prop} {R : Nat → Nat → Prop} {n : Nat} (hn : ∀ x, A x → x < n) (hp : ∀ x, A x → ∃ y, A y ∧ R y x) (hx : ∃ x, A x) : ∃ c, Plus R c c := by
  obtain ⟨x, hx⟩ := hx
  obtain ⟨f, hf⟩ : ∃ f : Nat → Nat, ∀ x, A x → A (f x) ∧ R (f x) x := ⟨fun x => Classical.epsilon fun y => A y ∧ R y x, fun x hx => Classical.epsilon_spec (hp x hx)⟩
  obtain ⟨a, ha0, ha⟩ : ∃ a : Nat → Nat, a 0 = x ∧ ∀ k, a (k + 1) = f (a k) := ⟨fun k => Nat.rec x (fun _ y => f y) k, rfl, fun _ => rfl⟩
  have hA : ∀ k, A (a k) := fun k => by
    induction k with
    | zero => rw [ha0]; exact hx
    | succ k ih => rw [ha]; exact (hf _ ih).1
  have hR : ∀ k, R (a (k + 1)) (a k) := fun k => by rw [ha]; exact (hf _ (hA k)).2
  have hplus : ∀ d i, Plus R (a (i + d + 1)) (a i) := fun d => by
    induction d with
    | zero => exact fun i => .one (hR i)
    | succ d ih => exact fun i => .cons (hR (i + d + 1)) (ih i)
  have hnot : ¬ ((List.range (n + 1)).map a).Nodup := fun h => by
    have := nodup_le _ (List.range n) h fun y hy => by
      obtain ⟨k, -, rfl⟩ := List.mem_map.1 hy
      exact List.mem_range.2 (hn _ (hA k))
    simp at this; omega
  have hex : ∃ i j, i < j ∧ a i = a j := by
    false_or_by_contra
    rename_i hne
    refine hnot (List.pairwise_map.2 (List.pairwise_lt_range.imp fun {i j} hij e => hne ⟨i, j, hij, e⟩))
  obtain ⟨i, j, hij, he⟩ := hex
  have := hplus (j - i - 1) i
  rw [show i + (j - i - 1) + 1 = j by omega, ← he] at this
  exact ⟨_, this⟩
abbrev Ed := List (Nat × Nat)
/-- How many edges lead to w from nodes that are not done. -/
def cnt (E : Ed) (D : List Nat) (w : Nat) : Nat := (E.filter fun e => decide (e.2 = w) && !decide (e.1 ∈ D)).length
/-- Where the edges of a node lead. -/
def row (E : Ed) (u : Nat) : List Nat := (E.filter fun e => decide (e.1 = u)).map fun e => e.2
theorem mem_row {E : Ed} {u w : Nat} : w ∈ row E u ↔ (u, w) ∈ E := by
  unfold row
  rw [List.mem_map]
  constructor
  · rintro ⟨⟨a, b⟩, he, rfl⟩
    rw [List.mem_filter, decide_eq_true_eq] at he
    rw [← he.2]; exact he.1
  · intro h; exact ⟨(u, w), List.mem_filter.2 ⟨h, by simp⟩, rfl⟩
theorem cnt_snoc (E : Ed) {D : List Nat} {u : Nat} (hu : ¬ u ∈ D) (w : Nat) : cnt E (D ++ [u]) w + (row E u).count w = cnt E D w := by
  unfold cnt row
  induction E with
  | nil => rfl
  | cons e E ih =>
    obtain ⟨a, b⟩ := e
    rw [List.filter_cons, List.filter_cons, List.filter_cons]
    simp only [List.mem_append, List.mem_singleton] at ih ⊢
    by_cases hb : b = w
    · by_cases ha : a = u
      · have h1 : ¬ a ∈ D := by rw [ha]; exact hu
        simp only [ha, hb, hu, or_true, decide_true, Bool.not_true, Bool.and_false, Bool.false_eq_true, if_false, decide_false, Bool.not_false, Bool.and_true, if_true, List.map_cons, List.count_cons_self, List.length_cons]
        omega
      · by_cases h1 : a ∈ D
        · simp only [ha, hb, h1, true_or, decide_true, Bool.not_true, Bool.and_false, Bool.false_eq_true, if_false, decide_false]
          exact ih
        · simp only [ha, hb, h1, or_false, decide_false, Bool.not_false, Bool.and_true, decide_true, if_true, Bool.false_eq_true, if_false, List.length_cons]
          omega
    · by_cases ha : a = u
      · simp only [ha, hb, decide_false, Bool.false_and, Bool.false_eq_true, if_false, decide_true, if_true, List.map_cons]
        rw [List.count_cons_of_ne (by exact hb)]; exact ih
      · simp only [ha, hb, decide_false, Bool.false_and, Bool.false_eq_true, if_false]
        exact ih
theorem cnt_zero {E : Ed} {D : List Nat} {w : Nat} : cnt E D w = 0 ↔ ∀ u, (u, w) ∈ E → u ∈ D := by
  unfold cnt
  rw [List.length_eq_zero_iff, List.filter_eq_nil_iff]
  constructor
  · intro h u hu
    have := h _ hu
    simpa using this
  · rintro h ⟨a, b⟩ he
    by_cases hb : b = w
    · subst hb; simp [h a he]
    · simp [hb]
theorem cnt_one {E : Ed} {D : List Nat} {u w v : Nat} : cnt (E ++ [(u, w)]) D v = cnt E D v + if v = w ∧ ¬ u ∈ D then 1 else 0 := by
  unfold cnt
  rw [List.filter_append, List.length_append]
  by_cases h1 : v = w
  · by_cases h2 : u ∈ D <;> simp [h1, h2]
  · have : ¬ w = v := fun e => h1 e.symm
    simp [h1, this]
theorem row_one {E : Ed} {u w v : Nat} : row (E ++ [(u, w)]) v = row E v ++ if v = u then [w] else [] := by
  unfold row
  rw [List.filter_append, List.map_append]
  by_cases h1 : v = u
  · simp [h1]
  · have : ¬ u = v := fun e => h1 e.symm
    simp [h1, this]
/-- The work: the nodes in the order in which they are listed, i of them done, and of the next one k edges. -/
structure KI (E : Ed) (n : Nat) (S : Nat → Prop) (o : List Nat) (i k : Nat) (P : List Int) : Prop where
  len : P.length = n
  nd : o.Nodup
  io : i ≤ o.length
  p : ∀ w, w < n → nth P w + (((row E (nth o i)).take k).count w : Nat) = (cnt E (o.take i) w : Nat)
  mem : ∀ w, w ∈ o ↔ S w ∧ w < n ∧ nth P w = 0
  ord : ∀ j, j < o.length → ∀ u, (u, nth o j) ∈ E → ∃ j', j' < j ∧ nth o j' = u
section
variable {E : Ed} {n : Nat} {S : Nat → Prop} {o : List Nat} {i k : Nat} {P : List Int}
theorem KI.start (hl : P.length = n) (hn : o.Nodup) (hp : ∀ w, w < n → nth P w = (cnt E [] w : Nat)) (hm : ∀ w, w ∈ o ↔ S w ∧ w < n ∧ nth P w = 0) : KI E n S o 0 0 P :=
  ⟨hl, hn, Nat.zero_le _, fun w hw => by simp [hp w hw], hm, fun j hj u hu => by
    have h1 := (hm _).1 (nth_mem o j hj)
    have h2 := hp _ h1.2.1
    rw [h1.2.2] at h2
    have := cnt_zero.1 (by omega : cnt E [] (nth o j) = 0) u hu
    simp at this⟩
theorem nd_take {o : List Nat} (h : o.Nodup) {i : Nat} (hi : i < o.length) : ¬ nth o i ∈ o.take i := fun hm => by
  obtain ⟨j, hj, he⟩ := mem_nth hm
  rw [List.length_take] at hj
  have e1 : nth (o.take i) j = nth o j := by
    rw [nth_eq _ _ (by rw [List.length_take]; omega), nth_eq _ _ (by omega), List.getElem_take]
  rw [e1, nth_eq _ _ (by omega), nth_eq _ _ hi] at he
  have := congrArg o.idxOf he
  rw [h.idxOf_getElem, h.idxOf_getElem] at this
  omega
/-- The count of a node to which an edge is about to be taken away. -/
theorem KI.pos (h : KI E n S o i k P) (hi : i < o.length) (hk : k < (row E (nth o i)).length) (hw : nth (row E (nth o i)) k < n) : 1 ≤ nth P (nth (row E (nth o i)) k) ∧ ¬ nth (row E (nth o i)) k ∈ o := by
  have h1 := h.p _ hw
  have h2 := cnt_snoc E (nd_take h.nd hi) (nth (row E (nth o i)) k)
  have h3 : ((row E (nth o i)).take k).count (nth (row E (nth o i)) k) + 1 ≤ (row E (nth o i)).count (nth (row E (nth o i)) k) := by
    have h4 : (row E (nth o i)).count (nth (row E (nth o i)) k) = ((row E (nth o i)).take (k + 1)).count (nth (row E (nth o i)) k) + ((row E (nth o i)).drop (k + 1)).count (nth (row E (nth o i)) k) := by
      rw [← List.count_append, List.take_append_drop]
    rw [take_snoc _ _ hk, List.count_append] at h4
    simp only [List.count_singleton_self] at h4
    omega
  have h5 : 1 ≤ nth P (nth (row E (nth o i)) k) := by omega
  exact ⟨h5, fun hm => by have := ((h.mem _).1 hm).2.2; omega⟩
theorem KI.step (h : KI E n S o i k P) (hi : i < o.length) (hk : k < (row E (nth o i)).length) (hS : ∀ u w, (u, w) ∈ E → S w ∧ w < n) {w : Nat} (hw : w = nth (row E (nth o i)) k) : KI E n S (if nth P w - 1 = 0 then o ++ [w] else o) i (k + 1) (P.set w (nth P w - 1)) := by
  have hwE : (nth o i, w) ∈ E := mem_row.1 (by rw [hw]; exact nth_mem _ _ hk)
  obtain ⟨hSw, hwn⟩ := hS _ _ hwE
  obtain ⟨h1, h2⟩ := h.pos hi hk (by rw [← hw]; exact hwn)
  rw [← hw] at h1 h2
  have hnew : ∀ v, v < n → nth (P.set w (nth P w - 1)) v = nth P v - if v = w then 1 else 0 := fun v hv => by
    rw [nth_set]
    by_cases e : w = v
    · subst e; rw [if_pos ⟨rfl, by rw [h.len]; exact hwn⟩, if_pos rfl]
    · rw [if_neg fun h => e h.1, if_neg fun e2 => e e2.symm]; omega
  have hp' : ∀ v, v < n → nth (P.set w (nth P w - 1)) v + (((row E (nth o i)).take (k + 1)).count v : Nat) = (cnt E (o.take i) v : Nat) := fun v hv => by
    rw [hnew v hv, take_snoc _ _ hk, List.count_append, ← hw]
    have := h.p v hv
    by_cases e : v = w
    · subst e; simp only [if_true, List.count_singleton_self]; omega
    · rw [if_neg e, List.count_singleton, show (w == v) = false by simp; exact fun e2 => e e2.symm]
      simp; omega
  by_cases hz : nth P w - 1 = 0
  · rw [if_pos hz]
    have hoi : nth (o ++ [w]) i = nth o i := by rw [nth_append, if_pos hi]
    have hti : (o ++ [w]).take i = o.take i := List.take_append_of_le_length h.io
    refine ⟨by rw [List.length_set]; exact h.len, nodup_snoc h.nd h2, by rw [List.length_append]; have := h.io; omega, fun v hv => by rw [hoi, hti]; exact hp' v hv, fun v => ?_, fun j hj u hu => ?_⟩
    · rw [List.mem_append, List.mem_singleton]
      constructor
      · rintro (hv | rfl)
        · obtain ⟨a, b, c⟩ := (h.mem v).1 hv
          refine ⟨a, b, ?_⟩
          rw [hnew v b, if_neg fun e => h2 (by rw [← e]; exact hv)]; omega
        · exact ⟨hSw, hwn, by rw [hnew _ hwn, if_pos rfl]; exact hz⟩
      · rintro ⟨a, b, c⟩
        by_cases e : v = w
        · exact .inr e
        · rw [hnew v b, if_neg e] at c
          exact .inl ((h.mem v).2 ⟨a, b, by omega⟩)
    · rw [List.length_append, List.length_singleton] at hj
      by_cases e : j < o.length
      · rw [nth_append, if_pos e] at hu
        obtain ⟨j', h3, h4⟩ := h.ord j e u hu
        exact ⟨j', h3, by rw [nth_append, if_pos (by omega)]; exact h4⟩
      · obtain rfl : j = o.length := by omega
        rw [nth_append, if_neg (Nat.lt_irrefl _), Nat.sub_self] at hu
        have hu' : (u, w) ∈ E := hu
        have h5 := hp' w hwn
        rw [hnew w hwn, if_pos rfl, hz] at h5
        have h6 := cnt_snoc E (nd_take h.nd hi) w
        have h7 : ((row E (nth o i)).take (k + 1)).count w ≤ (row E (nth o i)).count w := (List.take_sublist _ _).count_le _
        have h8 := cnt_zero.1 (by omega : cnt E (o.take i ++ [nth o i]) w = 0) u hu'
        rw [← take_snoc _ _ hi] at h8
        obtain ⟨j', h9, h10⟩ := mem_nth h8
        rw [List.length_take] at h9
        refine ⟨j', by omega, ?_⟩
        rw [nth_append, if_pos (by omega), ← h10, nth_eq _ _ (by omega), nth_eq _ _ (by rw [List.length_take]; omega), List.getElem_take]
  · rw [if_neg hz]
    refine ⟨by rw [List.length_set]; exact h.len, h.nd, h.io, hp', fun v => ?_, h.ord⟩
    rw [h.mem v]
    refine and_congr Iff.rfl ⟨fun ⟨a, b⟩ => ⟨a, ?_⟩, fun ⟨a, b⟩ => ⟨a, ?_⟩⟩
    · rw [hnew v a]
      by_cases e : v = w
      · subst e; omega
      · rw [if_neg e]; omega
    · rw [hnew v a] at b
      by_cases e : v = w
      · subst e; rw [if_pos rfl] at b; exact absurd b hz
      · rw [if_neg e] at b; omega
theorem KI.next (h : KI E n S o i k P) (hi : i < o.length) (hk : k = (row E (nth o i)).length) : KI E n S o (i + 1) 0 P := by
  refine ⟨h.len, h.nd, hi, fun w hw => ?_, h.mem, h.ord⟩
  have h1 := h.p w hw
  rw [hk, List.take_length] at h1
  have h2 := cnt_snoc E (nd_take h.nd hi) w
  rw [← take_snoc _ _ hi] at h2
  simp; omega
/-- All are listed exactly if there is no cycle. -/
theorem KI.fin (h : KI E n S o o.length 0 P) (hS : ∀ u w, (u, w) ∈ E → S u ∧ u < n) : (∀ w, S w → w < n → w ∈ o) ↔ ¬ ∃ c, Plus (fun u w => (u, w) ∈ E) c c := by
  constructor
  · rintro ha ⟨c, hc⟩
    have key : ∀ a b, Plus (fun u w => (u, w) ∈ E) a b → ∀ j, j < o.length → nth o j = b → ∃ j', j' < j ∧ nth o j' = a := fun a b hp => by
      induction hp with
      | one he => exact fun j hj e => h.ord j hj _ (by rw [e]; exact he)
      | cons he _ ih =>
        intro j hj e
        obtain ⟨j', h1, h2⟩ := ih j hj e
        obtain ⟨j'', h3, h4⟩ := h.ord j' (by omega) _ (by rw [h2]; exact he)
        exact ⟨j'', by omega, h4⟩
    have hcE : ∃ w, (c, w) ∈ E := by
      cases hc with
      | one he => exact ⟨_, he⟩
      | cons he _ => exact ⟨_, he⟩
    obtain ⟨w, hw⟩ := hcE
    obtain ⟨h1, h2⟩ := hS _ _ hw
    obtain ⟨j, hj, he⟩ := mem_nth (ha c h1 h2)
    obtain ⟨j', h3, h4⟩ := key c c hc j hj he
    rw [nth_eq _ _ (by omega), ← he, nth_eq _ _ hj] at h4
    have := congrArg o.idxOf h4
    rw [h.nd.idxOf_getElem, h.nd.idxOf_getElem] at this
    omega
  · intro hac w hw hwn
    false_or_by_contra
    rename_i hno
    refine hac (cycle_of (A := fun x => S x ∧ x < n ∧ ¬ x ∈ o) (n := n) (fun x hx => hx.2.1) (fun x hx => ?_) ⟨w, hw, hwn, hno⟩)
    obtain ⟨h1, h2, h3⟩ := hx
    have h4 := h.p x h2
    have h5 : nth P x ≠ 0 := fun e => h3 ((h.mem x).2 ⟨h1, h2, e⟩)
    rw [List.take_length] at h4
    simp only [List.take_zero, List.count_nil] at h4
    have h6 : ¬ ∀ u, (u, x) ∈ E → u ∈ o := fun hall => by
      have := cnt_zero.2 hall
      omega
    obtain ⟨u, h7⟩ := Classical.not_forall.1 h6
    obtain ⟨h8, h9⟩ := Classical.not_imp.1 h7
    exact ⟨u, ⟨(hS _ _ h8).1, (hS _ _ h8).2, h9⟩, h8⟩
/-- The lengths tell whether all are listed. -/
theorem KI.all (h : KI E n S o i k P) [DecidablePred S] : (o.length = ((List.range n).filter fun v => decide (S v)).length) ↔ ∀ w, S w → w < n → w ∈ o := by
  have hsub : ∀ x ∈ o, x ∈ (List.range n).filter fun v => decide (S v) := fun x hx => by
    obtain ⟨a, b, -⟩ := (h.mem x).1 hx
    exact List.mem_filter.2 ⟨List.mem_range.2 b, by simpa using a⟩
  constructor
  · intro he w h1 h2
    false_or_by_contra
    rename_i hno
    have := nodup_le (o ++ [w]) ((List.range n).filter fun v => decide (S v)) (nodup_snoc h.nd hno) fun x hx => by
      rcases List.mem_append.1 hx with hx | hx
      · exact hsub x hx
      · rw [List.mem_singleton.1 hx]; exact List.mem_filter.2 ⟨List.mem_range.2 h2, by simpa using h1⟩
    rw [List.length_append, List.length_singleton] at this
    omega
  · intro ha
    refine Nat.le_antisymm (nodup_le _ _ h.nd hsub) (nodup_le _ _ (List.nodup_range.filter _) fun x hx => ?_)
    obtain ⟨h1, h2⟩ := List.mem_filter.1 hx
    exact ha x (by simpa using h2) (List.mem_range.1 h1)
end
end Go.Kah

/- Plain: Kahn's algorithm that takes the least of what may come next. Of no program. -/
namespace Go.Kah
open Go.Dfl (nth nth_set nth_mem mem_nth nth_eq nth_ext nth_append take_snoc)
/-- x comes next behind D: the least of those that are not listed and whose predecessors are. -/
def Nxt (E : Ed) (n : Nat) (S : Nat → Prop) (D : List Nat) (x : Nat) : Prop := (S x ∧ x < n ∧ ¬ x ∈ D ∧ ∀ u, (u, x) ∈ E → u ∈ D) ∧ ∀ y, S y → y < n → ¬ y ∈ D → (∀ u, (u, y) ∈ E → u ∈ D) → x ≤ y
theorem Nxt.unique {E : Ed} {n : Nat} {S : Nat → Prop} {D : List Nat} {x y : Nat} (h : Nxt E n S D x) (k : Nxt E n S D y) : x = y := by
  have h1 := h.2 y k.1.1 k.1.2.1 k.1.2.2.1 k.1.2.2.2
  have h2 := k.2 x h.1.1 h.1.2.1 h.1.2.2.1 h.1.2.2.2
  omega
def Steps (E : Ed) (n : Nat) (S : Nat → Prop) (L : List Nat) : Prop := ∀ j, j < L.length → Nxt E n S (L.take j) (nth L j)
theorem Steps.snoc {E : Ed} {n : Nat} {S : Nat → Prop} {L : List Nat} {x : Nat} (h : Steps E n S L) (hx : Nxt E n S L x) : Steps E n S (L ++ [x]) := fun j hj => by
  rw [List.length_append] at hj
  simp only [List.length_cons, List.length_nil] at hj
  by_cases e : j < L.length
  · rw [List.take_append_of_le_length (by omega), nth_append, if_pos e]; exact h j e
  · obtain rfl : j = L.length := by omega
    rw [List.take_append_of_le_length (Nat.le_refl _), List.take_length, nth_append, if_neg (by omega), Nat.sub_self]; exact hx
/-- Between two nodes. -/
structure HB (E : Ed) (n : Nat) (S : Nat → Prop) (L R : List Nat) (P : List Int) : Prop where
  len : P.length = n
  nd : (L ++ R).Nodup
  p : ∀ w, w < n → nth P w = (cnt E L w : Nat)
  mem : ∀ w, (w ∈ L ∨ w ∈ R) ↔ S w ∧ w < n ∧ nth P w = 0
  st : Steps E n S L
/-- Within a node: k of its edges are done. -/
structure HM (E : Ed) (n : Nat) (S : Nat → Prop) (L : List Nat) (u k : Nat) (R : List Nat) (P : List Int) : Prop where
  len : P.length = n
  nd : (L ++ u :: R).Nodup
  p : ∀ w, w < n → nth P w + (((row E u).take k).count w : Nat) = (cnt E L w : Nat)
  mem : ∀ w, (w ∈ L ∨ w = u ∨ w ∈ R) ↔ S w ∧ w < n ∧ nth P w = 0
  st : Steps E n S (L ++ [u])
section
variable {E : Ed} {n : Nat} {S : Nat → Prop} {L R R' : List Nat} {u k : Nat} {P : List Int}
theorem HB.perm (h : HB E n S L R P) (hp : R'.Perm R) : HB E n S L R' P :=
  ⟨h.len, (List.Perm.append_left L hp).nodup_iff.2 h.nd, h.p, fun w => by rw [← h.mem w, hp.mem_iff], h.st⟩
theorem HM.perm (h : HM E n S L u k R P) (hp : R'.Perm R) : HM E n S L u k R' P :=
  ⟨h.len, (List.Perm.append_left L (hp.cons u)).nodup_iff.2 h.nd, h.p, fun w => by rw [← h.mem w, hp.mem_iff], h.st⟩
theorem HB.pop (h : HB E n S L (u :: R) P) (hu : ∀ x ∈ R, u ≤ x) : HM E n S L u 0 R P := by
  refine ⟨h.len, h.nd, fun w hw => by simp [h.p w hw], fun w => by rw [← h.mem w, List.mem_cons], h.st.snoc ⟨?_, fun y hS hn hD hy => ?_⟩⟩
  · obtain ⟨h1, h2, h3⟩ := (h.mem u).1 (.inr (by simp))
    have h4 := h.p u h2
    rw [h3] at h4
    refine ⟨h1, h2, fun hm => ?_, fun x hx => cnt_zero.1 (by omega : cnt E L u = 0) x hx⟩
    exact (List.nodup_append.1 h.nd).2.2 u hm u (by simp) rfl
  · have h4 := h.p y hn
    rw [cnt_zero.2 hy] at h4
    rcases (h.mem y).2 ⟨hS, hn, by omega⟩ with h5 | h5
    · exact absurd h5 hD
    · rcases List.mem_cons.1 h5 with e | h5
      · omega
      · exact hu y h5
theorem HM.pos (h : HM E n S L u k R P) (hk : k < (row E u).length) (hw : nth (row E u) k < n) : 0 < nth P (nth (row E u) k) := by
  have hul : ¬ u ∈ L := fun hm => (List.nodup_append.1 h.nd).2.2 u hm u (by simp) rfl
  have h1 := cnt_snoc E hul (nth (row E u) k)
  have h2 := h.p _ hw
  have h3 : ((row E u).take (k + 1)).count (nth (row E u) k) ≤ (row E u).count (nth (row E u) k) := (List.take_sublist _ _).count_le _
  rw [take_snoc _ _ hk, List.count_append, List.count_singleton_self] at h3
  omega
theorem HM.next (h : HM E n S L u k R P) (hk : k < (row E u).length) {w : Nat} (he : nth (row E u) k = w) (hw : w < n) (hS : S w) : (nth P w - 1 ≠ 0 → HM E n S L u (k + 1) R (P.set w (nth P w - 1))) ∧ (nth P w - 1 = 0 → HM E n S L u (k + 1) (w :: R) (P.set w (nth P w - 1))) := by
  have hpos := h.pos hk (by rw [he]; exact hw)
  rw [he] at hpos
  have hout : ¬ (w ∈ L ∨ w = u ∨ w ∈ R) := fun hm => by have := ((h.mem w).1 hm).2.2; omega
  have hp : ∀ x, x < n → nth (P.set w (nth P w - 1)) x + (((row E u).take (k + 1)).count x : Nat) = (cnt E L x : Nat) := fun x hx => by
    have h1 := h.p x hx
    rw [take_snoc _ _ hk, List.count_append, he, nth_set, h.len]
    by_cases e : x = w
    · subst e; rw [if_pos ⟨rfl, hx⟩, List.count_singleton_self]; omega
    · rw [if_neg (by rintro ⟨e2, -⟩; first | exact e e2 | exact e e2.symm), List.count_singleton, if_neg (by simpa using fun e2 => e e2.symm)]; omega
  have hn : ∀ x, x ≠ w → nth (P.set w (nth P w - 1)) x = nth P x := fun x hx => by
    rw [nth_set, if_neg (by rintro ⟨e2, -⟩; first | exact hx e2 | exact hx e2.symm)]
  have hww : nth (P.set w (nth P w - 1)) w = nth P w - 1 := by rw [nth_set, h.len, if_pos ⟨rfl, hw⟩]
  refine ⟨fun h0 => ⟨by rw [List.length_set]; exact h.len, h.nd, hp, fun x => ?_, h.st⟩, fun h0 => ⟨by rw [List.length_set]; exact h.len, ?_, hp, fun x => ?_, h.st⟩⟩
  · by_cases e : x = w
    · subst e; rw [hww]; exact ⟨fun hm => absurd hm hout, fun hm => absurd hm.2.2 h0⟩
    · rw [hn x e]; exact h.mem x
  · have h1 : (L ++ u :: w :: R).Perm (w :: (L ++ u :: R)) := by
      refine (List.Perm.append_left L (List.Perm.swap w u R)).trans List.perm_middle
    rw [h1.nodup_iff, List.nodup_cons]
    refine ⟨fun hm => hout ?_, h.nd⟩
    rw [List.mem_append, List.mem_cons] at hm; exact hm
  · by_cases e : x = w
    · subst e; rw [hww]; exact ⟨fun _ => ⟨hS, hw, h0⟩, fun _ => .inr (.inr (by simp))⟩
    · rw [hn x e, ← h.mem x, List.mem_cons]; simp [e]
theorem HM.done (h : HM E n S L u (row E u).length R P) : HB E n S (L ++ [u]) R P := by
  have hul : ¬ u ∈ L := fun hm => (List.nodup_append.1 h.nd).2.2 u hm u (by simp) rfl
  refine ⟨h.len, by rw [List.append_assoc]; exact h.nd, fun w hw => ?_, fun w => by rw [← h.mem w, List.mem_append, List.mem_singleton, or_assoc], h.st⟩
  have h1 := h.p w hw
  rw [List.take_length] at h1
  have := cnt_snoc E hul w
  omega
/-- At the end all are listed, if there is no cycle. -/
theorem HB.all (h : HB E n S L [] P) (hE : ∀ a b, (a, b) ∈ E → S a ∧ a < n) (hc : ∀ c, ¬ Plus (fun a b => (a, b) ∈ E) c c) {x : Nat} (hS : S x) (hx : x < n) : x ∈ L := by
  false_or_by_contra
  rename_i hm
  have hk : ∀ y, (S y ∧ y < n ∧ ¬ y ∈ L) → ∃ z, (S z ∧ z < n ∧ ¬ z ∈ L) ∧ (z, y) ∈ E := fun y hy => by
    have h1 : ¬ cnt E L y = 0 := fun e => by
      have h2 := h.p y hy.2.1
      rcases (h.mem y).2 ⟨hy.1, hy.2.1, by omega⟩ with h3 | h3
      · exact hy.2.2 h3
      · simp at h3
    rw [cnt_zero] at h1
    obtain ⟨z, hz⟩ := Classical.not_forall.1 h1
    rw [Classical.not_imp] at hz
    exact ⟨z, ⟨(hE z y hz.1).1, (hE z y hz.1).2, hz.2⟩, hz.1⟩
  obtain ⟨c, hcc⟩ := cycle_of (A := fun x => S x ∧ x < n ∧ ¬ x ∈ L) (R := fun a b => (a, b) ∈ E) (n := n) (fun y hy => hy.2.1) hk ⟨x, hS, hx, hm⟩
  exact hc c hcc
theorem Steps.take_eq {M : List Nat} (h : Steps E n S L) (k : Steps E n S M) : ∀ i, i ≤ L.length → i ≤ M.length → L.take i = M.take i
  | 0, _, _ => rfl
  | i + 1, h1, h2 => by
    have ih := Steps.take_eq h k i (by omega) (by omega)
    rw [take_snoc _ _ (by omega), take_snoc _ _ (by omega), ih]
    have a := h i (by omega)
    have b := k i (by omega)
    rw [ih] at a
    rw [a.unique b]
/-- The whole order. -/
structure Whole (E : Ed) (n : Nat) (S : Nat → Prop) (L : List Nat) : Prop where
  st : Steps E n S L
  nd : L.Nodup
  mem : ∀ x, x ∈ L ↔ S x ∧ x < n
theorem Whole.unique {M : List Nat} (h : Whole E n S L) (k : Whole E n S M) : L = M := by
  have hl : L.length = M.length := Nat.le_antisymm (nodup_le _ _ h.nd fun x hx => (k.mem x).2 ((h.mem x).1 hx)) (nodup_le _ _ k.nd fun x hx => (h.mem x).2 ((k.mem x).1 hx))
  have := h.st.take_eq k.st L.length (Nat.le_refl _) (by omega)
  rw [List.take_length] at this
  rw [this, hl, List.take_length]
theorem Whole.before (h : Whole E n S L) {i : Nat} (hi : i < L.length) {u : Nat} (hu : (u, nth L i) ∈ E) : ∃ j, j < i ∧ nth L j = u := by
  obtain ⟨j, hj, he⟩ := mem_nth ((h.st i hi).1.2.2.2 u hu)
  rw [List.length_take] at hj
  refine ⟨j, by omega, ?_⟩
  rw [← he, nth_eq _ _ (by omega), nth_eq _ _ (by rw [List.length_take]; omega), List.getElem_take]
theorem HB.whole (h : HB E n S L [] P) (hE : ∀ a b, (a, b) ∈ E → S a ∧ a < n) (hc : ∀ c, ¬ Plus (fun a b => (a, b) ∈ E) c c) : Whole E n S L :=
  ⟨h.st, by have := h.nd; rwa [List.append_nil] at this, fun x => ⟨fun hx => by have := (h.mem x).1 (.inl hx); exact ⟨this.1, this.2.1⟩, fun hx => h.all hE hc hx.1 hx.2⟩⟩
/-- The start: R are the nodes to which no edge leads. -/
theorem HB.start (hl : P.length = n) (hr : R.Nodup) (hp : ∀ w, w < n → nth P w = (cnt E [] w : Nat)) (hm : ∀ w, w ∈ R ↔ S w ∧ w < n ∧ nth P w = 0) : HB E n S [] R P :=
  ⟨hl, by simpa using hr, hp, fun w => by rw [← hm w]; simp, fun j hj => by simp at hj⟩
end
end Go.Kah

/- Plain: components found by one depth-first search with a stack (Tarjan). Of no program. -/
namespace Go.Tj
open Go.Dfl (nth nth_set nth_mem mem_nth nth_eq nth_ext nth_append take_snoc)
/-- Reachability. -/
inductive Rt (E : Nat → Nat → Prop) : Nat → Nat → Prop
  | refl (a : Nat) : Rt E a a
  | step {a b c : Nat} : Rt E a b → E b c → Rt E a c
theorem Rt.one {E : Nat → Nat → Prop} {a b : Nat} (h : E a b) : Rt E a b := .step (.refl a) h
theorem Rt.trans {E : Nat → Nat → Prop} {a b c : Nat} (h : Rt E a b) (k : Rt E b c) : Rt E a c := by
  induction k with
  | refl => exact h
  | step _ hc ih => exact .step ih hc
theorem Rt.closed {E : Nat → Nat → Prop} {P : Nat → Prop} (hP : ∀ a b, P a → E a b → P b) {a b : Nat} (h : Rt E a b) (ha : P a) : P b := by
  induction h with
  | refl => exact ha
  | step _ hc ih => exact hP _ _ ih hc
def Sc (E : Nat → Nat → Prop) (a b : Nat) : Prop := Rt E a b ∧ Rt E b a
theorem Sc.refl (E : Nat → Nat → Prop) (a : Nat) : Sc E a a := ⟨.refl a, .refl a⟩
theorem Sc.symm {E : Nat → Nat → Prop} {a b : Nat} (h : Sc E a b) : Sc E b a := ⟨h.2, h.1⟩
theorem Sc.trans {E : Nat → Nat → Prop} {a b c : Nat} (h : Sc E a b) (k : Sc E b c) : Sc E a c := ⟨h.1.trans k.1, k.2.trans h.2⟩
/-- The least node of a component. -/
def IsHd (E : Nat → Nat → Prop) (v : Nat) (h : Nat) : Prop := Sc E v h ∧ ∀ w, Sc E v w → h ≤ w
theorem IsHd.unique {E : Nat → Nat → Prop} {v h k : Nat} (a : IsHd E v h) (b : IsHd E v k) : h = k := Nat.le_antisymm (a.2 _ b.1) (b.2 _ a.1)
theorem IsHd.congr {E : Nat → Nat → Prop} {v w h : Nat} (a : IsHd E v h) (b : Sc E v w) : IsHd E w h := ⟨b.symm.trans a.1, fun x hx => a.2 x (b.trans hx)⟩
/-- What holds between calls: gray are the nodes whose calls are pending. -/
structure TI (E : Nat → Nat → Prop) (n : Nat) (gray : List Nat) (cnt : Nat) (num : List Nat) (hd : List Int) (stk : List Nat) : Prop where
  lenN : num.length = n
  lenH : hd.length = n
  cntb : ∀ v, v < n → nth num v ≤ cnt
  stkm : ∀ v, v ∈ stk ↔ v < n ∧ nth num v ≠ 0 ∧ nth hd v < 0
  stko : stk.Pairwise fun x y => nth num x < nth num y
  un : ∀ v, v < n → nth num v = 0 → nth hd v < 0
  gs : ∀ z ∈ gray, z ∈ stk
  blk : ∀ v w, v < n → nth num v ≠ 0 → ¬ v ∈ gray → E v w → nth num w ≠ 0
  dcl : ∀ v w, v < n → 0 ≤ nth hd v → E v w → 0 ≤ nth hd w
  up : ∀ x y, x ∈ stk → y ∈ stk → nth num x ≤ nth num y → Rt E x y
  gy : ∀ y ∈ stk, ∃ z ∈ gray, nth num z ≤ nth num y ∧ Rt E y z
  hds : ∀ v, v < n → 0 ≤ nth hd v → ∃ h : Nat, nth hd v = (h : Int) ∧ IsHd E v h
  cnv : cnt = ((List.range n).filter fun v => decide (nth num v ≠ 0)).length
/-- What a call leaves. -/
structure TP (E : Nat → Nat → Prop) (n : Nat) (gray : List Nat) (v cnt : Nat) (num low : List Nat) (hd : List Int) (stk : List Nat) (cnt' : Nat) (num' low' : List Nat) (hd' : List Int) (stk' : List Nat) : Prop where
  inv : TI E n gray cnt' num' hd' stk'
  lenL : low'.length = n
  cle : cnt ≤ cnt'
  keepN : ∀ x, x < n → nth num x ≠ 0 → nth num' x = nth num x
  newN : ∀ x, x < n → nth num x = 0 → nth num' x = 0 ∨ cnt < nth num' x
  keepL : ∀ x, x < n → nth num x ≠ 0 → nth low' x = nth low x
  keepH : ∀ x, x < n → 0 ≤ nth hd x → nth hd' x = nth hd x
  vis : nth num' v ≠ 0
  ext : ∃ e, stk' = stk ++ e ∧ ∀ z ∈ e, ∀ y ∈ stk, E z y → nth low' v ≤ nth num y
  low1 : nth low' v ≤ nth num' v
  low2 : (0 ≤ nth hd' v ∧ cnt < nth low' v) ∨ ∃ y ∈ stk, nth low' v = nth num y ∧ Rt E v y
/-- Within a call: k successors are looked at. -/
structure TL (E : Nat → Nat → Prop) (n : Nat) (gray : List Nat) (v : Nat) (row : List Nat) (cnt0 : Nat) (num0 low0 : List Nat) (hd0 : List Int) (stk0 : List Nat) (k : Nat) (cnt : Nat) (num low : List Nat) (hd : List Int) (stk : List Nat) : Prop where
  inv : TI E n (gray ++ [v]) cnt num hd stk
  lenL : low.length = n
  cle : cnt0 < cnt
  keepN : ∀ x, x < n → nth num0 x ≠ 0 → nth num x = nth num0 x
  newN : ∀ x, x < n → nth num0 x = 0 → nth num x = 0 ∨ cnt0 < nth num x
  keepL : ∀ x, x < n → nth num0 x ≠ 0 → nth low x = nth low0 x
  keepH : ∀ x, x < n → 0 ≤ nth hd0 x → nth hd x = nth hd0 x
  ext : ∃ e, stk = stk0 ++ v :: e ∧ ∀ z ∈ e, ∀ y ∈ stk0 ++ [v], E z y → nth low v ≤ nth num y
  low1 : nth low v ≤ nth num v
  low2 : ∃ y ∈ stk, nth low v = nth num y ∧ Rt E v y
  suc : ∀ j, j < k → nth num (nth row j) ≠ 0 ∧ (nth hd (nth row j) < 0 → nth low v ≤ nth num (nth row j))
  base : TI E n gray cnt0 num0 hd0 stk0
  v0 : nth num0 v = 0
section
variable {E : Nat → Nat → Prop} {n : Nat} {gray : List Nat} {v : Nat} {row : List Nat} {cnt0 : Nat} {num0 low0 : List Nat} {hd0 : List Int} {stk0 : List Nat} {k cnt : Nat} {num low : List Nat} {hd : List Int} {stk : List Nat}
theorem TI.lt (h : TI E n gray cnt num hd stk) {x : Nat} (hx : x ∈ stk) : x < n := ((h.stkm x).1 hx).1
theorem TI.gmax (h : TI E n (gray ++ [v]) cnt num hd stk) {e : List Nat} (he : stk = stk0 ++ v :: e) : (∀ x ∈ stk0, nth num x < nth num v) ∧ ∀ x ∈ e, nth num v < nth num x := by
  have h1 := h.stko
  rw [he, List.pairwise_append] at h1
  exact ⟨fun x hx => h1.2.2 x hx v (by simp), (List.pairwise_cons.1 h1.2.1).1⟩
theorem nth_in {l : List Nat} {x : Nat} (h : nth l x ≠ 0) : x < l.length := by
  false_or_by_contra
  rename_i hge
  refine h ?_
  unfold nth
  rw [List.getD_eq_getElem?_getD, List.getElem?_eq_none (by omega)]; rfl
/-- A call begins. -/
theorem TL.enter (h : TI E n gray cnt0 num0 hd0 stk0) (hl : low0.length = n) (hv : v < n) (h0 : nth num0 v = 0) (hg : ∀ z ∈ gray, Rt E z v) : TL E n gray v row cnt0 num0 low0 hd0 stk0 0 (cnt0 + 1) (num0.set v (cnt0 + 1)) (low0.set v (cnt0 + 1)) hd0 (stk0 ++ [v]) := by
  have hnv : nth (num0.set v (cnt0 + 1)) v = cnt0 + 1 := by rw [nth_set, if_pos ⟨rfl, by rw [h.lenN]; exact hv⟩]
  have hno : ∀ x, x ≠ v → nth (num0.set v (cnt0 + 1)) x = nth num0 x := fun x hx => by rw [nth_set, if_neg fun h => hx h.1.symm]
  have hvs : ¬ v ∈ stk0 := fun hm => ((h.stkm v).1 hm).2.1 h0
  have hne : ∀ x ∈ stk0, x ≠ v := fun x hx e => hvs (e ▸ hx)
  have hlo : ∀ x ∈ stk0, nth num0 x < cnt0 + 1 := fun x hx => by have := h.cntb x (h.lt hx); omega
  have hsv : ∀ x ∈ stk0, Rt E x v := fun x hx => by
    obtain ⟨z, hz, -, hr⟩ := h.gy x hx
    exact hr.trans (hg z hz)
  refine ⟨⟨by rw [List.length_set]; exact h.lenN, h.lenH, fun x hx => ?_, fun x => ?_, ?_, fun x hx hx0 => ?_, fun z hz => ?_, fun x w hx hx0 hng he => ?_, h.dcl, fun x y hx hy hxy => ?_, fun y hy => ?_, h.hds, ?_⟩, by rw [List.length_set]; exact hl, Nat.lt_succ_self _, fun x _ hx0 => ?_, fun x hx hx0 => ?_, fun x _ hx0 => ?_, fun _ _ _ => rfl, ⟨[], rfl, fun z hz => by simp at hz⟩, ?_, ⟨v, by simp, ?_, .refl v⟩, fun j hj => by omega, h, h0⟩
  · by_cases e : x = v
    · rw [e, hnv]; exact Nat.le_refl _
    · rw [hno x e]; have := h.cntb x hx; omega
  · rw [List.mem_append, List.mem_singleton]
    by_cases e : x = v
    · subst e; rw [hnv]; exact ⟨fun _ => ⟨hv, by omega, h.un x hv h0⟩, fun _ => .inr rfl⟩
    · rw [hno x e, ← h.stkm x]; simp [e]
  · rw [List.pairwise_append]
    refine ⟨List.Pairwise.imp_of_mem (fun {a b} ha hb hab => ?_) h.stko, by simp, fun a ha b hb => ?_⟩
    · rw [hno a (hne a ha), hno b (hne b hb)]; exact hab
    · rw [List.mem_singleton.1 hb, hnv, hno a (hne a ha)]; exact hlo a ha
  · by_cases e : x = v
    · rw [e]; exact h.un v hv h0
    · rw [hno x e] at hx0; exact h.un x hx hx0
  · rw [List.mem_append, List.mem_singleton] at hz ⊢
    exact hz.imp (h.gs z) id
  · rw [List.mem_append, List.mem_singleton, not_or] at hng
    rw [hno x hng.2] at hx0
    have h1 := h.blk x w hx hx0 hng.1 he
    by_cases e : w = v
    · rw [e, hnv]; omega
    · rw [hno w e]; exact h1
  · rw [List.mem_append, List.mem_singleton] at hx hy
    rcases hx with hx | rfl
    · rcases hy with hy | rfl
      · rw [hno x (hne x hx), hno y (hne y hy)] at hxy; exact h.up x y hx hy hxy
      · exact hsv x hx
    · rcases hy with hy | rfl
      · rw [hnv, hno y (hne y hy)] at hxy
        have := hlo y hy; omega
      · exact .refl _
  · rw [List.mem_append, List.mem_singleton] at hy
    rcases hy with hy | rfl
    · obtain ⟨z, hz, h1, h2⟩ := h.gy y hy
      exact ⟨z, by simp [hz], by rw [hno z (hne z (h.gs z hz)), hno y (hne y hy)]; exact h1, h2⟩
    · exact ⟨y, by simp, Nat.le_refl _, .refl _⟩
  · rw [h.cnv]
    have h1 : ∀ (l : List Nat), l.Nodup → v ∈ l → (l.filter fun x => decide (nth (num0.set v (((List.range n).filter fun v => decide (nth num0 v ≠ 0)).length + 1)) x ≠ 0)).length = (l.filter fun x => decide (nth num0 x ≠ 0)).length + 1 := by
      rw [← h.cnv]
      intro l hl
      induction l with
      | nil => intro hm; simp at hm
      | cons a l ih =>
        intro hm
        rw [List.nodup_cons] at hl
        by_cases e : a = v
        · subst e
          have hc : (l.filter fun x => decide (nth (num0.set a (cnt0 + 1)) x ≠ 0)) = l.filter fun x => decide (nth num0 x ≠ 0) := List.filter_congr fun x hx => by rw [hno x fun e => hl.1 (e ▸ hx)]
          rw [List.filter_cons_of_pos (by simp [hnv]), List.filter_cons_of_neg (by simp [h0]), hc]; rfl
        · have ih' := ih hl.2 ((List.mem_cons.1 hm).resolve_left fun e2 => e e2.symm)
          by_cases ha : nth num0 a = 0
          · rw [List.filter_cons_of_neg (by simp [hno a e, ha]), List.filter_cons_of_neg (by simp [ha])]; exact ih'
          · rw [List.filter_cons_of_pos (by simp [hno a e, ha]), List.filter_cons_of_pos (by simp [ha]), List.length_cons, List.length_cons, ih']
    exact (h1 _ List.nodup_range (List.mem_range.2 hv)).symm
  · rw [hno x fun e => hx0 (e ▸ h0)]
  · by_cases e : x = v
    · right; rw [e, hnv]; omega
    · left; rw [hno x e]; exact hx0
  · rw [nth_set, if_neg fun (hh : v = x ∧ v < low0.length) => hx0 (hh.1 ▸ h0)]
  · rw [hnv, nth_set, if_pos ⟨rfl, by rw [hl]; exact hv⟩]; exact Nat.le_refl _
  · rw [hnv, nth_set, if_pos ⟨rfl, by rw [hl]; exact hv⟩]
/-- What a call of a successor needs. -/
theorem TL.reach (h : TL E n gray v row cnt0 num0 low0 hd0 stk0 k cnt num low hd stk) {w : Nat} (hw : E v w) : ∀ z ∈ gray ++ [v], Rt E z w := fun z hz => by
  obtain ⟨e, he, -⟩ := h.ext
  have hvs : v ∈ stk := by rw [he]; simp
  have hzs := h.inv.gs z hz
  refine (h.inv.up z v hzs hvs ?_).trans (.one hw)
  rw [List.mem_append, List.mem_singleton] at hz
  rcases hz with hz | rfl
  · exact Nat.le_of_lt ((h.inv.gmax he).1 z (h.base.gs z hz))
  · exact Nat.le_refl _
theorem TL.vn (h : TL E n gray v row cnt0 num0 low0 hd0 stk0 k cnt num low hd stk) : v < n ∧ nth num v ≠ 0 ∧ v ∈ stk ∧ nth hd v < 0 := by
  obtain ⟨e, he, -⟩ := h.ext
  have hvs : v ∈ stk := by rw [he]; simp
  obtain ⟨a, b, c⟩ := (h.inv.stkm v).1 hvs
  exact ⟨a, b, hvs, c⟩
/-- A successor that has not been met. -/
theorem TL.child (h : TL E n gray v row cnt0 num0 low0 hd0 stk0 k cnt num low hd stk) {w : Nat} (hw : w = nth row k) (hE : E v w) {cnt' : Nat} {num' low' : List Nat} {hd' : List Int} {stk' : List Nat} (hp : TP E n (gray ++ [v]) w cnt num low hd stk cnt' num' low' hd' stk') :
    TL E n gray v row cnt0 num0 low0 hd0 stk0 (k + 1) cnt' num' (low'.set v (min (nth low' v) (nth low' w))) hd' stk' := by
  obtain ⟨hvn, hv0, hvs, -⟩ := h.vn
  have hlv : nth low' v = nth low v := hp.keepL v hvn hv0
  have hm : nth (low'.set v (min (nth low' v) (nth low' w))) v = min (nth low v) (nth low' w) := by rw [nth_set, if_pos ⟨rfl, by rw [hp.lenL]; exact hvn⟩, hlv]
  have hm1 : min (nth low v) (nth low' w) ≤ nth low v := Nat.min_le_left _ _
  have hm2 : min (nth low v) (nth low' w) ≤ nth low' w := Nat.min_le_right _ _
  have hks : ∀ y ∈ stk, nth num' y = nth num y := fun y hy => hp.keepN y (h.inv.lt hy) ((h.inv.stkm y).1 hy).2.1
  obtain ⟨e, he, hel⟩ := h.ext
  obtain ⟨e2, he2, hel2⟩ := hp.ext
  refine ⟨hp.inv, by rw [List.length_set]; exact hp.lenL, by have := h.cle; have := hp.cle; omega, fun x hx hx0 => ?_, fun x hx hx0 => ?_, fun x hx hx0 => ?_, fun x hx hx0 => ?_, ⟨e ++ e2, by rw [he2, he]; simp, fun z hz y hy he3 => ?_⟩, ?_, ?_, fun j hj => ?_, h.base, h.v0⟩
  · have h1 := h.keepN x hx hx0
    rw [hp.keepN x hx (by rw [h1]; exact hx0), h1]
  · rcases h.newN x hx hx0 with h1 | h1
    · rcases hp.newN x hx h1 with h2 | h2
      · exact .inl h2
      · right; have := h.cle; omega
    · rw [hp.keepN x hx (by omega)]; exact .inr h1
  · have h1 := h.keepN x hx hx0
    have hxv : v ≠ x := fun e => hx0 (e ▸ h.v0)
    rw [nth_set, if_neg fun hh => hxv hh.1, hp.keepL x hx (by rw [h1]; exact hx0)]; exact h.keepL x hx hx0
  · have h1 := h.keepH x hx hx0
    rw [hp.keepH x hx (by rw [h1]; exact hx0), h1]
  · have hys : y ∈ stk := by rw [he]; rw [List.mem_append, List.mem_singleton] at hy; rw [List.mem_append, List.mem_cons]; exact hy.imp id .inl
    rw [hm, hks y hys]
    rw [List.mem_append] at hz
    rcases hz with hz | hz
    · exact Nat.le_trans hm1 (hel z hz y hy he3)
    · exact Nat.le_trans hm2 (hel2 z hz y hys he3)
  · rw [hm, hks v hvs]; exact Nat.le_trans hm1 h.low1
  · rw [hm]
    by_cases hlt : nth low' w < nth low v
    · rw [Nat.min_eq_right (Nat.le_of_lt hlt)]
      rcases hp.low2 with ⟨-, h2⟩ | ⟨y, hy, h2, h3⟩
      · have := h.low1; have := h.inv.cntb v hvn; omega
      · exact ⟨y, by rw [he2]; exact List.mem_append_left _ hy, by rw [hks y hy]; exact h2, (Rt.one hE).trans h3⟩
    · rw [Nat.min_eq_left (Nat.le_of_not_lt hlt)]
      obtain ⟨y, hy, h2, h3⟩ := h.low2
      exact ⟨y, by rw [he2]; exact List.mem_append_left _ hy, by rw [hks y hy]; exact h2, h3⟩
  · by_cases ej : j = k
    · subst ej; rw [← hw]
      exact ⟨hp.vis, fun _ => by rw [hm]; exact Nat.le_trans hm2 hp.low1⟩
    · obtain ⟨a, b⟩ := h.suc j (by omega)
      have hjn : nth row j < n := by
        rw [← h.inv.lenN]; exact nth_in a
      rw [hp.keepN _ hjn a, hm]
      refine ⟨a, fun hd9 => Nat.le_trans hm1 (b ?_)⟩
      false_or_by_contra
      rename_i hge
      have := hp.keepH _ hjn (by omega)
      omega
/-- A successor on the stack. -/
theorem TL.back (h : TL E n gray v row cnt0 num0 low0 hd0 stk0 k cnt num low hd stk) {w : Nat} (hw : w = nth row k) (hE : E v w) (hwn : w < n) (h0 : nth num w ≠ 0) (h1 : nth hd w < 0) :
    TL E n gray v row cnt0 num0 low0 hd0 stk0 (k + 1) cnt num (low.set v (min (nth low v) (nth num w))) hd stk := by
  obtain ⟨hvn, hv0, hvs, -⟩ := h.vn
  have hm : nth (low.set v (min (nth low v) (nth num w))) v = min (nth low v) (nth num w) := by rw [nth_set, if_pos ⟨rfl, by rw [h.lenL]; exact hvn⟩]
  have hm1 : min (nth low v) (nth num w) ≤ nth low v := Nat.min_le_left _ _
  have hm2 : min (nth low v) (nth num w) ≤ nth num w := Nat.min_le_right _ _
  obtain ⟨e, he, hel⟩ := h.ext
  refine ⟨h.inv, by rw [List.length_set]; exact h.lenL, h.cle, h.keepN, h.newN, fun x hx hx0 => ?_, h.keepH, ⟨e, he, fun z hz y hy he3 => by rw [hm]; exact Nat.le_trans hm1 (hel z hz y hy he3)⟩, by rw [hm]; exact Nat.le_trans hm1 h.low1, ?_, fun j hj => ?_, h.base, h.v0⟩
  · have hxv : v ≠ x := fun e => hx0 (e ▸ h.v0)
    rw [nth_set, if_neg fun hh => hxv hh.1]; exact h.keepL x hx hx0
  · rw [hm]
    by_cases hlt : nth num w < nth low v
    · rw [Nat.min_eq_right (Nat.le_of_lt hlt)]
      exact ⟨w, (h.inv.stkm w).2 ⟨hwn, h0, h1⟩, rfl, .one hE⟩
    · rw [Nat.min_eq_left (Nat.le_of_not_lt hlt)]; exact h.low2
  · by_cases ej : j = k
    · subst ej; rw [← hw]; exact ⟨h0, fun _ => by rw [hm]; exact hm2⟩
    · obtain ⟨a, b⟩ := h.suc j (by omega)
      exact ⟨a, fun hd9 => by rw [hm]; exact Nat.le_trans hm1 (b hd9)⟩
/-- A successor whose component is known. -/
theorem TL.done (h : TL E n gray v row cnt0 num0 low0 hd0 stk0 k cnt num low hd stk) {w : Nat} (hw : w = nth row k) (h0 : nth num w ≠ 0) (h1 : 0 ≤ nth hd w) : TL E n gray v row cnt0 num0 low0 hd0 stk0 (k + 1) cnt num low hd stk :=
  ⟨h.inv, h.lenL, h.cle, h.keepN, h.newN, h.keepL, h.keepH, h.ext, h.low1, h.low2, fun j hj => by
    by_cases ej : j = k
    · subst ej; rw [← hw]; exact ⟨h0, fun h9 => by omega⟩
    · exact h.suc j (by omega), h.base, h.v0⟩
/-- All successors have been met. -/
theorem TL.succ (h : TL E n gray v row cnt0 num0 low0 hd0 stk0 k cnt num low hd stk) (hk : k = row.length) (hrow : ∀ w, E v w ↔ w ∈ row) {w : Nat} (hE : E v w) : nth num w ≠ 0 ∧ (nth hd w < 0 → nth low v ≤ nth num w) := by
  obtain ⟨j, hj, rfl⟩ := mem_nth ((hrow w).1 hE)
  exact h.suc j (by omega)
/-- The call ends, and its node belongs to an older one. -/
theorem TL.exit1 (h : TL E n gray v row cnt0 num0 low0 hd0 stk0 k cnt num low hd stk) (hk : k = row.length) (hrow : ∀ w, E v w ↔ w ∈ row) (hlt : nth low v < nth num v) : TP E n gray v cnt0 num0 low0 hd0 stk0 cnt num low hd stk := by
  obtain ⟨hvn, hv0, hvs, hvd⟩ := h.vn
  obtain ⟨e, he, hel⟩ := h.ext
  obtain ⟨g1, g2⟩ := h.inv.gmax he
  have hin : ∀ y ∈ stk, nth num y < nth num v → y ∈ stk0 := fun y hy hn => by
    rw [he, List.mem_append, List.mem_cons] at hy
    rcases hy with hy | rfl | hy
    · exact hy
    · omega
    · have := g2 y hy; omega
  obtain ⟨y0, hy0, hl0, hr0⟩ := h.low2
  obtain ⟨z0, hz0, hzl, hzr⟩ := h.inv.gy y0 hy0
  have hz0g : z0 ∈ gray := by
    rw [List.mem_append, List.mem_singleton] at hz0
    rcases hz0 with hz0 | rfl
    · exact hz0
    · omega
  have h1 := h.inv
  refine ⟨⟨h1.lenN, h1.lenH, h1.cntb, h1.stkm, h1.stko, h1.un, fun z hz => h1.gs z (List.mem_append_left _ hz), fun x w hx hx0 hng hE => ?_, h1.dcl, h1.up, fun y hy => ?_, h1.hds, h1.cnv⟩, h.lenL, Nat.le_of_lt h.cle, h.keepN, h.newN, h.keepL, h.keepH, hv0, ⟨v :: e, he, fun z hz y hy hE => ?_⟩, h.low1, .inr ⟨y0, ?_, ?_, hr0⟩⟩
  · by_cases ex : x = v
    · subst ex; exact (h.succ hk hrow hE).1
    · exact h1.blk x w hx hx0 (by rw [List.mem_append, List.mem_singleton, not_or]; exact ⟨hng, ex⟩) hE
  · obtain ⟨z, hz, h2, h3⟩ := h1.gy y hy
    rw [List.mem_append, List.mem_singleton] at hz
    rcases hz with hz | rfl
    · exact ⟨z, hz, h2, h3⟩
    · exact ⟨z0, hz0g, by omega, h3.trans (hr0.trans hzr)⟩
  · have hnn : nth num y = nth num0 y := h.keepN y (h.base.lt hy) ((h.base.stkm y).1 hy).2.1
    have hys : y ∈ stk := by rw [he]; exact List.mem_append_left _ hy
    rw [← hnn]
    rcases List.mem_cons.1 hz with rfl | hz
    · exact (h.succ hk hrow hE).2 ((h1.stkm y).1 hys).2.2
    · exact hel z hz y (List.mem_append_left _ hy) hE
  · exact hin y0 hy0 (by omega)
  · have hy := hin y0 hy0 (by omega)
    rw [← h.keepN y0 (h.base.lt hy) ((h.base.stkm y0).1 hy).2.1]; exact hl0
/-- The call ends, and its node is the oldest one of its component. -/
theorem TL.exit2 (h : TL E n gray v row cnt0 num0 low0 hd0 stk0 k cnt num low hd stk) (hE9 : ∀ a b, E a b → b < n) (hk : k = row.length) (hrow : ∀ w, E v w ↔ w ∈ row) (hge : ¬ nth low v < nth num v) {c : List Nat} (hc : stk = stk0 ++ c) {m : Nat} (hm : m ∈ c) (hmin : ∀ x ∈ c, m ≤ x) {hd' : List Int} (hl' : hd'.length = n) (hh : ∀ x, x < n → nth hd' x = if x ∈ c then (m : Int) else nth hd x) :
    TP E n gray v cnt0 num0 low0 hd0 stk0 cnt num low hd' stk0 := by
  obtain ⟨hvn, hv0, hvs, hvd⟩ := h.vn
  obtain ⟨e, he, hel⟩ := h.ext
  obtain rfl : c = v :: e := List.append_cancel_left (hc.symm.trans he)
  obtain ⟨g1, g2⟩ := h.inv.gmax he
  have h1 := h.inv
  have hlow := h.low1
  have hcs : ∀ x ∈ v :: e, x ∈ stk := fun x hx => by rw [he]; exact List.mem_append_right _ hx
  have hcn : ∀ x ∈ v :: e, x < n := fun x hx => h1.lt (hcs x hx)
  have hge2 : ∀ x ∈ v :: e, nth num v ≤ nth num x := fun x hx => by
    rcases List.mem_cons.1 hx with rfl | hx
    · exact Nat.le_refl _
    · exact Nat.le_of_lt (g2 x hx)
  have hgray : ∀ z ∈ gray, z ∈ stk0 := h.base.gs
  have hnotc : ∀ x ∈ stk0, ¬ x ∈ v :: e := fun x hx hxc => by have := g1 x hx; have := hge2 x hxc; omega
  -- all of it is one component
  have hsc : ∀ x ∈ v :: e, Sc E v x := fun x hx => by
    refine ⟨h1.up v x hvs (hcs x hx) (hge2 x hx), ?_⟩
    obtain ⟨z, hz, h2, h3⟩ := h1.gy x (hcs x hx)
    refine h3.trans (h1.up z v (h1.gs z hz) hvs ?_)
    rw [List.mem_append, List.mem_singleton] at hz
    rcases hz with hz | rfl
    · exact Nat.le_of_lt (g1 z (hgray z hz))
    · exact Nat.le_refl _
  -- nothing leads out of it but to what is done
  have hcl : ∀ a b, (a ∈ v :: e ∨ (a < n ∧ 0 ≤ nth hd a)) → E a b → (b ∈ v :: e ∨ (b < n ∧ 0 ≤ nth hd b)) := fun a b ha hab => by
    have hbn := hE9 a b hab
    rcases ha with ha | ⟨ha, hda⟩
    · have hvis : nth num b ≠ 0 := by
        rcases List.mem_cons.1 ha with rfl | hae
        · exact (h.succ hk hrow hab).1
        · refine h1.blk a b (hcn a ha) ((h1.stkm a).1 (hcs a ha)).2.1 (fun hg => ?_) hab
          rw [List.mem_append, List.mem_singleton] at hg
          rcases hg with hg | rfl
          · exact hnotc a (hgray a hg) ha
          · exact Nat.lt_irrefl _ (g2 a hae)
      by_cases hdb : 0 ≤ nth hd b
      · exact .inr ⟨hbn, hdb⟩
      · left
        have hbs : b ∈ stk := (h1.stkm b).2 ⟨hbn, hvis, by omega⟩
        rw [he, List.mem_append] at hbs
        refine hbs.resolve_left fun hb0 => ?_
        have hlt := g1 b hb0
        rcases List.mem_cons.1 ha with rfl | hae
        · have := (h.succ hk hrow hab).2 (by omega); omega
        · have := hel a hae b (List.mem_append_left _ hb0) hab; omega
    · exact .inr ⟨hbn, h1.dcl a b ha hda hab⟩
  have hmax : ∀ y, Sc E v y → y ∈ v :: e := fun y hy => by
    rcases hy.1.closed hcl (.inl (by simp)) with h2 | ⟨h2, h3⟩
    · exact h2
    · exfalso
      have h4 : v < n ∧ 0 ≤ nth hd v := hy.2.closed (P := fun a => a < n ∧ 0 ≤ nth hd a) (fun a b ha hab => ⟨hE9 a b hab, h1.dcl a b ha.1 ha.2 hab⟩) ⟨h2, h3⟩
      omega
  have hin : ∀ x, x < n → (0 ≤ nth hd' x ↔ x ∈ v :: e ∨ 0 ≤ nth hd x) := fun x hx => by
    rw [hh x hx]
    by_cases hxc : x ∈ v :: e
    · rw [if_pos hxc]; exact ⟨fun _ => .inl hxc, fun _ => by omega⟩
    · rw [if_neg hxc]; exact ⟨.inr, fun h => h.resolve_left hxc⟩
  have hst0 : ∀ x, x ∈ stk0 ↔ x < n ∧ nth num x ≠ 0 ∧ nth hd' x < 0 := fun x => by
    constructor
    · intro hx
      obtain ⟨a, b, c⟩ := (h1.stkm x).1 (by rw [he]; exact List.mem_append_left _ hx)
      exact ⟨a, b, by rw [hh x a, if_neg (hnotc x hx)]; exact c⟩
    · rintro ⟨a, b, c⟩
      have hxc : ¬ x ∈ v :: e := fun hxc => by have := (hin x a).2 (.inl hxc); omega
      rw [hh x a, if_neg hxc] at c
      have h2 := (h1.stkm x).2 ⟨a, b, c⟩
      rw [he, List.mem_append] at h2
      exact h2.resolve_right hxc
  have hsub : ∀ x ∈ stk0, x ∈ stk := fun x hx => by rw [he]; exact List.mem_append_left _ hx
  refine ⟨⟨h1.lenN, hl', h1.cntb, hst0, ?_, fun x hx hx0 => ?_, hgray, fun x w hx hx0 hng hE => ?_, fun x w hx hdx hE => ?_, fun x y hx hy hxy => h1.up x y (hsub x hx) (hsub y hy) hxy, fun y hy => ?_, fun x hx hdx => ?_, h1.cnv⟩, h.lenL, Nat.le_of_lt h.cle, h.keepN, h.newN, h.keepL, fun x hx hdx => ?_, hv0, ⟨[], by simp, fun z hz => by simp at hz⟩, hlow, .inl ⟨(hin v hvn).2 (.inl (by simp)), ?_⟩⟩
  · have h2 := h1.stko
    rw [he, List.pairwise_append] at h2
    exact h2.1
  · have hxc : ¬ x ∈ v :: e := fun hxc => ((h1.stkm x).1 (hcs x hxc)).2.1 hx0
    rw [hh x hx, if_neg hxc]; exact h1.un x hx hx0
  · by_cases ex : x = v
    · subst ex; exact (h.succ hk hrow hE).1
    · exact h1.blk x w hx hx0 (by rw [List.mem_append, List.mem_singleton, not_or]; exact ⟨hng, ex⟩) hE
  · rcases hcl x w (((hin x hx).1 hdx).imp id fun h => ⟨hx, h⟩) hE with h2 | ⟨h2, h3⟩
    · exact (hin w (hcn w h2)).2 (.inl h2)
    · exact (hin w h2).2 (.inr h3)
  · obtain ⟨z, hz, h2, h3⟩ := h1.gy y (hsub y hy)
    rw [List.mem_append, List.mem_singleton] at hz
    rcases hz with hz | rfl
    · exact ⟨z, hz, h2, h3⟩
    · have := g1 y hy; omega
  · by_cases hxc : x ∈ v :: e
    · refine ⟨m, by rw [hh x hx, if_pos hxc], (hsc x hxc).symm.trans (hsc m hm), fun w hw => hmin w (hmax w ((hsc x hxc).trans hw))⟩
    · rw [hh x hx, if_neg hxc] at hdx ⊢
      exact h1.hds x hx hdx
  · have h2 := h.keepH x hx hdx
    have hxc : ¬ x ∈ v :: e := fun hxc => by have := ((h1.stkm x).1 (hcs x hxc)).2.2; omega
    rw [hh x hx, if_neg hxc]; exact h2
  · rcases h.newN v hvn h.v0 with h2 | h2
    · exact absurd h2 hv0
    · omega
/-- Between the calls of the main loop nothing is pending. -/
theorem TI.empty (h : TI E n [] cnt num hd stk) : stk = [] := by
  cases stk with
  | nil => rfl
  | cons a l =>
    obtain ⟨z, hz, -⟩ := h.gy a (by simp)
    cases hz
theorem TI.start (hn : num.length = n) (hh : hd.length = n) (h0 : ∀ v, v < n → nth num v = 0) (h1 : ∀ v, v < n → nth hd v < 0) : TI E n [] 0 num hd [] := by
  refine ⟨hn, hh, fun v hv => by rw [h0 v hv]; exact Nat.le_refl _, fun v => ⟨fun h => by simp at h, fun h => absurd (h0 v h.1) h.2.1⟩, List.Pairwise.nil, fun v hv _ => h1 v hv, fun z hz => by simp at hz, fun v w hv hv0 => absurd (h0 v hv) hv0, fun v w hv hd9 => by have := h1 v hv; omega, fun x y hx => by simp at hx, fun y hy => by simp at hy, fun v hv hd9 => by have := h1 v hv; omega, ?_⟩
  rw [List.filter_eq_nil_iff.2 fun v hv => by simp [h0 v (List.mem_range.1 hv)]]; rfl
/-- In the end. -/
theorem TI.fin (h : TI E n [] cnt num hd stk) (hv : ∀ v, v < n → nth num v ≠ 0) {v : Nat} (hvn : v < n) : ∃ m : Nat, nth hd v = (m : Int) ∧ IsHd E v m := by
  refine h.hds v hvn ?_
  false_or_by_contra
  rename_i hneg
  have := (h.stkm v).2 ⟨hvn, hv v hvn, by omega⟩
  rw [h.empty] at this; cases this
theorem TI.nd (h : TI E n gray cnt num hd stk) : stk.Nodup := h.stko.imp fun {a b} hab (e : a = b) => by rw [e] at hab; exact Nat.lt_irrefl _ hab
theorem TI.slen (h : TI E n gray cnt num hd stk) : stk.length ≤ n := by
  have := Go.Kah.nodup_le stk (List.range n) h.nd fun x hx => List.mem_range.2 (h.lt hx)
  rwa [List.length_range] at this
theorem TI.cle (h : TI E n gray cnt num hd stk) : cnt ≤ n := by
  rw [h.cnv]
  exact Nat.le_trans (List.length_filter_le _ _) (by rw [List.length_range]; exact Nat.le_refl _)
theorem TI.clt (h : TI E n gray cnt num hd stk) (hv : v < n) (h0 : nth num v = 0) : cnt < n := by
  rw [h.cnv]
  have h1 : (((List.range n).filter fun v => decide (nth num v ≠ 0))).length < (List.range n).length := by
    rw [List.length_filter_lt_length_iff_exists]
    exact ⟨v, List.mem_range.2 hv, by simp [h0]⟩
  rwa [List.length_range] at h1
end
end Go.Tj

/- Binary heaps of numbers in a list: what a step of 'up' and of 'down' keeps. Of no program. -/
namespace Go.Hpl
open Go.RowKit Go.Dfl
/-- The list with two elements exchanged. -/
def swp (l : List Nat) (i j : Nat) : List Nat := (l.set i (nth l j)).set j (nth l i)
theorem swp_len (l : List Nat) (i j : Nat) : (swp l i j).length = l.length := by unfold swp; simp
theorem nth_get {l : List Nat} {i : Nat} (h : i < l.length) : nth l i = l[i] := by unfold nth; simp [h]
theorem swp_perm {l : List Nat} {i j : Nat} (hi : i < l.length) (hj : j < l.length) : (swp l i j).Perm l := by
  unfold swp
  rw [nth_get hi, nth_get hj]
  exact List.set_set_perm hi hj
theorem nth_swp {l : List Nat} {i j : Nat} (hi : i < l.length) (hj : j < l.length) (k : Nat) : nth (swp l i j) k = if k = j then nth l i else if k = i then nth l j else nth l k := by
  unfold swp nth
  by_cases h1 : k = j
  · subst h1; simp [hj]
  · by_cases h2 : k = i
    · subst h2; simp [h1, Ne.symm h1, hi]
    · simp [h1, h2, Ne.symm h1, Ne.symm h2]
/-- The first n are a heap. -/
def HeapN (l : List Nat) (n : Nat) : Prop := ∀ c, 0 < c → c < n → nth l ((c - 1) / 2) ≤ nth l c
theorem HeapN.root {l : List Nat} {n : Nat} (h : HeapN l n) : ∀ c, c < n → nth l 0 ≤ nth l c := by
  intro c
  induction c using Nat.strongRecOn with
  | ind c ih =>
    intro hc
    by_cases h0 : c = 0
    · subst h0; exact Nat.le_refl _
    · exact Nat.le_trans (ih ((c - 1) / 2) (by omega) (by omega)) (h c (by omega) hc)
/-- Within 'up': all is in order but at j. -/
structure UpI (l : List Nat) (n j : Nat) : Prop where
  a : ∀ c, 0 < c → c < n → c ≠ j → nth l ((c - 1) / 2) ≤ nth l c
  b : ∀ c, 0 < c → c < n → (c - 1) / 2 = j → 0 < j → nth l ((j - 1) / 2) ≤ nth l c
theorem UpI.start {l : List Nat} (h : HeapN l l.length) (x : Nat) : UpI (l ++ [x]) (l.length + 1) l.length := by
  refine ⟨fun c h0 h1 h2 => ?_, fun c h0 h1 h2 _ => by omega⟩
  have hk : ∀ k, k < l.length → nth (l ++ [x]) k = nth l k := fun k hk => by unfold nth; simp [List.getElem?_append_left hk]
  rw [hk _ (by omega), hk _ (by omega)]
  exact h c h0 (by omega)
theorem UpI.step {l : List Nat} {n j : Nat} (h : UpI l n j) (hn : n = l.length) (h0 : 0 < j) (hj : j < n) (hlt : nth l j < nth l ((j - 1) / 2)) : UpI (swp l ((j - 1) / 2) j) n ((j - 1) / 2) := by
  have hi : (j - 1) / 2 < l.length := by omega
  have hj' : j < l.length := by omega
  have hp : (j - 1) / 2 < j := by omega
  generalize he : (j - 1) / 2 = i at hi hp hlt ⊢
  refine ⟨fun c c0 c1 c2 => ?_, fun c c0 c1 c2 i0 => ?_⟩
  · rw [nth_swp hi hj', nth_swp hi hj']
    by_cases e1 : c = j
    · subst e1
      rw [he, if_neg (by omega), if_pos rfl, if_pos rfl]; omega
    · rw [if_neg e1, if_neg c2]
      have h1 := h.a c c0 c1 e1
      by_cases e2 : (c - 1) / 2 = j
      · rw [if_pos e2]; have := h.b c c0 c1 e2 h0; rw [he] at this; exact this
      · rw [if_neg e2]
        by_cases e3 : (c - 1) / 2 = i
        · rw [if_pos e3]; rw [e3] at h1; omega
        · rw [if_neg e3]; exact h1
  · have hii := h.a i i0 (by omega) (by omega)
    have hpi : (i - 1) / 2 < i := by omega
    rw [nth_swp hi hj', nth_swp hi hj', if_neg (by omega), if_neg (by omega)]
    by_cases e1 : c = j
    · rw [if_pos e1]; exact hii
    · rw [if_neg e1, if_neg (by omega)]
      have := h.a c c0 c1 e1; rw [c2] at this; omega
theorem UpI.fin {l : List Nat} {n j : Nat} (h : UpI l n j) (he : j = 0 ∨ nth l ((j - 1) / 2) ≤ nth l j) : HeapN l n := by
  intro c h0 h1
  by_cases e : c = j
  · subst e; rcases he with e | e
    · omega
    · exact e
  · exact h.a c h0 h1 e
/-- Within 'down': all is in order but at the children of i. -/
structure DnI (l : List Nat) (n i : Nat) : Prop where
  a : ∀ c, 0 < c → c < n → (c - 1) / 2 ≠ i → nth l ((c - 1) / 2) ≤ nth l c
  b : ∀ c, 0 < c → c < n → (c - 1) / 2 = i → 0 < i → nth l ((i - 1) / 2) ≤ nth l c
theorem DnI.start {l : List Nat} {n : Nat} (hn : n + 1 = l.length) (h : HeapN l l.length) : DnI (swp l 0 n) n 0 := by
  refine ⟨fun c c0 c1 c2 => ?_, fun c c0 c1 c2 c3 => by omega⟩
  rw [nth_swp (by omega) (by omega), nth_swp (by omega) (by omega), if_neg (by omega), if_neg c2, if_neg (by omega), if_neg (by omega)]
  exact h c c0 (by omega)
theorem DnI.step {l : List Nat} {n i j : Nat} (h : DnI l n i) (hn : n ≤ l.length) (h0 : 0 < j) (hj : j < n) (hp : (j - 1) / 2 = i) (hlt : nth l j < nth l i) (hle : ∀ c, 0 < c → c < n → (c - 1) / 2 = i → nth l j ≤ nth l c) : DnI (swp l i j) n j := by
  have hi : i < l.length := by omega
  have hj' : j < l.length := by omega
  refine ⟨fun c c0 c1 c2 => ?_, fun c c0 c1 c2 _ => ?_⟩
  · rw [nth_swp hi hj', nth_swp hi hj', if_neg c2]
    by_cases e1 : c = j
    · rw [if_pos (by subst e1; exact hp), if_pos e1]; omega
    · rw [if_neg e1]
      by_cases e2 : (c - 1) / 2 = i
      · rw [if_pos e2, if_neg (by omega)]; exact hle c c0 c1 e2
      · rw [if_neg e2]
        by_cases e3 : c = i
        · rw [if_pos e3]; rw [e3]; exact h.b j h0 hj hp (by omega)
        · rw [if_neg e3]; exact h.a c c0 c1 e2
  · rw [nth_swp hi hj', nth_swp hi hj', if_neg (by omega), if_pos (by omega), if_neg (by omega), if_neg (by omega)]
    have := h.a c c0 c1 (by omega); rw [c2] at this; exact this
theorem DnI.fin {l : List Nat} {n i : Nat} (h : DnI l n i) (he : ∀ c, 0 < c → c < n → (c - 1) / 2 = i → nth l i ≤ nth l c) : HeapN l n := by
  intro c h0 h1
  by_cases e : (c - 1) / 2 = i
  · rw [e]; exact he c h0 h1 e
  · exact h.a c h0 h1 e
end Go.Hpl
