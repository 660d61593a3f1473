/- Plain: nodes taken away one after the other, each as soon as no edge leads to it any more. Of no program. -/
import Derived.Test.YtlijimdkadobmaaBase
namespace Go.Kah
open Go.Dfl (nth nth_set nth_mem mem_nth nth_eq nth_ext nth_append take_snoc)
theorem nodup_le {α : Type} [DecidableEq α] : ∀ (l m : List α), l.Nodup → (∀ x ∈ l, x ∈ m) → l.length ≤ m.length
  | [], _, _, _ => by simp
  | a :: l, m, hn, h => by
    rw [List.nodup_cons] at hn
    have h1 := nodup_le l (m.erase a) hn.2 fun x hx => by
      have hne : x ≠ a := fun e => hn.1 (e ▸ hx)
      exact (List.mem_erase_of_ne hne).2 (h x (List.mem_cons_of_mem _ hx))
    have h2 := List.length_erase_of_mem (h a (by simp))
    have h3 : 0 < m.length := List.length_pos_of_mem (h a (by simp))
    simp only [List.length_cons]
    omega
theorem nodup_snoc {o : List Nat} {x : Nat} (h : o.Nodup) (hx : ¬ x ∈ o) : (o ++ [x]).Nodup := by
  rw [List.nodup_append]
  exact ⟨h, by simp, fun a ha b hb e => hx (by rw [List.mem_singleton] at hb; rw [← hb, ← e]; exact ha)⟩
/-- A path of at least one edge. -/
inductive Plus (R : Nat → Nat → Prop) : Nat → Nat → Prop
  | one {a b : Nat} : R a b → Plus R a b
  | cons {a b c : Nat} : R a b → Plus R b c → Plus R a c
theorem Plus.trans {R : Nat → Nat → Prop} {a b c : Nat} (h : Plus R a b) (k : Plus R b c) : Plus R a c := by
  induction h with
  | one h => exact .cons h k
  | cons h _ ih => exact .cons h (ih k)
theorem Plus.imp {R Q : Nat → Nat → Prop} {a b : Nat} (h : Plus R a b) (hi : ∀ x y, R x y → Q x y) : Plus Q a b := by
  induction h with
  | one h => exact .one (hi _ _ h)
  | cons h _ ih => exact .cons (hi _ _ h) ih
/-- In a finite set in which each has a predecessor there is a cycle. -/
theorem cycle_of {A : Nat → Prop} {R : Nat → Nat → Prop} {n : Nat} (hn : ∀ x, A x → x < n) (hp : ∀ x, A x → ∃ y, A y ∧ R y x) (hx : ∃ x, A x) : ∃ c, Plus R c c := by
  obtain ⟨x, hx⟩ := hx
  obtain ⟨f, hf⟩ : ∃ f : Nat → Nat, ∀ x, A x → A (f x) ∧ R (f x) x := ⟨fun x => Classical.epsilon fun y => A y ∧ R y x, fun x hx => Classical.epsilon_spec (hp x hx)⟩
  obtain ⟨a, ha0, ha⟩ : ∃ a : Nat → Nat, a 0 = x ∧ ∀ k, a (k + 1) = f (a k) := ⟨fun k => Nat.rec x (fun _ y => f y) k, rfl, fun _ => rfl⟩
  have hA : ∀ k, A (a k) := fun k => by
    induction k with
    | zero => rw [ha0]; exact hx
    | succ k ih => rw [ha]; exact (hf _ ih).1
  have hR : ∀ k, R (a (k + 1)) (a k) := fun k => by rw [ha]; exact (hf _ (hA k)).2
  have hplus : ∀ d i, Plus R (a (i + d + 1)) (a i) := fun d => by
    induction d with
    | zero => exact fun i => .one (hR i)
    | succ d ih => exact fun i => .cons (hR (i + d + 1)) (ih i)
  have hnot : ¬ ((List.range (n + 1)).map a).Nodup := fun h => by
    have := nodup_le _ (List.range n) h fun y hy => by
      obtain ⟨k, -, rfl⟩ := List.mem_map.1 hy
      exact List.mem_range.2 (hn _ (hA k))
    simp at this; omega
  have hex : ∃ i j, i < j ∧ a i = a j := by
    false_or_by_contra
    rename_i hne
    refine hnot (List.pairwise_map.2 (List.pairwise_lt_range.imp fun {i j} hij e => hne ⟨i, j, hij, e⟩))
  obtain ⟨i, j, hij, he⟩ := hex
  have := hplus (j - i - 1) i
  rw [show i + (j - i - 1) + 1 = j by omega, ← he] at this
  exact ⟨_, this⟩
abbrev Ed := List (Nat × Nat)
/-- How many edges lead to w from nodes that are not done. -/
def cnt (E : Ed) (D : List Nat) (w : Nat) : Nat := (E.filter fun e => decide (e.2 = w) && !decide (e.1 ∈ D)).length
/-- Where the edges of a node lead. -/
def row (E : Ed) (u : Nat) : List Nat := (E.filter fun e => decide (e.1 = u)).map fun e => e.2
theorem mem_row {E : Ed} {u w : Nat} : w ∈ row E u ↔ (u, w) ∈ E := by
  unfold row
  rw [List.mem_map]
  constructor
  · rintro ⟨⟨a, b⟩, he, rfl⟩
    rw [List.mem_filter, decide_eq_true_eq] at he
    rw [← he.2]; exact he.1
  · intro h; exact ⟨(u, w), List.mem_filter.2 ⟨h, by simp⟩, rfl⟩
theorem cnt_snoc (E : Ed) {D : List Nat} {u : Nat} (hu : ¬ u ∈ D) (w : Nat) : cnt E (D ++ [u]) w + (row E u).count w = cnt E D w := by
  unfold cnt row
  induction E with
  | nil => rfl
  | cons e E ih =>
    obtain ⟨a, b⟩ := e
    rw [List.filter_cons, List.filter_cons, List.filter_cons]
    simp only [List.mem_append, List.mem_singleton] at ih ⊢
    by_cases hb : b = w
    · by_cases ha : a = u
      · have h1 : ¬ a ∈ D := by rw [ha]; exact hu
        simp only [ha, hb, hu, or_true, decide_true, Bool.not_true, Bool.and_false, Bool.false_eq_true, if_false, decide_false, Bool.not_false, Bool.and_true, if_true, List.map_cons, List.count_cons_self, List.length_cons]
        omega
      · by_cases h1 : a ∈ D
        · simp only [ha, hb, h1, true_or, decide_true, Bool.not_true, Bool.and_false, Bool.false_eq_true, if_false, decide_false]
          exact ih
        · simp only [ha, hb, h1, or_false, decide_false, Bool.not_false, Bool.and_true, decide_true, if_true, Bool.false_eq_true, if_false, List.length_cons]
          omega
    · by_cases ha : a = u
      · simp only [ha, hb, decide_false, Bool.false_and, Bool.false_eq_true, if_false, decide_true, if_true, List.map_cons]
        rw [List.count_cons_of_ne (by exact hb)]; exact ih
      · simp only [ha, hb, decide_false, Bool.false_and, Bool.false_eq_true, if_false]
        exact ih
theorem cnt_zero {E : Ed} {D : List Nat} {w : Nat} : cnt E D w = 0 ↔ ∀ u, (u, w) ∈ E → u ∈ D := by
  unfold cnt
  rw [List.length_eq_zero_iff, List.filter_eq_nil_iff]
  constructor
  · intro h u hu
    have := h _ hu
    simpa using this
  · rintro h ⟨a, b⟩ he
    by_cases hb : b = w
    · subst hb; simp [h a he]
    · simp [hb]
theorem cnt_one {E : Ed} {D : List Nat} {u w v : Nat} : cnt (E ++ [(u, w)]) D v = cnt E D v + if v = w ∧ ¬ u ∈ D then 1 else 0 := by
  unfold cnt
  rw [List.filter_append, List.length_append]
  by_cases h1 : v = w
  · by_cases h2 : u ∈ D <;> simp [h1, h2]
  · have : ¬ w = v := fun e => h1 e.symm
    simp [h1, this]
theorem row_one {E : Ed} {u w v : Nat} : row (E ++ [(u, w)]) v = row E v ++ if v = u then [w] else [] := by
  unfold row
  rw [List.filter_append, List.map_append]
  by_cases h1 : v = u
  · simp [h1]
  · have : ¬ u = v := fun e => h1 e.symm
    simp [h1, this]
/-- The work: the nodes in the order in which they are listed, i of them done, and of the next one k edges. -/
structure KI (E : Ed) (n : Nat) (S : Nat → Prop) (o : List Nat) (i k : Nat) (P : List Int) : Prop where
  len : P.length = n
  nd : o.Nodup
  io : i ≤ o.length
  p : ∀ w, w < n → nth P w + (((row E (nth o i)).take k).count w : Nat) = (cnt E (o.take i) w : Nat)
  mem : ∀ w, w ∈ o ↔ S w ∧ w < n ∧ nth P w = 0
  ord : ∀ j, j < o.length → ∀ u, (u, nth o j) ∈ E → ∃ j', j' < j ∧ nth o j' = u
section
variable {E : Ed} {n : Nat} {S : Nat → Prop} {o : List Nat} {i k : Nat} {P : List Int}
theorem KI.start (hl : P.length = n) (hn : o.Nodup) (hp : ∀ w, w < n → nth P w = (cnt E [] w : Nat)) (hm : ∀ w, w ∈ o ↔ S w ∧ w < n ∧ nth P w = 0) : KI E n S o 0 0 P :=
  ⟨hl, hn, Nat.zero_le _, fun w hw => by simp [hp w hw], hm, fun j hj u hu => by
    have h1 := (hm _).1 (nth_mem o j hj)
    have h2 := hp _ h1.2.1
    rw [h1.2.2] at h2
    have := cnt_zero.1 (by omega : cnt E [] (nth o j) = 0) u hu
    simp at this⟩
theorem nd_take {o : List Nat} (h : o.Nodup) {i : Nat} (hi : i < o.length) : ¬ nth o i ∈ o.take i := fun hm => by
  obtain ⟨j, hj, he⟩ := mem_nth hm
  rw [List.length_take] at hj
  have e1 : nth (o.take i) j = nth o j := by
    rw [nth_eq _ _ (by rw [List.length_take]; omega), nth_eq _ _ (by omega), List.getElem_take]
  rw [e1, nth_eq _ _ (by omega), nth_eq _ _ hi] at he
  have := congrArg o.idxOf he
  rw [h.idxOf_getElem, h.idxOf_getElem] at this
  omega
/-- The count of a node to which an edge is about to be taken away. -/
theorem KI.pos (h : KI E n S o i k P) (hi : i < o.length) (hk : k < (row E (nth o i)).length) (hw : nth (row E (nth o i)) k < n) : 1 ≤ nth P (nth (row E (nth o i)) k) ∧ ¬ nth (row E (nth o i)) k ∈ o := by
  have h1 := h.p _ hw
  have h2 := cnt_snoc E (nd_take h.nd hi) (nth (row E (nth o i)) k)
  have h3 : ((row E (nth o i)).take k).count (nth (row E (nth o i)) k) + 1 ≤ (row E (nth o i)).count (nth (row E (nth o i)) k) := by
    have h4 : (row E (nth o i)).count (nth (row E (nth o i)) k) = ((row E (nth o i)).take (k + 1)).count (nth (row E (nth o i)) k) + ((row E (nth o i)).drop (k + 1)).count (nth (row E (nth o i)) k) := by
      rw [← List.count_append, List.take_append_drop]
    rw [take_snoc _ _ hk, List.count_append] at h4
    simp only [List.count_singleton_self] at h4
    omega
  have h5 : 1 ≤ nth P (nth (row E (nth o i)) k) := by omega
  exact ⟨h5, fun hm => by have := ((h.mem _).1 hm).2.2; omega⟩
theorem KI.step (h : KI E n S o i k P) (hi : i < o.length) (hk : k < (row E (nth o i)).length) (hS : ∀ u w, (u, w) ∈ E → S w ∧ w < n) {w : Nat} (hw : w = nth (row E (nth o i)) k) : KI E n S (if nth P w - 1 = 0 then o ++ [w] else o) i (k + 1) (P.set w (nth P w - 1)) := by
  have hwE : (nth o i, w) ∈ E := mem_row.1 (by rw [hw]; exact nth_mem _ _ hk)
  obtain ⟨hSw, hwn⟩ := hS _ _ hwE
  obtain ⟨h1, h2⟩ := h.pos hi hk (by rw [← hw]; exact hwn)
  rw [← hw] at h1 h2
  have hnew : ∀ v, v < n → nth (P.set w (nth P w - 1)) v = nth P v - if v = w then 1 else 0 := fun v hv => by
    rw [nth_set]
    by_cases e : w = v
    · subst e; rw [if_pos ⟨rfl, by rw [h.len]; exact hwn⟩, if_pos rfl]
    · rw [if_neg fun h => e h.1, if_neg fun e2 => e e2.symm]; omega
  have hp' : ∀ v, v < n → nth (P.set w (nth P w - 1)) v + (((row E (nth o i)).take (k + 1)).count v : Nat) = (cnt E (o.take i) v : Nat) := fun v hv => by
    rw [hnew v hv, take_snoc _ _ hk, List.count_append, ← hw]
    have := h.p v hv
    by_cases e : v = w
    · subst e; simp only [if_true, List.count_singleton_self]; omega
    · rw [if_neg e, List.count_singleton, show (w == v) = false by simp; exact fun e2 => e e2.symm]
      simp; omega
  by_cases hz : nth P w - 1 = 0
  · rw [if_pos hz]
    have hoi : nth (o ++ [w]) i = nth o i := by rw [nth_append, if_pos hi]
    have hti : (o ++ [w]).take i = o.take i := List.take_append_of_le_length h.io
    refine ⟨by rw [List.length_set]; exact h.len, nodup_snoc h.nd h2, by rw [List.length_append]; have := h.io; omega, fun v hv => by rw [hoi, hti]; exact hp' v hv, fun v => ?_, fun j hj u hu => ?_⟩
    · rw [List.mem_append, List.mem_singleton]
      constructor
      · rintro (hv | rfl)
        · obtain ⟨a, b, c⟩ := (h.mem v).1 hv
          refine ⟨a, b, ?_⟩
          rw [hnew v b, if_neg fun e => h2 (by rw [← e]; exact hv)]; omega
        · exact ⟨hSw, hwn, by rw [hnew _ hwn, if_pos rfl]; exact hz⟩
      · rintro ⟨a, b, c⟩
        by_cases e : v = w
        · exact .inr e
        · rw [hnew v b, if_neg e] at c
          exact .inl ((h.mem v).2 ⟨a, b, by omega⟩)
    · rw [List.length_append, List.length_singleton] at hj
      by_cases e : j < o.length
      · rw [nth_append, if_pos e] at hu
        obtain ⟨j', h3, h4⟩ := h.ord j e u hu
        exact ⟨j', h3, by rw [nth_append, if_pos (by omega)]; exact h4⟩
      · obtain rfl : j = o.length := by omega
        rw [nth_append, if_neg (Nat.lt_irrefl _), Nat.sub_self] at hu
        have hu' : (u, w) ∈ E := hu
        have h5 := hp' w hwn
        rw [hnew w hwn, if_pos rfl, hz] at h5
        have h6 := cnt_snoc E (nd_take h.nd hi) w
        have h7 : ((row E (nth o i)).take (k + 1)).count w ≤ (row E (nth o i)).count w := (List.take_sublist _ _).count_le _
        have h8 := cnt_zero.1 (by omega : cnt E (o.take i ++ [nth o i]) w = 0) u hu'
        rw [← take_snoc _ _ hi] at h8
        obtain ⟨j', h9, h10⟩ := mem_nth h8
        rw [List.length_take] at h9
        refine ⟨j', by omega, ?_⟩
        rw [nth_append, if_pos (by omega), ← h10, nth_eq _ _ (by omega), nth_eq _ _ (by rw [List.length_take]; omega), List.getElem_take]
  · rw [if_neg hz]
    refine ⟨by rw [List.length_set]; exact h.len, h.nd, h.io, hp', fun v => ?_, h.ord⟩
    rw [h.mem v]
    refine and_congr Iff.rfl ⟨fun ⟨a, b⟩ => ⟨a, ?_⟩, fun ⟨a, b⟩ => ⟨a, ?_⟩⟩
    · rw [hnew v a]
      by_cases e : v = w
      · subst e; omega
      · rw [if_neg e]; omega
    · rw [hnew v a] at b
      by_cases e : v = w
      · subst e; rw [if_pos rfl] at b; exact absurd b hz
      · rw [if_neg e] at b; omega
theorem KI.next (h : KI E n S o i k P) (hi : i < o.length) (hk : k = (row E (nth o i)).length) : KI E n S o (i + 1) 0 P := by
  refine ⟨h.len, h.nd, hi, fun w hw => ?_, h.mem, h.ord⟩
  have h1 := h.p w hw
  rw [hk, List.take_length] at h1
  have h2 := cnt_snoc E (nd_take h.nd hi) w
  rw [← take_snoc _ _ hi] at h2
  simp; omega
/-- All are listed exactly if there is no cycle. -/
theorem KI.fin (h : KI E n S o o.length 0 P) (hS : ∀ u w, (u, w) ∈ E → S u ∧ u < n) : (∀ w, S w → w < n → w ∈ o) ↔ ¬ ∃ c, Plus (fun u w => (u, w) ∈ E) c c := by
  constructor
  · rintro ha ⟨c, hc⟩
    have key : ∀ a b, Plus (fun u w => (u, w) ∈ E) a b → ∀ j, j < o.length → nth o j = b → ∃ j', j' < j ∧ nth o j' = a := fun a b hp => by
      induction hp with
      | one he => exact fun j hj e => h.ord j hj _ (by rw [e]; exact he)
      | cons he _ ih =>
        intro j hj e
        obtain ⟨j', h1, h2⟩ := ih j hj e
        obtain ⟨j'', h3, h4⟩ := h.ord j' (by omega) _ (by rw [h2]; exact he)
        exact ⟨j'', by omega, h4⟩
    have hcE : ∃ w, (c, w) ∈ E := by
      cases hc with
      | one he => exact ⟨_, he⟩
      | cons he _ => exact ⟨_, he⟩
    obtain ⟨w, hw⟩ := hcE
    obtain ⟨h1, h2⟩ := hS _ _ hw
    obtain ⟨j, hj, he⟩ := mem_nth (ha c h1 h2)
    obtain ⟨j', h3, h4⟩ := key c c hc j hj he
    rw [nth_eq _ _ (by omega), ← he, nth_eq _ _ hj] at h4
    have := congrArg o.idxOf h4
    rw [h.nd.idxOf_getElem, h.nd.idxOf_getElem] at this
    omega
  · intro hac w hw hwn
    false_or_by_contra
    rename_i hno
    refine hac (cycle_of (A := fun x => S x ∧ x < n ∧ ¬ x ∈ o) (n := n) (fun x hx => hx.2.1) (fun x hx => ?_) ⟨w, hw, hwn, hno⟩)
    obtain ⟨h1, h2, h3⟩ := hx
    have h4 := h.p x h2
    have h5 : nth P x ≠ 0 := fun e => h3 ((h.mem x).2 ⟨h1, h2, e⟩)
    rw [List.take_length] at h4
    simp only [List.take_zero, List.count_nil] at h4
    have h6 : ¬ ∀ u, (u, x) ∈ E → u ∈ o := fun hall => by
      have := cnt_zero.2 hall
      omega
    obtain ⟨u, h7⟩ := Classical.not_forall.1 h6
    obtain ⟨h8, h9⟩ := Classical.not_imp.1 h7
    exact ⟨u, ⟨(hS _ _ h8).1, (hS _ _ h8).2, h9⟩, h8⟩
/-- The lengths tell whether all are listed. -/
theorem KI.all (h : KI E n S o i k P) [DecidablePred S] : (o.length = ((List.range n).filter fun v => decide (S v)).length) ↔ ∀ w, S w → w < n → w ∈ o := by
  have hsub : ∀ x ∈ o, x ∈ (List.range n).filter fun v => decide (S v) := fun x hx => by
    obtain ⟨a, b, -⟩ := (h.mem x).1 hx
    exact List.mem_filter.2 ⟨List.mem_range.2 b, by simpa using a⟩
  constructor
  · intro he w h1 h2
    false_or_by_contra
    rename_i hno
    have := nodup_le (o ++ [w]) ((List.range n).filter fun v => decide (S v)) (nodup_snoc h.nd hno) fun x hx => by
      rcases List.mem_append.1 hx with hx | hx
      · exact hsub x hx
      · rw [List.mem_singleton.1 hx]; exact List.mem_filter.2 ⟨List.mem_range.2 h2, by simpa using h1⟩
    rw [List.length_append, List.length_singleton] at this
    omega
  · intro ha
    refine Nat.le_antisymm (nodup_le _ _ h.nd hsub) (nodup_le _ _ (List.nodup_range.filter _) fun x hx => ?_)
    obtain ⟨h1, h2⟩ := List.mem_filter.1 hx
    exact ha x (by simpa using h2) (List.mem_range.1 h1)
end
end Go.Kah
