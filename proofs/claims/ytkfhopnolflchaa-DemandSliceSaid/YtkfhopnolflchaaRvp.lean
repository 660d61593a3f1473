/- The reference's search for what a query visits: plain facts. -/
import Derived.Test.YtkfhopnolflchaaDmq
namespace Go.Proofs.Ytkfhopnolflchaa
open Go.RowKit Go.Dfl Go.And

/-- The variables that a constraint leads to. -/
def Tgt (S : Syst) (c : C) (x : Nat) : Prop := x = c.a ∨ (c.k = 3 ∧ ∃ d ∈ S.cons, d.k = 4 ∧ d.f = c.f ∧ (x = d.a ∨ x = d.b))
def ClC (S : Syst) (vl : List Bool) (c : C) : Prop := Flw c → nth vl c.b = true → ∀ x, Tgt S c x → nth vl x = true
theorem Tgt.vis {S : Syst} {c : C} {x v : Nat} (h : Tgt S c x) (hc : c ∈ S.cons) (hf : Flw c) (hv : Vis S v c.b) : Vis S v x := by
  rcases h with rfl | ⟨h3, d, hd, h4, e, rfl | rfl⟩
  · exact .flow hc hf hv
  · exact .sa hc h3 hv hd h4 e
  · exact .sb hc h3 hv hd h4 e
structure RvI (S : Syst) (v : Nat) (vl : List Bool) : Prop where
  len : vl.length = S.vars
  root : nth vl v = true
  sub : ∀ x, nth vl x = true → Vis S v x
theorem RvI.isVis {S : Syst} {v : Nat} {vl : List Bool} (h : RvI S v vl) (hc : ∀ j, j < S.cons.length → ClC S vl (nth S.cons j)) : IsVis S v vl := by
  have hcl : ∀ c ∈ S.cons, ClC S vl c := fun c hm => by
    obtain ⟨j, hj, rfl⟩ := mem_nth hm
    exact hc j hj
  refine ⟨h.len, fun x => ⟨h.sub x, fun hx => ?_⟩⟩
  induction hx with
  | root => exact h.root
  | flow hm hf _ ih => exact hcl _ hm hf ih _ (.inl rfl)
  | sa hm h3 _ hd h4 e ih => exact hcl _ hm (.inr (.inl h3)) ih _ (.inr ⟨h3, _, hd, h4, e, .inl rfl⟩)
  | sb hm h3 _ hd h4 e ih => exact hcl _ hm (.inr (.inl h3)) ih _ (.inr ⟨h3, _, hd, h4, e, .inr rfl⟩)
/-- A pass: i constraints are done, of the next one's list l k members. -/
structure Mrk (S : Syst) (v n0 i : Nat) (l : List Nat) (k : Nat) (vl : List Bool) (b : Bool) : Prop where
  inv : RvI S v vl
  le : n0 ≤ vl.count true
  lt : b = true → n0 < vl.count true
  no : b = false → vl.count true = n0 ∧ (∀ j, j < i → ClC S vl (nth S.cons j)) ∧ ∀ j, j < k → nth vl (nth l j) = true
theorem Mrk.start {S : Syst} {v : Nat} {vl : List Bool} (h : RvI S v vl) : Mrk S v (vl.count true) 0 [] 0 vl false := ⟨h, Nat.le_refl _, by simp, fun _ => ⟨rfl, by simp, by simp⟩⟩
theorem Mrk.enter {S : Syst} {v n0 i : Nat} {l : List Nat} {k : Nat} {vl : List Bool} {b : Bool} (h : Mrk S v n0 i l k vl b) (l' : List Nat) : Mrk S v n0 i l' 0 vl b := ⟨h.inv, h.le, h.lt, fun e => ⟨(h.no e).1, (h.no e).2.1, by simp⟩⟩
theorem Mrk.skip {S : Syst} {v n0 i : Nat} {l : List Nat} {k : Nat} {vl : List Bool} {b : Bool} (h : Mrk S v n0 i l k vl b) (hs : ¬ Flw (nth S.cons i) ∨ nth vl (nth S.cons i).b = false) : Mrk S v n0 (i + 1) [] 0 vl b :=
  ⟨h.inv, h.le, h.lt, fun e => ⟨(h.no e).1, fun j hj => by
    by_cases h1 : j < i
    · exact (h.no e).2.1 j h1
    · obtain rfl : j = i := by omega
      intro hf hb
      rcases hs with hs | hs
      · exact absurd hf hs
      · exact absurd (hs.symm.trans hb) (by decide), by simp⟩⟩
theorem Mrk.yes {S : Syst} {v n0 i : Nat} {l : List Nat} {k : Nat} {vl : List Bool} {b : Bool} (h : Mrk S v n0 i l k vl b) (hx : nth vl (nth l k) = true) : Mrk S v n0 i l (k + 1) vl b :=
  ⟨h.inv, h.le, h.lt, fun e => ⟨(h.no e).1, (h.no e).2.1, fun j hj => by
    by_cases h1 : j < k
    · exact (h.no e).2.2 j h1
    · obtain rfl : j = k := by omega
      exact hx⟩⟩
theorem Mrk.mark {S : Syst} {v n0 i : Nat} {l : List Nat} {k : Nat} {vl : List Bool} {b : Bool} (h : Mrk S v n0 i l k vl b) {x : Nat} (hx : nth vl x = false) (hl : x < S.vars) (hv : Vis S v x) : Mrk S v n0 i l (k + 1) (vl.set x true) true := by
  have hxl : x < vl.length := by rw [h.inv.len]; exact hl
  have hc := count_set hxl hx
  have hle := h.le
  refine ⟨⟨by rw [List.length_set]; exact h.inv.len, ?_, fun y hy => ?_⟩, by omega, fun _ => by omega, by simp⟩
  · rw [nth_set]; split
    · rfl
    · exact h.inv.root
  · rw [nth_set] at hy
    split at hy
    · rename_i e; rw [← e.1]; exact hv
    · exact h.inv.sub y hy
theorem Mrk.close {S : Syst} {v n0 i : Nat} {l : List Nat} {vl : List Bool} {b : Bool} (h : Mrk S v n0 i l l.length vl b) (hl : ∀ x, Tgt S (nth S.cons i) x → x ∈ l) : Mrk S v n0 (i + 1) [] 0 vl b :=
  ⟨h.inv, h.le, h.lt, fun e => ⟨(h.no e).1, fun j hj => by
    by_cases h1 : j < i
    · exact (h.no e).2.1 j h1
    · obtain rfl : j = i := by omega
      intro _ _ x hx
      obtain ⟨k, hk, rfl⟩ := mem_nth (hl x hx)
      exact (h.no e).2.2 k hk, by simp⟩⟩
def gasR (S : Syst) (vl : List Bool) (b : Bool) : Nat := 2 * (S.vars - vl.count true) + (if b then 1 else 0)
theorem Mrk.gas {S : Syst} {v : Nat} {l : List Nat} {i k : Nat} {vl0 vl : List Bool} {b : Bool} (h : Mrk S v (vl0.count true) i l k vl b) : gasR S vl b < gasR S vl0 true := by
  have h2 : vl.count true ≤ vl.length := List.count_le_length
  rw [h.inv.len] at h2
  unfold gasR
  cases b
  · rw [(h.no rfl).1]; simp
  · have := h.lt rfl
    simp; omega
/-- The list that a load gathers. -/
def ldL (S : Syst) (c : C) (k : Nat) : List Nat := c.a :: ((S.cons.take k).filter fun d => decide (d.k = 4) && decide (d.f = c.f)).flatMap fun d => [d.a, d.b]
theorem ldL_zero (S : Syst) (c : C) : ldL S c 0 = [c.a] := by simp [ldL]
theorem take_succ_nth {α : Type} [Inhabited α] (l : List α) (k : Nat) (h : k < l.length) : l.take (k + 1) = l.take k ++ [nth l k] := by
  rw [List.take_add_one, nth_eq _ _ h]; simp [h]
theorem ldL_no {S : Syst} {c : C} {k : Nat} (h : k < S.cons.length) (hn : ¬ ((nth S.cons k).k = 4 ∧ (nth S.cons k).f = c.f)) : ldL S c (k + 1) = ldL S c k := by
  unfold ldL
  rw [take_succ_nth _ _ h, List.filter_append]
  have : ([nth S.cons k].filter fun d => decide (d.k = 4) && decide (d.f = c.f)) = [] := by
    simp only [List.filter_cons, List.filter_nil]
    rw [if_neg (by simpa using hn)]
  rw [this, List.append_nil]
theorem ldL_yes {S : Syst} {c : C} {k : Nat} (h : k < S.cons.length) (h1 : (nth S.cons k).k = 4) (h2 : (nth S.cons k).f = c.f) : ldL S c (k + 1) = ldL S c k ++ [(nth S.cons k).a, (nth S.cons k).b] := by
  unfold ldL
  rw [take_succ_nth _ _ h, List.filter_append]
  have : ([nth S.cons k].filter fun d => decide (d.k = 4) && decide (d.f = c.f)) = [nth S.cons k] := by simp [h1, h2]
  rw [this]; simp
theorem ldL_len (S : Syst) (c : C) (k : Nat) : (ldL S c k).length ≤ 1 + 2 * S.cons.length := by
  unfold ldL
  have : ∀ l : List C, (l.flatMap fun d => [d.a, d.b]).length = 2 * l.length := fun l => by
    induction l with
    | nil => rfl
    | cons a l ih => simp [List.flatMap_cons, ih]; omega
  rw [List.length_cons, this]
  have h1 := List.length_filter_le (fun d : C => decide (d.k = 4) && decide (d.f = c.f)) (S.cons.take k)
  rw [List.length_take] at h1
  omega
/-- What the list of a constraint has to be. -/
structure LsOf (S : Syst) (c : C) (l : List Nat) : Prop where
  all : ∀ x, Tgt S c x → x ∈ l
  only : ∀ x ∈ l, Tgt S c x
theorem lsOf_one {S : Syst} {c : C} (h : c.k ≠ 3) : LsOf S c [c.a] := by
  refine ⟨fun x hx => ?_, fun x hx => .inl (by simpa using hx)⟩
  rcases hx with rfl | ⟨h3, -⟩
  · simp
  · exact absurd h3 h
theorem lsOf_ld {S : Syst} {c : C} (h : c.k = 3) : LsOf S c (ldL S c S.cons.length) := by
  unfold ldL
  rw [List.take_length]
  refine ⟨fun x hx => ?_, fun x hx => ?_⟩
  · rcases hx with rfl | ⟨-, d, hd, h4, e, hx⟩
    · exact List.mem_cons_self
    · refine List.mem_cons_of_mem _ (List.mem_flatMap.2 ⟨d, List.mem_filter.2 ⟨hd, by simp [h4, e]⟩, ?_⟩)
      rcases hx with rfl | rfl <;> simp
  · rcases List.mem_cons.1 hx with rfl | hx
    · exact .inl rfl
    · obtain ⟨d, hd, hx⟩ := List.mem_flatMap.1 hx
      obtain ⟨hd, hq⟩ := List.mem_filter.1 hd
      simp only [Bool.and_eq_true, decide_eq_true_eq] at hq
      refine .inr ⟨h, d, hd, hq.1, hq.2, by simpa using hx⟩
end Go.Proofs.Ytkfhopnolflchaa
