/- Plain: executions, their facts; the pending calls of a step. Ascending lists under a strict order. -/
import Derived.Test.YtnklnklkblgnfaaGa
namespace Go.Dfl
/-- A strict order in which any two differ. -/
structure STO {α : Type} (lt : α → α → Prop) : Prop where
  irrefl : ∀ a, ¬ lt a a
  trans : ∀ {a b c}, lt a b → lt b c → lt a c
  tri : ∀ a b, lt a b ∨ a = b ∨ lt b a
section
variable {α : Type} {lt : α → α → Prop}
theorem STO.asymm (h : STO lt) {a b : α} (x : lt a b) : ¬ lt b a := fun y => h.irrefl a (h.trans x y)
theorem STO.unique (h : STO lt) : ∀ {l m : List α}, l.Pairwise lt → m.Pairwise lt → (∀ x, x ∈ l ↔ x ∈ m) → l = m
  | [], [], _, _, _ => rfl
  | [], b :: m, _, _, h3 => absurd ((h3 b).2 (by simp)) (by simp)
  | a :: l, [], _, _, h3 => absurd ((h3 a).1 (by simp)) (by simp)
  | a :: l, b :: m, h1, h2, h3 => by
    rw [List.pairwise_cons] at h1 h2
    have hab : a = b := by
      have ha := (h3 a).1 (by simp)
      have hb := (h3 b).2 (by simp)
      rw [List.mem_cons] at ha hb
      rcases ha with e | ha
      · exact e
      · rcases hb with e | hb
        · exact e.symm
        · exact absurd (h2.1 _ ha) (h.asymm (h1.1 _ hb))
    subst hab
    rw [h.unique h1.2 h2.2 fun x => ?_]
    constructor
    · intro hx
      have := (h3 x).1 (by simp [hx])
      rw [List.mem_cons] at this
      rcases this with e | e
      · subst e; exact absurd (h1.1 _ hx) (h.irrefl _)
      · exact e
    · intro hx
      have := (h3 x).2 (by simp [hx])
      rw [List.mem_cons] at this
      rcases this with e | e
      · subst e; exact absurd (h2.1 _ hx) (h.irrefl _)
      · exact e
end
end Go.Dfl
namespace Go.Obs
open Go.Dfl (nth nth_mem mem_nth nth_eq nth_ext take_snoc)
structure Vl where
  k : Int
  n : Int
  s : Int
deriving Inhabited, DecidableEq
structure Ob where
  f : Int
  i : Int
  fr : Int
  c : Int
  vs : List Vl
deriving Inhabited
structure Ex where
  e : Int
  o : List Ob
deriving Inhabited
/-! ### the pending calls -/
section
variable (o : List Ob)
def chainF : Nat → Nat → List Nat
  | 0, _ => []
  | f + 1, s => if 0 ≤ (nth o s).c ∧ (nth o s).c < (s : Int) then (nth o s).c.toNat :: chainF f (nth o s).c.toNat else []
/-- The calls that are pending at a step, innermost first. -/
def chain (s : Nat) : List Nat := chainF o s s
theorem chainF_zero (f : Nat) : chainF o f 0 = [] := by
  cases f with
  | zero => rfl
  | succ f => rw [chainF, if_neg (by omega)]
theorem chainF_fuel : ∀ (n f g s : Nat), s ≤ n → s ≤ f → s ≤ g → chainF o f s = chainF o g s := by
  intro n
  induction n with
  | zero =>
    intro f g s hs _ _
    obtain rfl : s = 0 := by omega
    rw [chainF_zero, chainF_zero]
  | succ n ih =>
    intro f g s hs hf hg
    cases f with
    | zero =>
      obtain rfl : s = 0 := by omega
      rw [chainF_zero, chainF_zero]
    | succ f =>
      cases g with
      | zero =>
        obtain rfl : s = 0 := by omega
        rw [chainF_zero, chainF_zero]
      | succ g =>
        unfold chainF
        split
        · rename_i h
          rw [ih f g (nth o s).c.toNat (by omega) (by omega) (by omega)]
        · rfl
theorem chain_step {s : Nat} (h : 0 ≤ (nth o s).c ∧ (nth o s).c < (s : Int)) : chain o s = (nth o s).c.toNat :: chain o (nth o s).c.toNat := by
  obtain ⟨t, rfl⟩ : ∃ t, s = t + 1 := ⟨s - 1, by omega⟩
  unfold chain
  rw [chainF, if_pos h, chainF_fuel o t t _ (nth o (t + 1)).c.toNat (by omega) (by omega) (Nat.le_refl _)]
theorem chain_stop {s : Nat} (h : ¬ (0 ≤ (nth o s).c ∧ (nth o s).c < (s : Int))) : chain o s = [] := by
  unfold chain
  cases s with
  | zero => rfl
  | succ t => rw [chainF, if_neg h]
theorem chain_len : ∀ (n s : Nat), s ≤ n → (chain o s).length ≤ s := by
  intro n
  induction n with
  | zero =>
    intro s hs
    obtain rfl : s = 0 := by omega
    exact Nat.le_of_eq rfl
  | succ n ih =>
    intro s hs
    by_cases h : 0 ≤ (nth o s).c ∧ (nth o s).c < (s : Int)
    · rw [chain_step o h, List.length_cons]
      have := ih (nth o s).c.toNat (by omega)
      omega
    · rw [chain_stop o h]; simp
/-- Each pending call lies below the step, and is the call of the one before it. -/
theorem chain_at : ∀ (n s : Nat), s ≤ n → ∀ j, j < (chain o s).length → nth (chain o s) j < s ∧ (j + 1 < (chain o s).length → nth (chain o s) (j + 1) < nth (chain o s) j ∧ (nth o (nth (chain o s) j)).c = ((nth (chain o s) (j + 1) : Nat) : Int)) := by
  intro n
  induction n with
  | zero =>
    intro s hs j hj
    obtain rfl : s = 0 := by omega
    exact absurd hj (Nat.not_lt_zero _)
  | succ n ih =>
    intro s hs j hj
    by_cases h : 0 ≤ (nth o s).c ∧ (nth o s).c < (s : Int)
    · rw [chain_step o h] at hj ⊢
      obtain ⟨c, hc⟩ : ∃ c, c = (nth o s).c.toNat := ⟨_, rfl⟩
      rw [← hc] at hj ⊢
      have hI := ih c (by omega)
      rw [List.length_cons] at hj ⊢
      have e : ∀ j, nth (c :: chain o c) (j + 1) = nth (chain o c) j := fun j => by simp [nth]
      have e0 : nth (c :: chain o c) 0 = c := by simp [nth]
      cases j with
      | zero =>
        rw [e0, e]
        refine ⟨by omega, fun h1 => ?_⟩
        obtain ⟨h2, -⟩ := hI 0 (by omega)
        refine ⟨h2, ?_⟩
        by_cases h3 : 0 ≤ (nth o c).c ∧ (nth o c).c < (c : Int)
        · rw [chain_step o h3]; simp [nth]; simp [nth] at h3; omega
        · rw [chain_stop o h3] at h1; simp at h1
      | succ j =>
        rw [e, e]
        obtain ⟨h2, h3⟩ := hI j (by omega)
        exact ⟨by omega, fun h1 => h3 (by omega)⟩
    · rw [chain_stop o h] at hj; simp at hj
/-- What Stack gives. -/
def stk (step : Int) : List Int := if 0 ≤ step ∧ step < o.length then (chain o step.toNat).reverse.map fun x : Nat => (x : Int) else []
end
/-! ### the facts -/
/-- Facts about references of the first k values of a step: function, variable, site. -/
def ptL (o : Ob) (k : Nat) : List (Int × Int × Int) := (List.range k).filterMap fun v => if (nth o.vs v).k = 3 then some (o.f, (v : Int), (nth o.vs v).s) else none
def inL (o : Ob) (k : Nat) : List (Int × Int × Int × Int) := (List.range k).filterMap fun v => if (nth o.vs v).k = 1 then some (o.f, o.i, (v : Int), (nth o.vs v).n) else none
theorem ptL_yes {o : Ob} {k : Nat} (h : (nth o.vs k).k = 3) : ptL o (k + 1) = ptL o k ++ [(o.f, (k : Int), (nth o.vs k).s)] := by
  unfold ptL; rw [List.range_succ, List.filterMap_append]; simp [h]
theorem ptL_no {o : Ob} {k : Nat} (h : ¬ (nth o.vs k).k = 3) : ptL o (k + 1) = ptL o k := by
  unfold ptL; rw [List.range_succ, List.filterMap_append]; simp [h]
theorem inL_yes {o : Ob} {k : Nat} (h : (nth o.vs k).k = 1) : inL o (k + 1) = inL o k ++ [(o.f, o.i, (k : Int), (nth o.vs k).n)] := by
  unfold inL; rw [List.range_succ, List.filterMap_append]; simp [h]
theorem inL_no {o : Ob} {k : Nat} (h : ¬ (nth o.vs k).k = 1) : inL o (k + 1) = inL o k := by
  unfold inL; rw [List.range_succ, List.filterMap_append]; simp [h]
section
variable {β : Type} (F : Ob → Nat → List β)
/-- The facts of the first i steps, and of the first k values of step i. -/
def upto (os : List Ob) (i k : Nat) : List β := ((os.take i).flatMap fun o => F o o.vs.length) ++ F (nth os i) k
theorem upto_next (os : List Ob) {i : Nat} (hi : i < os.length) (h0 : F (nth os (i + 1)) 0 = []) : upto F os (i + 1) 0 = upto F os i (nth os i).vs.length := by
  unfold upto
  rw [take_snoc _ _ hi, List.flatMap_append, h0]; simp
end
theorem ptL_zero (o : Ob) : ptL o 0 = [] := rfl
theorem inL_zero (o : Ob) : inL o 0 = [] := rfl
theorem ptL_len (o : Ob) (k : Nat) : (ptL o k).length ≤ k := Nat.le_trans (List.length_filterMap_le _ _) (by simp)
theorem inL_len (o : Ob) (k : Nat) : (inL o k).length ≤ k := Nat.le_trans (List.length_filterMap_le _ _) (by simp)
theorem upto_len {β : Type} {F : Ob → Nat → List β} (hF : ∀ o k, (F o k).length ≤ k) (os : List Ob) {i k : Nat} (hi : i < os.length) (hk : k ≤ (nth os i).vs.length) : (upto F os i k).length ≤ (os.map fun o => o.vs.length).sum := by
  have key : ∀ n, n ≤ os.length → ((os.take n).flatMap fun o => F o o.vs.length).length ≤ ((os.take n).map fun o => o.vs.length).sum := by
    intro n
    induction n with
    | zero => simp
    | succ n ih =>
      intro hn
      rw [take_snoc _ _ (by omega), List.flatMap_append, List.length_append, List.map_append, List.sum_append]
      have := ih (by omega)
      have := hF (nth os n) (nth os n).vs.length
      simp at *
      omega
  have h1 := key i (by omega)
  have h2 := hF (nth os i) k
  have h3 : ((os.take i).map fun o => o.vs.length).sum + (nth os i).vs.length ≤ (os.map fun o => o.vs.length).sum := by
    conv => rhs; rw [← List.take_append_drop i os, List.map_append, List.sum_append]
    have : os.drop i = nth os i :: os.drop (i + 1) := by rw [nth_eq _ _ hi]; exact (List.getElem_cons_drop hi).symm
    rw [this]
    simp
  unfold upto
  rw [List.length_append]
  omega
/-- The orders of the facts. -/
def lt3 (a b : Int × Int × Int) : Prop := a.1 < b.1 ∨ a.1 = b.1 ∧ (a.2.1 < b.2.1 ∨ a.2.1 = b.2.1 ∧ a.2.2 < b.2.2)
def lt4 (a b : Int × Int × Int × Int) : Prop := a.1 < b.1 ∨ a.1 = b.1 ∧ lt3 a.2 b.2
instance : DecidableRel lt3 := fun a b => by unfold lt3; infer_instance
instance : DecidableRel lt4 := fun a b => by unfold lt4; infer_instance
theorem sto3 : Go.Dfl.STO lt3 where
  irrefl a := by unfold lt3; omega
  trans := by intro a b c h1 h2; unfold lt3 at *; omega
  tri a b := by
    obtain ⟨a1, a2, a3⟩ := a
    obtain ⟨b1, b2, b3⟩ := b
    simp only [lt3, Prod.mk.injEq]
    omega
theorem sto4 : Go.Dfl.STO lt4 where
  irrefl a := by unfold lt4 lt3; omega
  trans := by intro a b c h1 h2; unfold lt4 lt3 at *; omega
  tri a b := by
    obtain ⟨a1, a2, a3, a4⟩ := a
    obtain ⟨b1, b2, b3, b4⟩ := b
    simp only [lt4, lt3, Prod.mk.injEq]
    omega
end Go.Obs
