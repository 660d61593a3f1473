/- Graphs: plain facts about the order of edges, the code of Check, sorted lists. Of no program. -/
import Derived.Test.YtchmjgjagaaomaaBaseP
import Derived.Test.YtchmjgjagaaomaaGb
namespace Go.Gra
open Go.Dfl (nth nth_mem mem_nth nth_eq nth_ext)
/-- A graph as it is handed over. -/
structure G where
  n : Int
  es : List (Int × Int)
def eLt (a b : Int × Int) : Prop := a.1 < b.1 ∨ (a.1 = b.1 ∧ a.2 < b.2)
instance (a b : Int × Int) : Decidable (eLt a b) := by unfold eLt; infer_instance
theorem eLt_irrefl (a : Int × Int) : ¬ eLt a a := by unfold eLt; omega
theorem eLt_trans {a b c : Int × Int} (h : eLt a b) (k : eLt b c) : eLt a c := by unfold eLt at *; omega
theorem eLt_asymm {a b : Int × Int} (h : eLt a b) : ¬ eLt b a := by unfold eLt at *; omega
theorem eLt_total {a b : Int × Int} (h : ¬ eLt a b) (k : ¬ eLt b a) : a = b := by
  unfold eLt at *
  exact Prod.ext (by omega) (by omega)
/-- What cmp.Compare returns. -/
def cmpI (x y : Int) : Int := if x < y then -1 else if y < x then 1 else 0
def cmpE (a b : Int × Int) : Int := if cmpI a.1 b.1 ≠ 0 then cmpI a.1 b.1 else cmpI a.2 b.2
theorem cmpE_neg (a b : Int × Int) : cmpE a b < 0 ↔ eLt a b := by
  unfold cmpE cmpI eLt
  repeat' split
  all_goals omega
theorem cmpE_nonneg (a b : Int × Int) : 0 ≤ cmpE a b ↔ ¬ eLt a b := by rw [← cmpE_neg]; omega
def nodeB (n v : Int) : Bool := decide (0 ≤ v) && decide (v < n)
def inB (n : Int) (e : Int × Int) : Bool := nodeB n e.1 && nodeB n e.2
theorem nodeB_iff {n v : Int} : nodeB n v = true ↔ 0 ≤ v ∧ v < n := by simp [nodeB]
theorem inB_iff {n : Int} {e : Int × Int} : inB n e = true ↔ (0 ≤ e.1 ∧ e.1 < n) ∧ 0 ≤ e.2 ∧ e.2 < n := by simp [inB, nodeB_iff]
/-- The code of the edges that are left; the last one before them. -/
def ordB : Option (Int × Int) → Int × Int → Bool
  | none, _ => true
  | some d, e => decide (eLt d e)
def scanE (n : Int) (p : Option (Int × Int)) : List (Int × Int) → Int
  | [] => 0
  | e :: l => if inB n e = false then 4 else if ordB p e = false then 13 else scanE n (some e) l
def gCode (g : G) : Int := if g.n < 0 then 4 else if 8192 < g.n ∨ 32768 < g.es.length then 3 else scanE g.n none g.es
theorem gCode_neg {g : G} (h : g.n < 0) : gCode g = 4 := by unfold gCode; rw [if_pos h]
theorem gCode_big {g : G} (h0 : 0 ≤ g.n) (h : 8192 < g.n ∨ 32768 < g.es.length) : gCode g = 3 := by unfold gCode; rw [if_neg (by omega), if_pos h]
theorem gCode_scan {g : G} (h0 : 0 ≤ g.n) (h1 : g.n ≤ 8192) (h2 : g.es.length ≤ 32768) : gCode g = scanE g.n none g.es := by unfold gCode; rw [if_neg (by omega), if_neg (by omega)]
def prevE (es : List (Int × Int)) (i : Nat) : Option (Int × Int) := if i = 0 then none else some (nth es (i - 1))
theorem prevE_succ (es : List (Int × Int)) (i : Nat) : prevE es (i + 1) = some (nth es i) := by simp [prevE]
theorem drop_nth {α : Type} [Inhabited α] (l : List α) (i : Nat) (h : i < l.length) : l.drop i = nth l i :: l.drop (i + 1) := by
  rw [nth_eq _ _ h]; exact List.drop_eq_getElem_cons h
theorem scanE_bad {n : Int} {es : List (Int × Int)} {i : Nat} (h : i < es.length) (hb : inB n (nth es i) = false) : scanE n (prevE es i) (es.drop i) = 4 := by
  rw [drop_nth _ _ h, scanE, if_pos hb]
theorem scanE_ord {n : Int} {es : List (Int × Int)} {i : Nat} (h : i + 1 < es.length) (hb : inB n (nth es (i + 1)) = true) (ho : ¬ eLt (nth es i) (nth es (i + 1))) : scanE n (prevE es (i + 1)) (es.drop (i + 1)) = 13 := by
  rw [drop_nth _ _ h, prevE_succ, scanE, if_neg (by rw [hb]; simp), if_pos (by simpa [ordB] using ho)]
theorem scanE_ok {n : Int} {es : List (Int × Int)} {i : Nat} (h : i < es.length) (hb : inB n (nth es i) = true) (ho : 0 < i → eLt (nth es (i - 1)) (nth es i)) : scanE n (prevE es i) (es.drop i) = scanE n (prevE es (i + 1)) (es.drop (i + 1)) := by
  rw [drop_nth _ _ h, prevE_succ, scanE, if_neg (by rw [hb]; simp)]
  cases i with
  | zero => simp [prevE, ordB]
  | succ i => rw [prevE_succ, if_neg (by simpa [ordB] using ho (by omega))]
/-- A valid graph. -/
structure VG (g : G) : Prop where
  n0 : 0 ≤ g.n
  n1 : g.n ≤ 8192
  len : g.es.length ≤ 32768
  inn : ∀ e ∈ g.es, (0 ≤ e.1 ∧ e.1 < g.n) ∧ 0 ≤ e.2 ∧ e.2 < g.n
  srt : g.es.Pairwise eLt
theorem scanE_zero {n : Int} : ∀ (l : List (Int × Int)) (p : Option (Int × Int)), scanE n p l = 0 ↔ (∀ e ∈ l, inB n e = true) ∧ l.Pairwise eLt ∧ ∀ d, p = some d → ∀ e ∈ l, eLt d e
  | [], p => by simp [scanE]
  | e :: l, p => by
    rw [scanE]
    by_cases h1 : inB n e = false
    · rw [if_pos h1]
      simp [h1]
    · rw [if_neg h1]
      have h1' : inB n e = true := by simpa using h1
      have ih := scanE_zero (n := n) l (some e)
      have key : (scanE n (some e) l = 0) ↔ (∀ e ∈ l, inB n e = true) ∧ l.Pairwise eLt ∧ ∀ x ∈ l, eLt e x := by
        rw [ih]; simp
      cases p with
      | none =>
        rw [if_neg (by simp [ordB]), key]
        simp only [List.mem_cons, forall_eq_or_imp, List.pairwise_cons, h1', true_and]
        constructor
        · rintro ⟨a, b, c⟩; exact ⟨a, ⟨c, b⟩, by simp⟩
        · rintro ⟨a, ⟨c, b⟩, -⟩; exact ⟨a, b, c⟩
      | some d =>
        by_cases h2 : eLt d e
        · rw [if_neg (by simpa [ordB] using h2), key]
          simp only [List.mem_cons, forall_eq_or_imp, List.pairwise_cons, h1', true_and]
          constructor
          · rintro ⟨a, b, c⟩
            refine ⟨a, ⟨c, b⟩, fun d' hd => ?_⟩
            obtain rfl : d = d' := by simpa using hd
            exact ⟨h2, fun x hx => eLt_trans h2 (c x hx)⟩
          · rintro ⟨a, ⟨c, b⟩, -⟩; exact ⟨a, b, c⟩
        · rw [if_pos (by simpa [ordB] using h2)]
          simp only [List.mem_cons, forall_eq_or_imp]
          constructor
          · intro h; cases h
          · rintro ⟨-, -, h⟩; exact absurd (h d rfl).1 h2
theorem gCode_ok {g : G} : gCode g = 0 ↔ VG g := by
  unfold gCode
  by_cases h1 : g.n < 0
  · rw [if_pos h1]; constructor
    · intro h; cases h
    · intro h; have := h.n0; omega
  · rw [if_neg h1]
    by_cases h2 : 8192 < g.n ∨ 32768 < g.es.length
    · rw [if_pos h2]; constructor
      · intro h; cases h
      · intro h; have := h.n1; have := h.len; omega
    · rw [if_neg h2, scanE_zero]
      constructor
      · rintro ⟨a, b, -⟩; exact ⟨by omega, by omega, by omega, fun e he => inB_iff.1 (a e he), b⟩
      · intro h; exact ⟨fun e he => inB_iff.2 (h.inn e he), h.srt, by simp⟩
/-- The edges in order, without duplicates. -/
structure SortOf (es l : List (Int × Int)) : Prop where
  srt : l.Pairwise eLt
  mem : ∀ e, e ∈ l ↔ e ∈ es
theorem sorted_eq : ∀ {l m : List (Int × Int)}, l.Pairwise eLt → m.Pairwise eLt → (∀ e, e ∈ l ↔ e ∈ m) → l = m
  | [], [], _, _, _ => rfl
  | [], b :: m, _, _, h => by have := (h b).2 (by simp); simp at this
  | a :: l, [], _, _, h => by have := (h a).1 (by simp); simp at this
  | a :: l, b :: m, hl, hm, h => by
    rw [List.pairwise_cons] at hl hm
    have hab : a = b := by
      have h1 := (h a).1 (by simp)
      have h2 := (h b).2 (by simp)
      rcases List.mem_cons.1 h1 with e | h1
      · exact e
      · rcases List.mem_cons.1 h2 with e | h2
        · exact e.symm
        · exact absurd (eLt_trans (hl.1 b h2) (hm.1 a h1)) (eLt_irrefl _)
    subst hab
    rw [sorted_eq hl.2 hm.2 fun e => ?_]
    constructor
    · intro he
      rcases List.mem_cons.1 ((h e).1 (List.mem_cons_of_mem _ he)) with rfl | h1
      · exact absurd (hl.1 _ he) (eLt_irrefl _)
      · exact h1
    · intro he
      rcases List.mem_cons.1 ((h e).2 (List.mem_cons_of_mem _ he)) with rfl | h1
      · exact absurd (hm.1 _ he) (eLt_irrefl _)
      · exact h1
theorem SortOf.unique {es l m : List (Int × Int)} (h : SortOf es l) (k : SortOf es m) : l = m := sorted_eq h.srt k.srt fun e => by rw [h.mem, k.mem]
theorem SortOf.self {es : List (Int × Int)} (h : es.Pairwise eLt) : SortOf es es := ⟨h, fun _ => Iff.rfl⟩
end Go.Gra
