/- The reference's table of Booleans: plain facts. -/
import Derived.Test.YtdlfbkmjemamhaaAndP
import Derived.Test.YtdlfbkmjemamhaaBase
namespace Go.And
open Go.Dfl (nth nth_mem mem_nth nth_eq nth_set nth_out)

def tg (M : List (List Bool)) (i x : Nat) : Bool := nth (nth M i) x
def tput (M : List (List Bool)) (i x : Nat) : List (List Bool) := M.set i ((nth M i).set x true)
def cntB (M : List (List Bool)) : Nat := (M.map fun r => r.count true).sum
structure Shp (N n : Nat) (M : List (List Bool)) : Prop where
  len : M.length = N
  row : ∀ i, i < N → (nth M i).length = n

theorem sum_set : ∀ (l : List Nat) (i y : Nat) (h : i < l.length), (l.set i y).sum + l[i] = l.sum + y
  | [], _, _, h => by simp at h
  | a :: l, 0, y, _ => by simp; omega
  | a :: l, i + 1, y, h => by
    have := sum_set l i y (by simpa using h)
    simp only [List.set_cons_succ, List.sum_cons, List.getElem_cons_succ]
    omega
theorem count_put : ∀ (r : List Bool) (x : Nat) (h : x < r.length), r[x] = false → (r.set x true).count true = r.count true + 1
  | [], _, h, _ => by simp at h
  | a :: r, 0, _, e => by
    have e' : a = false := e
    subst e'
    simp
  | a :: r, x + 1, h, e => by
    have := count_put r x (by simpa using h) (by simpa using e)
    simp only [List.set_cons_succ, List.count_cons]
    omega
theorem tput_cnt {N n : Nat} {M : List (List Bool)} (h : Shp N n M) {i x : Nat} (hi : i < N) (hx : x < n) (h0 : tg M i x = false) : cntB (tput M i x) = cntB M + 1 := by
  have hi' : i < M.length := by rw [h.len]; exact hi
  have hr := h.row i hi
  unfold cntB tput
  rw [List.map_set]
  have := sum_set (M.map fun r => r.count true) i (((nth M i).set x true).count true) (by simpa using hi')
  rw [List.getElem_map, ← nth_eq _ _ hi', count_put (nth M i) x (by omega) (by rw [← nth_eq _ _ (by omega)]; exact h0)] at this
  rw [count_put (nth M i) x (by omega) (by rw [← nth_eq _ _ (by omega)]; exact h0)]
  omega
theorem cnt_le : ∀ {n : Nat} (M : List (List Bool)), (∀ r ∈ M, r.length = n) → cntB M ≤ M.length * n
  | _, [], _ => by simp [cntB]
  | n, r :: M, h => by
    have h1 := cnt_le M fun r hr => h r (List.mem_cons_of_mem _ hr)
    have h2 : r.count true ≤ r.length := List.count_le_length
    have h3 := h r (by simp)
    have h4 : cntB (r :: M) = r.count true + cntB M := by simp [cntB]
    rw [h4, List.length_cons, Nat.succ_mul]
    omega
theorem Shp.cnt {N n : Nat} {M : List (List Bool)} (h : Shp N n M) : cntB M ≤ N * n := by
  have := cnt_le (n := n) M fun r hr => by
    obtain ⟨i, hi, rfl⟩ := mem_nth hr
    exact h.row i (by rw [← h.len]; exact hi)
  rwa [h.len] at this
theorem tput_shp {N n : Nat} {M : List (List Bool)} (h : Shp N n M) (i x : Nat) : Shp N n (tput M i x) := by
  refine ⟨by simp [tput, h.len], fun j hj => ?_⟩
  unfold tput
  rw [nth_set]
  split
  · rename_i e; rw [List.length_set, h.row i (by rw [e.1]; exact hj)]
  · exact h.row j hj
theorem tg_put {N n : Nat} {M : List (List Bool)} (h : Shp N n M) {i x : Nat} (hi : i < N) (hx : x < n) (j y : Nat) : tg (tput M i x) j y = true ↔ (j = i ∧ y = x) ∨ tg M j y = true := by
  have hi' : i < M.length := by rw [h.len]; exact hi
  have hr := h.row i hi
  unfold tg tput
  rw [nth_set]
  by_cases e : i = j
  · subst e
    rw [if_pos ⟨rfl, hi'⟩, nth_set]
    by_cases e2 : x = y
    · subst e2; rw [if_pos ⟨rfl, by omega⟩]; simp
    · rw [if_neg (by omega)]
      exact ⟨fun h => .inr h, fun h => h.resolve_left fun h => e2 h.2.symm⟩
  · rw [if_neg (by omega)]
    exact ⟨fun h => .inr h, fun h => h.resolve_left fun h => e h.1.symm⟩
theorem tg_lt {N n : Nat} {M : List (List Bool)} (h : Shp N n M) {i x : Nat} (ht : tg M i x = true) : i < N ∧ x < n := by
  have hi : i < N := by
    rcases Nat.lt_or_ge i N with h1 | h1
    · exact h1
    · have : nth M i = [] := nth_out _ _ (by rw [h.len]; exact h1)
      unfold tg at ht; rw [this, nth_out _ _ (by simp)] at ht; cases ht
  refine ⟨hi, ?_⟩
  rcases Nat.lt_or_ge x n with h1 | h1
  · exact h1
  · unfold tg at ht; rw [nth_out _ _ (by rw [h.row i hi]; exact h1)] at ht; cases ht

/-- The table as an assignment. -/
def tp (M : List (List Bool)) : Nat → Nat → Prop := fun i x => tg M i x = true
def Sub (p q : Nat → Nat → Prop) : Prop := ∀ i x, p i x → q i x
/-- A step of the table that adds what F asks for. -/
structure TStp (N n : Nat) (F : (Nat → Nat → Prop) → Prop) (M M' : List (List Bool)) (b b' : Bool) : Prop where
  sh : Shp N n M'
  le : Sub (tp M) (tp M')
  cnt : cntB M ≤ cntB M'
  up : b' = true → b = true ∨ cntB M < cntB M'
  same : b' = false → b = false ∧ M' = M ∧ F (tp M)
  snd : ∀ p, Sub (tp M) p → F p → Sub (tp M') p

theorem TStp.refl {N n : Nat} {M : List (List Bool)} {b : Bool} {F : (Nat → Nat → Prop) → Prop} (h : Shp N n M) (hF : b = false → F (tp M)) : TStp N n F M M b b :=
  ⟨h, fun _ _ h => h, Nat.le_refl _, fun h => .inl h, fun h => ⟨h, rfl, hF h⟩, fun _ h _ => h⟩
theorem TStp.then {N n : Nat} {F G : (Nat → Nat → Prop) → Prop} {M M' M'' : List (List Bool)} {b b' b'' : Bool} (h : TStp N n F M M' b b') (k : TStp N n G M' M'' b' b'') : TStp N n (fun p => F p ∧ G p) M M'' b b'' := by
  refine ⟨k.sh, fun i x hx => k.le i x (h.le i x hx), Nat.le_trans h.cnt k.cnt, fun hb => ?_, fun hb => ?_, fun p hp hF => k.snd p (h.snd p hp hF.1) hF.2⟩
  · rcases k.up hb with h1 | h1
    · rcases h.up h1 with h2 | h2
      · exact .inl h2
      · exact .inr (Nat.lt_of_lt_of_le h2 k.cnt)
    · exact .inr (Nat.lt_of_le_of_lt h.cnt h1)
  · obtain ⟨h1, h2, h3⟩ := k.same hb
    obtain ⟨g1, g2, g3⟩ := h.same h1
    subst g2
    exact ⟨g1, h2, g3, h3⟩
theorem TStp.thenW {N n : Nat} {F G : (Nat → Nat → Prop) → Prop} {M M' M'' : List (List Bool)} {b b' b'' : Bool} (h : TStp N n F M M' b b') (k : TStp N n G M' M'' b' b'') (H : (Nat → Nat → Prop) → Prop) (h1 : ∀ p, H p → F p) (h2 : ∀ p, Sub (tp M') p → H p → G p) (h3 : F (tp M) → G (tp M) → H (tp M)) : TStp N n H M M'' b b'' := by
  have t := h.then k
  refine ⟨t.sh, t.le, t.cnt, t.up, fun hb => ?_, fun p hp hH => ?_⟩
  · obtain ⟨g1, g2, g3⟩ := t.same hb
    exact ⟨g1, g2, h3 g3.1 g3.2⟩
  · have s1 := h.snd p hp (h1 p hH)
    exact k.snd p s1 (h2 p s1 hH)
theorem TStp.mono {N n : Nat} {F G : (Nat → Nat → Prop) → Prop} {M M' : List (List Bool)} {b b' : Bool} (h : TStp N n F M M' b b') (h1 : ∀ p, G p → F p) (h2 : F (tp M) → G (tp M)) : TStp N n G M M' b b' :=
  ⟨h.sh, h.le, h.cnt, h.up, fun hb => ⟨(h.same hb).1, (h.same hb).2.1, h2 (h.same hb).2.2⟩, fun p hp hG => h.snd p hp (h1 p hG)⟩
theorem TStp.put {N n : Nat} {M : List (List Bool)} {b : Bool} (h : Shp N n M) {i x : Nat} (hi : i < N) (hx : x < n) (h0 : tg M i x = false) : TStp N n (fun p => p i x) M (tput M i x) b true := by
  refine ⟨tput_shp h i x, fun j y hy => (tg_put h hi hx j y).2 (.inr hy), by rw [tput_cnt h hi hx h0]; omega, fun _ => .inr (by rw [tput_cnt h hi hx h0]; omega), fun hb => Bool.noConfusion hb, fun p hp hF j y hy => ?_⟩
  rcases (tg_put h hi hx j y).1 hy with ⟨rfl, rfl⟩ | h1
  · exact hF
  · exact hp j y h1
end Go.And
