/- The search of a demand query: plain invariants. -/
import Derived.Test.YtkfhopnolflchaaGc
import Derived.Test.YtkfhopnolflchaaAndM
namespace Go.And
open Go.Dfl (nth nth_mem mem_nth nth_eq nth_set nth_out nth_append)

def addV (vl : List Bool) (x : Nat) : List Bool := if nth vl x = true then vl else vl.set x true
def addT (vl : List Bool) (todo : List Nat) (x : Nat) : List Nat := if nth vl x = true then todo else todo ++ [x]
theorem addV_len (vl : List Bool) (x : Nat) : (addV vl x).length = vl.length := by unfold addV; split <;> simp
theorem set_true {vl : List Bool} {x : Nat} (hx : x < vl.length) (y : Nat) : nth (vl.set x true) y = true ↔ y = x ∨ nth vl y = true := by
  rw [nth_set]
  by_cases e : x = y
  · subst e; simp [hx]
  · rw [if_neg (by omega)]
    exact ⟨.inr, fun h => h.resolve_left fun h => e h.symm⟩
theorem addV_iff {vl : List Bool} {x : Nat} (hx : x < vl.length) (y : Nat) : nth (addV vl x) y = true ↔ y = x ∨ nth vl y = true := by
  unfold addV
  split
  · rename_i h
    exact ⟨.inr, fun k => by rcases k with rfl | k; exact h; exact k⟩
  · exact set_true hx y
theorem count_set {vl : List Bool} {x : Nat} (hx : x < vl.length) (h : nth vl x = false) : (vl.set x true).count true = vl.count true + 1 := count_put vl x hx (by rw [← nth_eq _ _ hx]; exact h)
/-- What is left to do. -/
def gasD (vl : List Bool) (todo : List Nat) : Nat := 2 * (vl.length - vl.count true) + todo.length
theorem gas_add {vl : List Bool} {todo : List Nat} {x : Nat} (hx : x < vl.length) : gasD (addV vl x) (addT vl todo x) ≤ gasD vl todo := by
  unfold addV addT gasD
  split
  · exact Nat.le_refl _
  · rename_i h
    have h1 := count_set hx (by simpa using h)
    have h2 : (vl.set x true).count true ≤ (vl.set x true).length := List.count_le_length
    simp at h2 ⊢
    omega

structure DInv (S : Syst) (v : Nat) (vl fl : List Bool) (todo : List Nat) (Q R : Nat → Prop) : Prop where
  lv : vl.length = S.vars
  lf : fl.length = S.fields
  root : nth vl v = true
  sv : ∀ x, nth vl x = true → Vis S v x
  sf : ∀ f, nth fl f = true → LdF S v f
  td : ∀ x ∈ todo, nth vl x = true
  cl : ∀ c ∈ S.cons, nth vl c.b = true → Flw c → c.b ∉ todo → ¬ Q c.b → nth vl c.a = true ∧ (c.k = 3 → nth fl c.f = true)
  st : ∀ d ∈ S.cons, d.k = 4 → nth fl d.f = true → ¬ R d.f → nth vl d.a = true ∧ nth vl d.b = true

section
variable {S : Syst} {v : Nat} {vl fl : List Bool} {todo : List Nat} {Q R : Nat → Prop}

theorem nth_false (n i : Nat) : nth (List.replicate n false) i = false := by
  by_cases h : i < n
  · simp [nth, h]
  · simp [nth, h]
theorem DInv.start (hv : v < S.vars) : DInv S v ((List.replicate S.vars false).set v true) (List.replicate S.fields false) [v] (fun _ => False) (fun _ => False) := by
  have hi : ∀ y, nth ((List.replicate S.vars false).set v true) y = true ↔ y = v := fun y => by
    rw [set_true (by simpa using hv), nth_false]; simp
  refine ⟨by simp, by simp, (hi v).2 rfl, fun x hx => by rw [(hi x).1 hx]; exact .root, fun f hf => ?_, fun x hx => ?_, fun c _ hb _ hn _ => ?_, fun d _ _ hf => ?_⟩
  · rw [nth_false] at hf; cases hf
  · exact (hi x).2 (by simpa using hx)
  · exact absurd ((hi c.b).1 hb) (by simpa using hn)
  · rw [nth_false] at hf; cases hf
theorem DInv.add (h : DInv S v vl fl todo Q R) {x : Nat} (hx : x < S.vars) (hv : Vis S v x) : DInv S v (addV vl x) fl (addT vl todo x) Q R := by
  have hxl : x < vl.length := by rw [h.lv]; exact hx
  have hi := addV_iff (vl := vl) hxl
  have hup : ∀ y, nth vl y = true → nth (addV vl x) y = true := fun y hy => (hi y).2 (.inr hy)
  have hm : ∀ y, y ∈ addT vl todo x → y = x ∨ y ∈ todo := fun y hy => by
    unfold addT at hy
    split at hy
    · exact .inr hy
    · rcases List.mem_append.1 hy with h1 | h1
      · exact .inr h1
      · exact .inl (by simpa using h1)
  refine ⟨by rw [addV_len]; exact h.lv, h.lf, hup v h.root, fun y hy => ?_, h.sf, fun y hy => ?_, fun c hc hb hf hn hq => ?_, fun d hd h4 hf hr => ?_⟩
  · rcases (hi y).1 hy with rfl | h1
    · exact hv
    · exact h.sv y h1
  · rcases hm y hy with rfl | h1
    · exact (hi y).2 (.inl rfl)
    · exact hup y (h.td y h1)
  · have hnt : c.b ∉ todo := fun ht => hn (by unfold addT; split; exact ht; exact List.mem_append.2 (.inl ht))
    rcases (hi c.b).1 hb with e | h1
    · by_cases h2 : nth vl x = true
      · have := h.cl c hc (by rw [e]; exact h2) hf hnt hq
        exact ⟨hup _ this.1, this.2⟩
      · exact absurd (by unfold addT; rw [if_neg h2, e]; simp) hn
    · have := h.cl c hc h1 hf hnt hq
      exact ⟨hup _ this.1, this.2⟩
  · have := h.st d hd h4 hf hr
    exact ⟨hup _ this.1, hup _ this.2⟩
theorem DInv.pop {t : List Nat} {b : Nat} (h : DInv S v vl fl (t ++ [b]) (fun _ => False) R) : DInv S v vl fl t (fun y => y = b) R :=
  ⟨h.lv, h.lf, h.root, h.sv, h.sf, fun x hx => h.td x (by simp [hx]), fun c hc hb hf hn hq => h.cl c hc hb hf (fun hm => by
    rcases List.mem_append.1 hm with h1 | h1
    · exact hn h1
    · exact hq (by simpa using h1)) (fun h => h), h.st⟩
theorem DInv.field (h : DInv S v vl fl todo Q (fun _ => False)) {c : C} (hc : c ∈ S.cons) (h3 : c.k = 3) (hb : nth vl c.b = true) (hf : c.f < S.fields) : DInv S v vl (fl.set c.f true) todo Q (fun g => g = c.f) := by
  have hi := set_true (vl := fl) (x := c.f) (by rw [h.lf]; exact hf)
  refine ⟨h.lv, by simp [h.lf], h.root, h.sv, fun f hfl => ?_, h.td, fun c' hc' hb' hf' hn hq => ?_, fun d hd h4 hfl hr => ?_⟩
  · rcases (hi f).1 hfl with rfl | h1
    · exact ⟨c, hc, h3, rfl, h.sv _ hb⟩
    · exact h.sf f h1
  · have := h.cl c' hc' hb' hf' hn hq
    exact ⟨this.1, fun e => (hi _).2 (.inr (this.2 e))⟩
  · rcases (hi _).1 hfl with h1 | h1
    · exact absurd h1 hr
    · exact h.st d hd h4 h1 (fun h => h)
theorem DInv.shutR {f : Nat} (h : DInv S v vl fl todo Q (fun g => g = f)) (hs : ∀ d ∈ S.cons, d.k = 4 → d.f = f → nth vl d.a = true ∧ nth vl d.b = true) : DInv S v vl fl todo Q (fun _ => False) :=
  ⟨h.lv, h.lf, h.root, h.sv, h.sf, h.td, h.cl, fun d hd h4 hf _ => by
    by_cases e : d.f = f
    · exact hs d hd h4 e
    · exact h.st d hd h4 hf e⟩
theorem DInv.shutQ {b : Nat} (h : DInv S v vl fl todo (fun y => y = b) R) (hs : ∀ c ∈ S.cons, Flw c → c.b = b → nth vl c.a = true ∧ (c.k = 3 → nth fl c.f = true)) : DInv S v vl fl todo (fun _ => False) R :=
  ⟨h.lv, h.lf, h.root, h.sv, h.sf, h.td, fun c hc hb hf hn _ => by
    by_cases e : c.b = b
    · exact hs c hc hf e
    · exact h.cl c hc hb hf hn e, h.st⟩
theorem DInv.fin (h : DInv S v vl fl [] (fun _ => False) (fun _ => False)) : (∀ x, nth vl x = true ↔ Vis S v x) ∧ ∀ f, nth fl f = true ↔ LdF S v f := by
  have h1 : ∀ x, Vis S v x → nth vl x = true := fun x hx => by
    induction hx with
    | root => exact h.root
    | flow hc hf _ ih => exact (h.cl _ hc ih hf (by simp) (fun h => h)).1
    | sa hc h3 _ hd h4 hf ih => exact (h.st _ hd h4 (by rw [hf]; exact (h.cl _ hc ih (.inr (.inl h3)) (by simp) (fun h => h)).2 h3) (fun h => h)).1
    | sb hc h3 _ hd h4 hf ih => exact (h.st _ hd h4 (by rw [hf]; exact (h.cl _ hc ih (.inr (.inl h3)) (by simp) (fun h => h)).2 h3) (fun h => h)).2
  refine ⟨fun x => ⟨h.sv x, h1 x⟩, fun f => ⟨h.sf f, fun ⟨c, hc, h3, hf, hb⟩ => ?_⟩⟩
  rw [← hf]; exact (h.cl c hc (h1 _ hb) (.inr (.inl h3)) (by simp) (fun h => h)).2 h3
end

/-- The constraints along which the query of b goes on; the stores of a field. -/
def intoL (S : Syst) (b k : Nat) : List Nat := (List.range k).filter fun i => decide (Flw (nth S.cons i)) && decide ((nth S.cons i).b = b)
def storL (S : Syst) (f k : Nat) : List Nat := (List.range k).filter fun i => decide ((nth S.cons i).k = 4) && decide ((nth S.cons i).f = f)
theorem intoL_succ (S : Syst) (b k : Nat) : intoL S b (k + 1) = intoL S b k ++ (if Flw (nth S.cons k) ∧ (nth S.cons k).b = b then [k] else []) := by
  unfold intoL
  rw [List.range_succ, List.filter_append]
  congr 1
  by_cases h1 : Flw (nth S.cons k) <;> by_cases h2 : (nth S.cons k).b = b <;> simp [h1, h2]
theorem storL_succ (S : Syst) (f k : Nat) : storL S f (k + 1) = storL S f k ++ (if (nth S.cons k).k = 4 ∧ (nth S.cons k).f = f then [k] else []) := by
  unfold storL
  rw [List.range_succ, List.filter_append]
  congr 1
  by_cases h1 : (nth S.cons k).k = 4 <;> by_cases h2 : (nth S.cons k).f = f <;> simp [h1, h2]
theorem intoL_len (S : Syst) (b k : Nat) : (intoL S b k).length ≤ k := by
  unfold intoL; exact Nat.le_trans (List.length_filter_le _ _) (by simp)
theorem storL_len (S : Syst) (f k : Nat) : (storL S f k).length ≤ k := by
  unfold storL; exact Nat.le_trans (List.length_filter_le _ _) (by simp)
theorem mem_intoL {S : Syst} {b k i : Nat} : i ∈ intoL S b k ↔ i < k ∧ Flw (nth S.cons i) ∧ (nth S.cons i).b = b := by
  unfold intoL; simp
theorem mem_storL {S : Syst} {f k i : Nat} : i ∈ storL S f k ↔ i < k ∧ (nth S.cons i).k = 4 ∧ (nth S.cons i).f = f := by
  unfold storL; simp
end Go.And
