/- The plain law of inclusion constraints, continued: a visit, how far the solver can go, its end. Of no program. -/
import Derived.Test.YtdlfbkmjemamhaaAndQ
namespace Go.And

/-- visit: what is new in a node is passed on. -/
def Visit (S : Syst) (node : Nat) (L : List Nat) (a b : St) : Prop :=
  ∃ m1, Puts ((a.cp node).map fun t => (t, a.f node)) { a with f := upd a.f node (fun _ => false), q := upd a.q node false } m1 ∧
    ((S.vars ≤ node ∧ b = m1) ∨ (node < S.vars ∧ ∃ m2, Puts ((a.pt node).map fun e => (e.1, fun x => a.f node x && e.2 x)) m1 m2 ∧
      Joins (L.flatMap fun y => ((a.ld node).map fun c => (S.cell y c.f, c.b)) ++ ((a.sr node).map fun c => (c.a, S.cell y c.f))) m2 b))

section
variable {S : Syst} {done : List C} {a b : St} {pend : List Nat}

theorem Inv.visit {node : Nat} {L : List Nat} (h : Inv S done a No No No (node :: pend)) (hS : S.Ok) (hL : ∀ y, a.f node y = true ↔ y ∈ L) (hV : Visit S node L a b) : Inv S done b No No No pend := by
  obtain ⟨m1, hp1, hrest⟩ := hV
  have g : ∀ i x : Nat, (i = node ∧ a.f node x = true) ∨ ¬ (i = node ∧ a.f node x = true) := fun i x => Classical.em _
  have hnN : node < S.N := h.lt node (by simp)
  have hnot : node ∉ a.todo ++ pend := by
    have := h.nd
    rw [List.nodup_append, List.nodup_cons] at this
    intro hm
    rcases List.mem_append.1 hm with h1 | h1
    · exact this.2.2 node h1 node (by simp) rfl
    · exact this.2.1.1 h1
  have h0 : Inv S done { a with f := upd a.f node (fun _ => false), q := upd a.q node false } (fun i x => i = node ∧ a.f node x = true) (fun i x => i = node ∧ a.f node x = true) (fun i x => i = node ∧ a.f node x = true) pend := by
    have hf : ∀ i x, upd a.f node (fun _ => false) i x = false → ¬ (i = node ∧ a.f node x = true) → a.f i x = false := by
      intro i x h1 h2
      by_cases e : i = node
      · subst e
        cases hx : a.f i x
        · rfl
        · exact absurd ⟨rfl, hx⟩ h2
      · rwa [upd_other _ _ _ e] at h1
    refine ⟨fun i x hx => ?_, h.snd, h.cpS, fun i t ht x hx h1 h2 => h.cpC i t ht x hx (hf i x h1 h2) (fun k => k), h.ptS, fun i e he x hx h1 h2 => h.ptC i e he x hx (hf i x h1 h2) (fun k => k), h.ldS,
      fun i c hc y hy h1 h2 => h.ldC i c hc y hy (hf i y h1 h2) (fun k => k), h.srS, fun i c hc y hy h1 h2 => h.srC i c hc y hy (hf i y h1 h2) (fun k => k), h.reg, fun i x hx => ?_, fun i => ?_, ?_, fun i hi => h.lt i ?_⟩
    · by_cases e : i = node
      · subst e; simp [upd] at hx
      · simp only [upd_other _ _ _ e] at hx; exact h.fsub i x hx
    · by_cases e : i = node
      · subst e; simp [upd] at hx
      · simp only [upd_other _ _ _ e] at hx ⊢; exact h.qf i x hx
    · by_cases e : i = node
      · subst e; simp only [upd_same]; constructor
        · intro k; cases k
        · intro k; exact absurd k hnot
      · simp only [upd_other _ _ _ e]
        rw [h.qt i]
        simp [e]
    · have := h.nd
      rw [List.nodup_append, List.nodup_cons] at this
      rw [List.nodup_append]
      exact ⟨this.1, this.2.1.2, fun x hx y hy => this.2.2 x hx y (by simp [hy])⟩
    · rcases List.mem_append.1 hi with h1 | h1
      · exact List.mem_append.2 (.inl h1)
      · exact List.mem_append.2 (.inr (by simp [h1]))
  have h1 := h0.puts (fun e he => by
    obtain ⟨t, ht, rfl⟩ := List.mem_map.1 he
    obtain ⟨c1, c2, c3⟩ := h.cpS node t ht
    exact ⟨c2, fun x hx => c3 x (h.snd _ _ (h.fsub _ _ hx))⟩) hp1
  obtain ⟨l1, l2, l3, l4, l5, l6⟩ := hp1.le
  have h1c : Inv S done m1 No (fun i x => i = node ∧ a.f node x = true) (fun i x => i = node ∧ a.f node x = true) pend := by
    refine ⟨h1.fsub, h1.snd, h1.cpS, fun i t ht x hx hf _ => ?_, h1.ptS, h1.ptC, h1.ldS, h1.ldC, h1.srS, h1.srC, h1.reg, h1.qf, h1.qt, h1.nd, h1.lt⟩
    rcases g i x with hg | hg
    · obtain ⟨rfl, hx2⟩ := hg
      rw [l3] at ht
      exact l2 (t, a.f i) (List.mem_map.2 ⟨t, ht, rfl⟩) x hx2
    · exact h1.cpC i t ht x hx hf hg
  rcases hrest with ⟨hn, rfl⟩ | ⟨hn, m2, hp2, hj⟩
  · refine ⟨h1c.fsub, h1c.snd, h1c.cpS, h1c.cpC, h1c.ptS, fun i e he x hx hf _ => ?_, h1c.ldS, fun i c hc y hy hf _ => ?_, h1c.srS, fun i c hc y hy hf _ => ?_, h1c.reg, h1c.qf, h1c.qt, h1c.nd, h1c.lt⟩
    · refine h1c.ptC i e he x hx hf fun ⟨k, _⟩ => ?_
      have := (h1c.ptS i e he).1; omega
    · refine h1c.ldC i c hc y hy hf fun ⟨k, _⟩ => ?_
      obtain ⟨q1, q2, q3⟩ := h1c.ldS i c hc
      have := (hS c q1).a
      rw [if_neg (by omega)] at this; omega
    · refine h1c.srC i c hc y hy hf fun ⟨k, _⟩ => ?_
      obtain ⟨q1, q2, q3⟩ := h1c.srS i c hc
      have := (hS c q1).b; omega
  · have h2 := h1c.puts (fun e he => by
      obtain ⟨d, hd, rfl⟩ := List.mem_map.1 he
      obtain ⟨c1, c2, c3⟩ := h.ptS node d hd
      exact ⟨vN c2, fun x hx => by
        simp only [Bool.and_eq_true] at hx
        exact c3 x (h.snd _ _ (h.fsub _ _ hx.1)) hx.2⟩) hp2
    obtain ⟨k1, k2, k3, k4, k5, k6⟩ := hp2.le
    have h2p : Inv S done m2 No No (fun i x => i = node ∧ a.f node x = true) pend := by
      refine ⟨h2.fsub, h2.snd, h2.cpS, h2.cpC, h2.ptS, fun i e he x hx hf _ hex => ?_, h2.ldS, h2.ldC, h2.srS, h2.srC, h2.reg, h2.qf, h2.qt, h2.nd, h2.lt⟩
      rcases g i x with hg | hg
      · obtain ⟨rfl, hx2⟩ := hg
        have he2 : e ∈ a.pt i := by rw [k4, l4] at he; exact he
        exact k2 (e.1, fun x => a.f i x && e.2 x) (List.mem_map.2 ⟨e, he2, rfl⟩) x (by simp [hx2, hex])
      · exact h2.ptC i e he x hx hf hg hex
    have hPts : ∀ y ∈ L, Pts S node y := fun y hy => h.snd _ _ (h.fsub _ _ ((hL y).2 hy))
    have h3 := h2p.joins (fun e he => by
      obtain ⟨y, hy, he2⟩ := List.mem_flatMap.1 he
      have hyP := hPts y hy
      have hyb := (pts_bound hS hyP).2
      rcases List.mem_append.1 he2 with he3 | he3
      · obtain ⟨c, hc, rfl⟩ := List.mem_map.1 he3
        obtain ⟨q1, q2, q3⟩ := h.ldS node c hc
        subst q3
        exact ⟨Syst.cell_lt hyb ((hS c q1).f (.inl q2)), vN (hS c q1).b, (pts_shut S c q1).2.2.1 q2 y hyP⟩
      · obtain ⟨c, hc, rfl⟩ := List.mem_map.1 he3
        obtain ⟨q1, q2, q3⟩ := h.srS node c hc
        subst q3
        have ha := (hS c q1).a
        rw [if_neg (by omega)] at ha
        exact ⟨vN ha, Syst.cell_lt hyb ((hS c q1).f (.inr q2)), (pts_shut S c q1).2.2.2.1 q2 y hyP⟩) hj
    obtain ⟨j1, j2, j3, j4, j5, j6⟩ := hj.le
    refine ⟨h3.fsub, h3.snd, h3.cpS, h3.cpC, h3.ptS, h3.ptC, h3.ldS, fun i c hc y hy hf _ => ?_, h3.srS, fun i c hc y hy hf _ => ?_, h3.reg, h3.qf, h3.qt, h3.nd, h3.lt⟩
    · rcases g i y with hg | hg
      · obtain ⟨rfl, hy2⟩ := hg
        have hc2 : c ∈ a.ld i := by rw [j5, k5, l5] at hc; exact hc
        exact j3 (S.cell y c.f, c.b) (List.mem_flatMap.2 ⟨y, (hL y).1 hy2, List.mem_append.2 (.inl (List.mem_map.2 ⟨c, hc2, rfl⟩))⟩)
      · exact h3.ldC i c hc y hy hf hg
    · rcases g i y with hg | hg
      · obtain ⟨rfl, hy2⟩ := hg
        have hc2 : c ∈ a.sr i := by rw [j6, k6, l6] at hc; exact hc
        exact j3 (c.a, S.cell y c.f) (List.mem_flatMap.2 ⟨y, (hL y).1 hy2, List.mem_append.2 (.inr (List.mem_map.2 ⟨c, hc2, rfl⟩))⟩)
      · exact h3.srC i c hc y hy hf hg

/-- The end: nothing waits, so all is closed. -/
theorem Inv.fin (h : Inv S S.cons a No No No []) (ht : a.todo = []) : ∀ i x, a.p i x = true ↔ Pts S i x := by
  have hf : ∀ i x, a.f i x = false := fun i x => by
    cases hx : a.f i x
    · rfl
    · have := (h.qt i).1 (h.qf i x hx)
      rw [ht] at this; cases this
  refine fun i x => ⟨h.snd i x, fun hx => hx.least (p := fun i x => a.p i x = true) fun c hc => ?_⟩
  obtain ⟨r1, r2, r3, r4, r5⟩ := h.reg c hc
  refine ⟨r1, fun k x hx => h.cpC _ _ (r2 k) x hx (hf _ _) (fun k => k), fun k y hy x hx => ?_, fun k y hy x hx => ?_, fun k x hx hs => ?_⟩
  · obtain ⟨d, hd, d1, d2⟩ := r3 k
    have := h.ldC _ d hd y hy (hf _ _) (fun k => k)
    rw [d1, d2] at this
    exact h.cpC _ _ this x hx (hf _ _) (fun k => k)
  · obtain ⟨d, hd, d1, d2⟩ := r4 k
    have := h.srC _ d hd y hy (hf _ _) (fun k => k)
    rw [d1, d2] at this
    exact h.cpC _ _ this x hx (hf _ _) (fun k => k)
  · obtain ⟨e, he, e1, e2⟩ := r5 k
    have := h.ptC _ e he x hx (hf _ _) (fun k => k) (e2 x hs)
    rwa [e1] at this

end

/-! ### How far it goes -/
theorem sum_le {α : Type} (g h : α → Nat) : ∀ (l : List α), (∀ x ∈ l, g x ≤ h x) → (l.map g).sum ≤ (l.map h).sum
  | [], _ => Nat.le_refl _
  | x :: l, hl => by
    have := sum_le g h l fun y hy => hl y (by simp [hy])
    have := hl x (by simp)
    simp; omega
theorem sum_lt {α : Type} (g h : α → Nat) : ∀ (l : List α), (∀ x ∈ l, g x ≤ h x) → (∃ x ∈ l, g x < h x) → (l.map g).sum < (l.map h).sum
  | [], _, ⟨x, hx, _⟩ => by cases hx
  | y :: l, hl, ⟨x, hx, hlt⟩ => by
    rcases List.mem_cons.1 hx with rfl | hx
    · have := sum_le g h l fun y hy => hl y (by simp [hy])
      simp; omega
    · have := sum_lt g h l (fun y hy => hl y (by simp [hy])) ⟨x, hx, hlt⟩
      have := hl y (by simp)
      simp; omega
theorem filter_le (p q : Nat → Bool) : ∀ (l : List Nat), (∀ x ∈ l, p x = true → q x = true) → (l.filter p).length ≤ (l.filter q).length
  | [], _ => Nat.le_refl _
  | x :: l, h => by
    have := filter_le p q l fun y hy => h y (by simp [hy])
    have h1 := h x (by simp)
    cases hp : p x <;> cases hq : q x <;> simp [hp, hq] <;> first | omega | (rw [hp, hq] at h1; simp at h1)
theorem filter_lt (p q : Nat → Bool) : ∀ (l : List Nat), (∀ x ∈ l, p x = true → q x = true) → (∃ x ∈ l, p x = false ∧ q x = true) → (l.filter p).length < (l.filter q).length
  | [], _, ⟨x, hx, _⟩ => by cases hx
  | y :: l, h, ⟨x, hx, h1, h2⟩ => by
    rcases List.mem_cons.1 hx with rfl | hx
    · have := filter_le p q l fun y hy => h y (by simp [hy])
      simp [h1, h2]; omega
    · have := filter_lt p q l (fun y hy => h y (by simp [hy])) ⟨x, hx, h1, h2⟩
      have h3 := h y (by simp)
      cases hp : p y <;> cases hq : q y <;> simp [hp, hq] <;> first | omega | (rw [hp, hq] at h3; simp at h3)

def card (n : Nat) (p : Nat → Bool) : Nat := ((List.range n).filter p).length
theorem card_le (n : Nat) (p : Nat → Bool) : card n p ≤ n := by unfold card; exact Nat.le_trans (List.length_filter_le _ _) (by simp)
/-- How many elements all nodes have. -/
def mass (S : Syst) (st : St) : Nat := ((List.range S.N).map fun i => card S.sites (st.p i)).sum
theorem mass_le (S : Syst) (st : St) : mass S st ≤ S.N * S.sites := by
  have h := sum_le (fun i => card S.sites (st.p i)) (fun _ => S.sites) (List.range S.N) fun i _ => card_le _ _
  have e : ((List.range S.N).map fun _ => S.sites).sum = S.N * S.sites := by
    rw [List.map_const', List.sum_replicate_nat]; simp
  rw [e] at h; exact h

theorem Put.mass {S : Syst} {i : Nat} {s : Nat → Bool} {a b : St} (h : Put i s a b) (hi : i < S.N) (hs : ∀ x, s x = true → x < S.sites) : b.todo.length + Go.And.mass S a ≤ a.todo.length + Go.And.mass S b ∧ Go.And.mass S a ≤ Go.And.mass S b := by
  have hle := h.le.1
  have h1 : Go.And.mass S a ≤ Go.And.mass S b := sum_le _ _ _ fun j _ => filter_le _ _ _ fun x _ => hle j x
  refine ⟨?_, h1⟩
  rcases h with ⟨-, rfl⟩ | ⟨⟨x, hx1, hx2⟩, hb⟩
  · exact Nat.le_refl _
  · have h2 : Go.And.mass S a < Go.And.mass S b := by
      refine sum_lt _ _ _ (fun j _ => filter_le _ _ _ fun x _ => hle j x) ⟨i, List.mem_range.2 hi, filter_lt _ _ _ (fun x _ => hle i x) ⟨x, List.mem_range.2 (hs x hx1), hx2, ?_⟩⟩
      rw [hb]; simp [upd, hx1, hx2]
    have h3 : b.todo.length ≤ a.todo.length + 1 := by
      rw [hb]; show (if a.q i = true then a.todo else a.todo ++ [i]).length ≤ _
      split <;> simp
    omega
theorem Join.mass {S : Syst} {i t : Nat} {a b : St} (h : Join i t a b) (ht : t < S.N) (hs : ∀ x, a.p i x = true → x < S.sites) : b.todo.length + Go.And.mass S a ≤ a.todo.length + Go.And.mass S b ∧ Go.And.mass S a ≤ Go.And.mass S b := by
  obtain ⟨m, hm, rfl⟩ := h.parts
  exact hm.mass ht hs

theorem Put.len {i : Nat} {s : Nat → Bool} {a b : St} (h : Put i s a b) (j : Nat) : (b.cp j).length = (a.cp j).length := by rw [h.le.2.2.1]
theorem Join.len {i t : Nat} {a b : St} (h : Join i t a b) (j : Nat) : (b.cp j).length ≤ (a.cp j).length + 1 := by
  obtain ⟨m, hm, rfl⟩ := h.parts
  show (upd m.cp i (m.cp i ++ [t]) j).length ≤ _
  rw [hm.le.2.2.1]
  by_cases e : j = i
  · subst e; simp [upd]
  · simp [upd, e]

theorem Put.todo {i : Nat} {s : Nat → Bool} {a b : St} (h : Put i s a b) : b.todo.length ≤ a.todo.length + 1 := by
  rcases h with ⟨-, rfl⟩ | ⟨-, rfl⟩
  · omega
  · show (if a.q i = true then a.todo else a.todo ++ [i]).length ≤ _
    split <;> simp
theorem Join.todo {i t : Nat} {a b : St} (h : Join i t a b) : b.todo.length ≤ a.todo.length + 1 := by
  obtain ⟨m, hm, rfl⟩ := h.parts
  exact hm.todo
theorem Joins.todo : ∀ {l : List (Nat × Nat)} {a b : St}, Joins l a b → b.todo.length ≤ a.todo.length + l.length
  | [], a, b, h => by cases h; simp
  | e :: l, a, b, ⟨m, h1, h2⟩ => by
    have := h1.todo
    have := Joins.todo h2
    simp; omega
theorem Joins.len : ∀ {l : List (Nat × Nat)} {a b : St}, Joins l a b → ∀ j, (b.cp j).length ≤ (a.cp j).length + l.length
  | [], a, b, h, j => by cases h; simp
  | e :: l, a, b, ⟨m, h1, h2⟩, j => by
    have := h1.len j
    have := Joins.len h2 j
    simp; omega
theorem Puts.todo : ∀ {l : List (Nat × (Nat → Bool))} {a b : St}, Puts l a b → b.todo.length ≤ a.todo.length + l.length
  | [], a, b, h => by cases h; simp
  | e :: l, a, b, ⟨m, h1, h2⟩ => by
    have := h1.todo
    have := Puts.todo h2
    simp; omega
theorem Join.bnd {i t n : Nat} {a b : St} (h : Join i t a b) (hb : ∀ j x, a.p j x = true → x < n) : ∀ j x, b.p j x = true → x < n := by
  obtain ⟨m, hm, rfl⟩ := h.parts
  intro j x hx
  rcases hm with ⟨-, rfl⟩ | ⟨-, rfl⟩
  · exact hb j x hx
  · by_cases e : j = t
    · subst e
      simp only [upd_same] at hx
      cases h1 : a.p j x
      · simp only [h1, Bool.not_false, Bool.and_true, Bool.false_or] at hx; exact hb i x hx
      · exact hb j x h1
    · simp only [upd_other _ _ _ e] at hx; exact hb j x hx

end Go.And
