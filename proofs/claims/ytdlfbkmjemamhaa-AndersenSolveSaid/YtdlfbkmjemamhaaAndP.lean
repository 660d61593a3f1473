/- The plain law of inclusion constraints: what the solver's steps keep, and that its end is the least solution. Of no program. -/
namespace Go.And

/-- A constraint. -/
structure C where
  k : Nat
  a : Nat
  b : Nat
  f : Nat
  s : List Nat
structure Syst where
  vars : Nat
  sites : Nat
  fields : Nat
  cons : List C
def Syst.cell (S : Syst) (y f : Nat) : Nat := S.vars + y * S.fields + f
def Syst.N (S : Syst) : Nat := S.vars + S.sites * S.fields

/-- A constraint of a valid system. -/
structure C.Ok (S : Syst) (c : C) : Prop where
  kind : 1 ≤ c.k ∧ c.k ≤ 5
  a : if c.k = 1 then c.a < S.sites else c.a < S.vars
  b : c.b < S.vars
  f : (c.k = 3 ∨ c.k = 4) → c.f < S.fields
  f0 : c.k ≠ 3 → c.k ≠ 4 → c.f = 0
  s : ∀ x ∈ c.s, x < S.sites
  s0 : c.k ≠ 5 → c.s = []
def Syst.Ok (S : Syst) : Prop := ∀ c ∈ S.cons, c.Ok S

theorem Syst.cell_lt {S : Syst} {y f : Nat} (hy : y < S.sites) (hf : f < S.fields) : S.cell y f < S.N := by
  unfold Syst.cell Syst.N
  have : y * S.fields + S.fields ≤ S.sites * S.fields := by
    have := Nat.mul_le_mul_right S.fields (Nat.succ_le_of_lt hy)
    rwa [Nat.succ_mul] at this
  omega

/-- What a constraint asks of an assignment. -/
def Holds (S : Syst) (p : Nat → Nat → Prop) (c : C) : Prop :=
  (c.k = 1 → p c.b c.a) ∧ (c.k = 2 → ∀ x, p c.a x → p c.b x) ∧ (c.k = 3 → ∀ y, p c.a y → ∀ x, p (S.cell y c.f) x → p c.b x) ∧
  (c.k = 4 → ∀ y, p c.b y → ∀ x, p c.a x → p (S.cell y c.f) x) ∧ (c.k = 5 → ∀ x, p c.a x → x ∈ c.s → p c.b x)
def Shut (S : Syst) (p : Nat → Nat → Prop) : Prop := ∀ c ∈ S.cons, Holds S p c
/-- The least solution. -/
def Pts (S : Syst) (i x : Nat) : Prop := ∀ p, Shut S p → p i x

theorem Pts.least {S : Syst} {p : Nat → Nat → Prop} (h : Shut S p) {i x : Nat} (hx : Pts S i x) : p i x := hx p h
theorem pts_shut (S : Syst) : Shut S (Pts S) := fun c hc =>
  ⟨fun hk _ hp => (hp c hc).1 hk, fun hk x hx p hp => (hp c hc).2.1 hk x (hx p hp), fun hk y hy x hx p hp => (hp c hc).2.2.1 hk y (hy p hp) x (hx p hp),
   fun hk y hy x hx p hp => (hp c hc).2.2.2.1 hk y (hy p hp) x (hx p hp), fun hk x hx hs p hp => (hp c hc).2.2.2.2 hk x (hx p hp) hs⟩
theorem pts_bound {S : Syst} (hS : S.Ok) {i x : Nat} (h : Pts S i x) : i < S.N ∧ x < S.sites := by
  have hv : ∀ j, j < S.vars → j < S.N := fun j hj => by unfold Syst.N; omega
  refine h (fun i x => i < S.N ∧ x < S.sites) fun c hc => ?_
  have ok := hS c hc
  refine ⟨fun hk => ⟨hv _ ok.b, ?_⟩, fun hk x hx => ⟨hv _ ok.b, hx.2⟩, fun hk y hy x hx => ⟨hv _ ok.b, hx.2⟩, fun hk y hy x hx => ⟨Syst.cell_lt hy.2 (ok.f (.inr hk)), hx.2⟩, fun hk x hx _ => ⟨hv _ ok.b, hx.2⟩⟩
  have := ok.a; rwa [if_pos hk] at this

/-! ### The solver's state -/
structure St where
  p : Nat → Nat → Bool
  f : Nat → Nat → Bool
  cp : Nat → List Nat
  pt : Nat → List (Nat × (Nat → Bool))
  ld : Nat → List C
  sr : Nat → List C
  q : Nat → Bool
  todo : List Nat
def upd {α : Type} (g : Nat → α) (i : Nat) (v : α) : Nat → α := fun j => if j = i then v else g j
theorem upd_same {α : Type} (g : Nat → α) (i : Nat) (v : α) : upd g i v i = v := by simp [upd]
theorem upd_other {α : Type} (g : Nat → α) (i : Nat) (v : α) {j : Nat} (h : j ≠ i) : upd g i v j = g j := by simp [upd, h]

/-- put: it adds the elements of a set to a node. -/
def Put (i : Nat) (s : Nat → Bool) (a b : St) : Prop :=
  ((∀ x, s x = true → a.p i x = true) ∧ b = a) ∨
  ((∃ x, s x = true ∧ a.p i x = false) ∧ b = { a with p := upd a.p i (fun x => a.p i x || (s x && !a.p i x)), f := upd a.f i (fun x => a.f i x || (s x && !a.p i x)), q := upd a.q i true, todo := if a.q i = true then a.todo else a.todo ++ [i] })
/-- join: an edge, and what it passes at once. -/
def Join (i t : Nat) (a b : St) : Prop := Put t (a.p i) { a with cp := upd a.cp i (a.cp i ++ [t]) } b

structure Inv (S : Syst) (done : List C) (st : St) (gc gp gl : Nat → Nat → Prop) (pend : List Nat) : Prop where
  fsub : ∀ i x, st.f i x = true → st.p i x = true
  snd : ∀ i x, st.p i x = true → Pts S i x
  cpS : ∀ i t, t ∈ st.cp i → i < S.N ∧ t < S.N ∧ ∀ x, Pts S i x → Pts S t x
  cpC : ∀ i t, t ∈ st.cp i → ∀ x, st.p i x = true → st.f i x = false → ¬ gc i x → st.p t x = true
  ptS : ∀ i e, e ∈ st.pt i → i < S.vars ∧ e.1 < S.vars ∧ ∀ x, Pts S i x → e.2 x = true → Pts S e.1 x
  ptC : ∀ i e, e ∈ st.pt i → ∀ x, st.p i x = true → st.f i x = false → ¬ gp i x → e.2 x = true → st.p e.1 x = true
  ldS : ∀ i c, c ∈ st.ld i → c ∈ S.cons ∧ c.k = 3 ∧ c.a = i
  ldC : ∀ i c, c ∈ st.ld i → ∀ y, st.p i y = true → st.f i y = false → ¬ gl i y → c.b ∈ st.cp (S.cell y c.f)
  srS : ∀ i c, c ∈ st.sr i → c ∈ S.cons ∧ c.k = 4 ∧ c.b = i
  srC : ∀ i c, c ∈ st.sr i → ∀ y, st.p i y = true → st.f i y = false → ¬ gl i y → S.cell y c.f ∈ st.cp c.a
  reg : ∀ c ∈ done, (c.k = 1 → st.p c.b c.a = true) ∧ (c.k = 2 → c.b ∈ st.cp c.a) ∧ (c.k = 3 → ∃ d ∈ st.ld c.a, d.b = c.b ∧ d.f = c.f) ∧ (c.k = 4 → ∃ d ∈ st.sr c.b, d.a = c.a ∧ d.f = c.f) ∧ (c.k = 5 → ∃ e ∈ st.pt c.a, e.1 = c.b ∧ ∀ x, x ∈ c.s → e.2 x = true)
  qf : ∀ i x, st.f i x = true → st.q i = true
  qt : ∀ i, st.q i = true ↔ i ∈ st.todo ++ pend
  nd : (st.todo ++ pend).Nodup
  lt : ∀ i ∈ st.todo ++ pend, i < S.N

theorem Put.le {i : Nat} {s : Nat → Bool} {a b : St} (h : Put i s a b) : (∀ j x, a.p j x = true → b.p j x = true) ∧ (∀ x, s x = true → b.p i x = true) ∧ b.cp = a.cp ∧ b.pt = a.pt ∧ b.ld = a.ld ∧ b.sr = a.sr := by
  rcases h with ⟨h1, rfl⟩ | ⟨-, rfl⟩
  · exact ⟨fun _ _ h => h, h1, rfl, rfl, rfl, rfl⟩
  · refine ⟨fun j x hj => ?_, fun x hx => ?_, rfl, rfl, rfl, rfl⟩
    · by_cases e : j = i
      · subst e; simp [upd, hj]
      · simp [upd, e, hj]
    · simp only [upd_same]; cases a.p i x <;> simp [hx]
/-- What is new is fresh. -/
theorem Put.new {i : Nat} {s : Nat → Bool} {a b : St} (h : Put i s a b) (j x : Nat) (hp : b.p j x = true) (hf : b.f j x = false) : a.p j x = true ∧ a.f j x = false := by
  rcases h with ⟨-, rfl⟩ | ⟨-, rfl⟩
  · exact ⟨hp, hf⟩
  · by_cases e : j = i
    · subst e
      simp only [upd_same] at hp hf
      cases h1 : a.p j x <;> cases h2 : a.f j x <;> cases h3 : s x <;> simp [h1, h2, h3] at hp hf ⊢
    · simp only [upd_other _ _ _ e] at hp hf; exact ⟨hp, hf⟩
/-- Where the node is another one, or gets nothing. -/
theorem Put.self {i : Nat} {a b : St} (h : Put i (a.p i) a b) : b = a := by
  rcases h with ⟨-, rfl⟩ | ⟨⟨x, h1, h2⟩, -⟩
  · rfl
  · rw [h1] at h2; cases h2
theorem Put.other {i j : Nat} {s : Nat → Bool} {a b : St} (h : Put i s a b) (hj : j ≠ i) : b.p j = a.p j := by
  rcases h with ⟨-, rfl⟩ | ⟨-, rfl⟩
  · rfl
  · exact upd_other _ _ _ hj

theorem Inv.put {S : Syst} {done : List C} {a b : St} {gc gp gl : Nat → Nat → Prop} {pend : List Nat} (h : Inv S done a gc gp gl pend) {i : Nat} {s : Nat → Bool} (hi : i < S.N) (hs : ∀ x, s x = true → Pts S i x) (hp : Put i s a b) : Inv S done b gc gp gl pend := by
  obtain ⟨l1, l2, l3, l4, l5, l6⟩ := hp.le
  have hn := hp.new
  have key : (∀ j x, b.f j x = true → b.p j x = true) ∧ (∀ j x, b.p j x = true → Pts S j x) ∧ (∀ j x, b.f j x = true → b.q j = true) ∧ (∀ j, b.q j = true ↔ j ∈ b.todo ++ pend) ∧ (b.todo ++ pend).Nodup ∧ ∀ j ∈ b.todo ++ pend, j < S.N := by
    rcases hp with ⟨-, rfl⟩ | ⟨-, rfl⟩
    · exact ⟨h.fsub, h.snd, h.qf, h.qt, h.nd, h.lt⟩
    · have hmem : ∀ j, j ∈ (if a.q i = true then a.todo else a.todo ++ [i]) ++ pend ↔ (j ∈ a.todo ++ pend ∨ j = i) := by
        intro j
        by_cases e : a.q i = true
        · rw [if_pos e]
          constructor
          · exact .inl
          · rintro (h1 | rfl)
            · exact h1
            · exact (h.qt j).1 e
        · rw [if_neg e]
          simp only [List.mem_append, List.mem_singleton]
          constructor
          · rintro ((h1 | h1) | h1)
            · exact .inl (.inl h1)
            · exact .inr h1
            · exact .inl (.inr h1)
          · rintro ((h1 | h1) | h1)
            · exact .inl (.inl h1)
            · exact .inr h1
            · exact .inl (.inr h1)
      refine ⟨fun j x hf => ?_, fun j x hx => ?_, fun j x hf => ?_, fun j => ?_, ?_, fun j hj => ?_⟩
      · by_cases e : j = i
        · subst e
          simp only [upd_same] at hf ⊢
          cases h1 : a.p j x
          · simp only [h1, Bool.not_false, Bool.and_true, Bool.false_or] at hf ⊢
            cases h2 : a.f j x
            · simpa [h2] using hf
            · have := h.fsub j x h2; rw [h1] at this; cases this
          · simp
        · simp only [upd_other _ _ _ e] at hf ⊢; exact h.fsub j x hf
      · by_cases e : j = i
        · subst e
          simp only [upd_same] at hx
          cases h1 : a.p j x
          · simp only [h1, Bool.not_false, Bool.and_true, Bool.false_or] at hx; exact hs x hx
          · exact h.snd j x h1
        · simp only [upd_other _ _ _ e] at hx; exact h.snd j x hx
      · by_cases e : j = i
        · subst e; simp [upd]
        · simp only [upd_other _ _ _ e] at hf ⊢; exact h.qf j x hf
      · rw [hmem]
        by_cases e : j = i
        · subst e; simp [upd]
        · simp only [upd_other _ _ _ e, e, or_false]; exact h.qt j
      · show ((if a.q i = true then a.todo else a.todo ++ [i]) ++ pend).Nodup
        by_cases e : a.q i = true
        · rw [if_pos e]; exact h.nd
        · rw [if_neg e]
          have hni : i ∉ a.todo ++ pend := fun hm => e ((h.qt i).2 hm)
          have hd := h.nd
          rw [List.nodup_append] at hd ⊢
          simp only [List.mem_append, not_or] at hni
          refine ⟨?_, hd.2.1, ?_⟩
          · rw [List.nodup_append]
            exact ⟨hd.1, by simp, fun x hx y hy => by simp at hy; subst hy; rintro rfl; exact hni.1 hx⟩
          · intro x hx y hy
            rcases List.mem_append.1 hx with h1 | h1
            · exact hd.2.2 x h1 y hy
            · simp at h1; subst h1; rintro rfl; exact hni.2 hy
      · rcases (hmem j).1 hj with h1 | rfl
        · exact h.lt j h1
        · exact hi
  obtain ⟨k1, k2, k3, k4, k5, k6⟩ := key
  refine ⟨k1, k2, fun j t ht => h.cpS j t (by rwa [l3] at ht), fun j t ht x hx hf hg => ?_, fun j e he => h.ptS j e (by rwa [l4] at he), fun j e he x hx hf hg hex => ?_, fun j c hc => h.ldS j c (by rwa [l5] at hc), fun j c hc y hy hf hg => ?_, fun j c hc => h.srS j c (by rwa [l6] at hc), fun j c hc y hy hf hg => ?_, fun c hc => ?_, k3, k4, k5, k6⟩
  · obtain ⟨q1, q2⟩ := hn j x hx hf
    exact l1 _ _ (h.cpC j t (by rwa [l3] at ht) x q1 q2 hg)
  · obtain ⟨q1, q2⟩ := hn j x hx hf
    exact l1 _ _ (h.ptC j e (by rwa [l4] at he) x q1 q2 hg hex)
  · obtain ⟨q1, q2⟩ := hn j y hy hf
    rw [l3]; exact h.ldC j c (by rwa [l5] at hc) y q1 q2 hg
  · obtain ⟨q1, q2⟩ := hn j y hy hf
    rw [l3]; exact h.srC j c (by rwa [l6] at hc) y q1 q2 hg
  · obtain ⟨r1, r2, r3, r4, r5⟩ := h.reg c hc
    exact ⟨fun hk => l1 _ _ (r1 hk), fun hk => by rw [l3]; exact r2 hk, fun hk => by rw [l5]; exact r3 hk, fun hk => by rw [l6]; exact r4 hk, fun hk => by rw [l4]; exact r5 hk⟩

end Go.And
