/- The plain law of inclusion constraints: what the solver's steps keep, and that its end is the least solution. Of no program. -/
import Derived.Test.YtkfhopnolflchaaGa
namespace Go.And

/-- A constraint. -/
structure C where
  k : Nat
  a : Nat
  b : Nat
  f : Nat
  s : List Nat
structure Syst where
  vars : Nat
  sites : Nat
  fields : Nat
  cons : List C
def Syst.cell (S : Syst) (y f : Nat) : Nat := S.vars + y * S.fields + f
def Syst.N (S : Syst) : Nat := S.vars + S.sites * S.fields

/-- A constraint of a valid system. -/
structure C.Ok (S : Syst) (c : C) : Prop where
  kind : 1 ≤ c.k ∧ c.k ≤ 5
  a : if c.k = 1 then c.a < S.sites else c.a < S.vars
  b : c.b < S.vars
  f : (c.k = 3 ∨ c.k = 4) → c.f < S.fields
  f0 : c.k ≠ 3 → c.k ≠ 4 → c.f = 0
  s : ∀ x ∈ c.s, x < S.sites
  s0 : c.k ≠ 5 → c.s = []
def Syst.Ok (S : Syst) : Prop := ∀ c ∈ S.cons, c.Ok S

theorem Syst.cell_lt {S : Syst} {y f : Nat} (hy : y < S.sites) (hf : f < S.fields) : S.cell y f < S.N := by
  unfold Syst.cell Syst.N
  have : y * S.fields + S.fields ≤ S.sites * S.fields := by
    have := Nat.mul_le_mul_right S.fields (Nat.succ_le_of_lt hy)
    rwa [Nat.succ_mul] at this
  omega

/-- What a constraint asks of an assignment. -/
def Holds (S : Syst) (p : Nat → Nat → Prop) (c : C) : Prop :=
  (c.k = 1 → p c.b c.a) ∧ (c.k = 2 → ∀ x, p c.a x → p c.b x) ∧ (c.k = 3 → ∀ y, p c.a y → ∀ x, p (S.cell y c.f) x → p c.b x) ∧
  (c.k = 4 → ∀ y, p c.b y → ∀ x, p c.a x → p (S.cell y c.f) x) ∧ (c.k = 5 → ∀ x, p c.a x → x ∈ c.s → p c.b x)
def Shut (S : Syst) (p : Nat → Nat → Prop) : Prop := ∀ c ∈ S.cons, Holds S p c
/-- The least solution. -/
def Pts (S : Syst) (i x : Nat) : Prop := ∀ p, Shut S p → p i x

theorem Pts.least {S : Syst} {p : Nat → Nat → Prop} (h : Shut S p) {i x : Nat} (hx : Pts S i x) : p i x := hx p h
theorem pts_shut (S : Syst) : Shut S (Pts S) := fun c hc =>
  ⟨fun hk _ hp => (hp c hc).1 hk, fun hk x hx p hp => (hp c hc).2.1 hk x (hx p hp), fun hk y hy x hx p hp => (hp c hc).2.2.1 hk y (hy p hp) x (hx p hp),
   fun hk y hy x hx p hp => (hp c hc).2.2.2.1 hk y (hy p hp) x (hx p hp), fun hk x hx hs p hp => (hp c hc).2.2.2.2 hk x (hx p hp) hs⟩
theorem pts_bound {S : Syst} (hS : S.Ok) {i x : Nat} (h : Pts S i x) : i < S.N ∧ x < S.sites := by
  have hv : ∀ j, j < S.vars → j < S.N := fun j hj => by unfold Syst.N; omega
  refine h (fun i x => i < S.N ∧ x < S.sites) fun c hc => ?_
  have ok := hS c hc
  refine ⟨fun hk => ⟨hv _ ok.b, ?_⟩, fun hk x hx => ⟨hv _ ok.b, hx.2⟩, fun hk y hy x hx => ⟨hv _ ok.b, hx.2⟩, fun hk y hy x hx => ⟨Syst.cell_lt hy.2 (ok.f (.inr hk)), hx.2⟩, fun hk x hx _ => ⟨hv _ ok.b, hx.2⟩⟩
  have := ok.a; rwa [if_pos hk] at this

/-! ### The solver's state -/
structure St where
  p : Nat → Nat → Bool
  f : Nat → Nat → Bool
  cp : Nat → List Nat
  pt : Nat → List (Nat × (Nat → Bool))
  ld : Nat → List C
  sr : Nat → List C
  q : Nat → Bool
  todo : List Nat
def upd {α : Type} (g : Nat → α) (i : Nat) (v : α) : Nat → α := fun j => if j = i then v else g j
theorem upd_same {α : Type} (g : Nat → α) (i : Nat) (v : α) : upd g i v i = v := by simp [upd]
theorem upd_other {α : Type} (g : Nat → α) (i : Nat) (v : α) {j : Nat} (h : j ≠ i) : upd g i v j = g j := by simp [upd, h]

/-- put: it adds the elements of a set to a node. -/
def Put (i : Nat) (s : Nat → Bool) (a b : St) : Prop :=
  ((∀ x, s x = true → a.p i x = true) ∧ b = a) ∨
  ((∃ x, s x = true ∧ a.p i x = false) ∧ b = { a with p := upd a.p i (fun x => a.p i x || (s x && !a.p i x)), f := upd a.f i (fun x => a.f i x || (s x && !a.p i x)), q := upd a.q i true, todo := if a.q i = true then a.todo else a.todo ++ [i] })
/-- join: an edge, and what it passes at once. -/
def Join (i t : Nat) (a b : St) : Prop := Put t (a.p i) { a with cp := upd a.cp i (a.cp i ++ [t]) } b

structure Inv (S : Syst) (done : List C) (st : St) (gc gp gl : Nat → Nat → Prop) (pend : List Nat) : Prop where
  fsub : ∀ i x, st.f i x = true → st.p i x = true
  snd : ∀ i x, st.p i x = true → Pts S i x
  cpS : ∀ i t, t ∈ st.cp i → i < S.N ∧ t < S.N ∧ ∀ x, Pts S i x → Pts S t x
  cpC : ∀ i t, t ∈ st.cp i → ∀ x, st.p i x = true → st.f i x = false → ¬ gc i x → st.p t x = true
  ptS : ∀ i e, e ∈ st.pt i → i < S.vars ∧ e.1 < S.vars ∧ ∀ x, Pts S i x → e.2 x = true → Pts S e.1 x
  ptC : ∀ i e, e ∈ st.pt i → ∀ x, st.p i x = true → st.f i x = false → ¬ gp i x → e.2 x = true → st.p e.1 x = true
  ldS : ∀ i c, c ∈ st.ld i → c ∈ S.cons ∧ c.k = 3 ∧ c.a = i
  ldC : ∀ i c, c ∈ st.ld i → ∀ y, st.p i y = true → st.f i y = false → ¬ gl i y → c.b ∈ st.cp (S.cell y c.f)
  srS : ∀ i c, c ∈ st.sr i → c ∈ S.cons ∧ c.k = 4 ∧ c.b = i
  srC : ∀ i c, c ∈ st.sr i → ∀ y, st.p i y = true → st.f i y = false → ¬ gl i y → S.cell y c.f ∈ st.cp c.a
  reg : ∀ c ∈ done, (c.k = 1 → st.p c.b c.a = true) ∧ (c.k = 2 → c.b ∈ st.cp c.a) ∧ (c.k = 3 → ∃ d ∈ st.ld c.a, d.b = c.b ∧ d.f = c.f) ∧ (c.k = 4 → ∃ d ∈ st.sr c.b, d.a = c.a ∧ d.f = c.f) ∧ (c.k = 5 → ∃ e ∈ st.pt c.a, e.1 = c.b ∧ ∀ x, x ∈ c.s → e.2 x = true)
  qf : ∀ i x, st.f i x = true → st.q i = true
  qt : ∀ i, st.q i = true ↔ i ∈ st.todo ++ pend
  nd : (st.todo ++ pend).Nodup
  lt : ∀ i ∈ st.todo ++ pend, i < S.N

theorem Put.le {i : Nat} {s : Nat → Bool} {a b : St} (h : Put i s a b) : (∀ j x, a.p j x = true → b.p j x = true) ∧ (∀ x, s x = true → b.p i x = true) ∧ b.cp = a.cp ∧ b.pt = a.pt ∧ b.ld = a.ld ∧ b.sr = a.sr := by
  rcases h with ⟨h1, rfl⟩ | ⟨-, rfl⟩
  · exact ⟨fun _ _ h => h, h1, rfl, rfl, rfl, rfl⟩
  · refine ⟨fun j x hj => ?_, fun x hx => ?_, rfl, rfl, rfl, rfl⟩
    · by_cases e : j = i
      · subst e; simp [upd, hj]
      · simp [upd, e, hj]
    · simp only [upd_same]; cases a.p i x <;> simp [hx]
/-- What is new is fresh. -/
theorem Put.new {i : Nat} {s : Nat → Bool} {a b : St} (h : Put i s a b) (j x : Nat) (hp : b.p j x = true) (hf : b.f j x = false) : a.p j x = true ∧ a.f j x = false := by
  rcases h with ⟨-, rfl⟩ | ⟨-, rfl⟩
  · exact ⟨hp, hf⟩
  · by_cases e : j = i
    · subst e
      simp only [upd_same] at hp hf
      cases h1 : a.p j x <;> cases h2 : a.f j x <;> cases h3 : s x <;> simp [h1, h2, h3] at hp hf ⊢
    · simp only [upd_other _ _ _ e] at hp hf; exact ⟨hp, hf⟩
/-- Where the node is another one, or gets nothing. -/
theorem Put.self {i : Nat} {a b : St} (h : Put i (a.p i) a b) : b = a := by
  rcases h with ⟨-, rfl⟩ | ⟨⟨x, h1, h2⟩, -⟩
  · rfl
  · rw [h1] at h2; cases h2
theorem Put.other {i j : Nat} {s : Nat → Bool} {a b : St} (h : Put i s a b) (hj : j ≠ i) : b.p j = a.p j := by
  rcases h with ⟨-, rfl⟩ | ⟨-, rfl⟩
  · rfl
  · exact upd_other _ _ _ hj

theorem Inv.put {S : Syst} {done : List C} {a b : St} {gc gp gl : Nat → Nat → Prop} {pend : List Nat} (h : Inv S done a gc gp gl pend) {i : Nat} {s : Nat → Bool} (hi : i < S.N) (hs : ∀ x, s x = true → Pts S i x) (hp : Put i s a b) : Inv S done b gc gp gl pend := by
  obtain ⟨l1, l2, l3, l4, l5, l6⟩ := hp.le
  have hn := hp.new
  have key : (∀ j x, b.f j x = true → b.p j x = true) ∧ (∀ j x, b.p j x = true → Pts S j x) ∧ (∀ j x, b.f j x = true → b.q j = true) ∧ (∀ j, b.q j = true ↔ j ∈ b.todo ++ pend) ∧ (b.todo ++ pend).Nodup ∧ ∀ j ∈ b.todo ++ pend, j < S.N := by
    rcases hp with ⟨-, rfl⟩ | ⟨-, rfl⟩
    · exact ⟨h.fsub, h.snd, h.qf, h.qt, h.nd, h.lt⟩
    · have hmem : ∀ j, j ∈ (if a.q i = true then a.todo else a.todo ++ [i]) ++ pend ↔ (j ∈ a.todo ++ pend ∨ j = i) := by
        intro j
        by_cases e : a.q i = true
        · rw [if_pos e]
          constructor
          · exact .inl
          · rintro (h1 | rfl)
            · exact h1
            · exact (h.qt j).1 e
        · rw [if_neg e]
          simp only [List.mem_append, List.mem_singleton]
          constructor
          · rintro ((h1 | h1) | h1)
            · exact .inl (.inl h1)
            · exact .inr h1
            · exact .inl (.inr h1)
          · rintro ((h1 | h1) | h1)
            · exact .inl (.inl h1)
            · exact .inr h1
            · exact .inl (.inr h1)
      refine ⟨fun j x hf => ?_, fun j x hx => ?_, fun j x hf => ?_, fun j => ?_, ?_, fun j hj => ?_⟩
      · by_cases e : j = i
        · subst e
          simp only [upd_same] at hf ⊢
          cases h1 : a.p j x
          · simp only [h1, Bool.not_false, Bool.and_true, Bool.false_or] at hf ⊢
            cases h2 : a.f j x
            · simpa [h2] using hf
            · have := h.fsub j x h2; rw [h1] at this; cases this
          · simp
        · simp only [upd_other _ _ _ e] at hf ⊢; exact h.fsub j x hf
      · by_cases e : j = i
        · subst e
          simp only [upd_same] at hx
          cases h1 : a.p j x
          · simp only [h1, Bool.not_false, Bool.and_true, Bool.false_or] at hx; exact hs x hx
          · exact h.snd j x h1
        · simp only [upd_other _ _ _ e] at hx; exact h.snd j x hx
      · by_cases e : j = i
        · subst e; simp [upd]
        · simp only [upd_other _ _ _ e] at hf ⊢; exact h.qf j x hf
      · rw [hmem]
        by_cases e : j = i
        · subst e; simp [upd]
        · simp only [upd_other _ _ _ e, e, or_false]; exact h.qt j
      · show ((if a.q i = true then a.todo else a.todo ++ [i]) ++ pend).Nodup
        by_cases e : a.q i = true
        · rw [if_pos e]; exact h.nd
        · rw [if_neg e]
          have hni : i ∉ a.todo ++ pend := fun hm => e ((h.qt i).2 hm)
          have hd := h.nd
          rw [List.nodup_append] at hd ⊢
          simp only [List.mem_append, not_or] at hni
          refine ⟨?_, hd.2.1, ?_⟩
          · rw [List.nodup_append]
            exact ⟨hd.1, by simp, fun x hx y hy => by simp at hy; subst hy; rintro rfl; exact hni.1 hx⟩
          · intro x hx y hy
            rcases List.mem_append.1 hx with h1 | h1
            · exact hd.2.2 x h1 y hy
            · simp at h1; subst h1; rintro rfl; exact hni.2 hy
      · rcases (hmem j).1 hj with h1 | rfl
        · exact h.lt j h1
        · exact hi
  obtain ⟨k1, k2, k3, k4, k5, k6⟩ := key
  refine ⟨k1, k2, fun j t ht => h.cpS j t (by rwa [l3] at ht), fun j t ht x hx hf hg => ?_, fun j e he => h.ptS j e (by rwa [l4] at he), fun j e he x hx hf hg hex => ?_, fun j c hc => h.ldS j c (by rwa [l5] at hc), fun j c hc y hy hf hg => ?_, fun j c hc => h.srS j c (by rwa [l6] at hc), fun j c hc y hy hf hg => ?_, fun c hc => ?_, k3, k4, k5, k6⟩
  · obtain ⟨q1, q2⟩ := hn j x hx hf
    exact l1 _ _ (h.cpC j t (by rwa [l3] at ht) x q1 q2 hg)
  · obtain ⟨q1, q2⟩ := hn j x hx hf
    exact l1 _ _ (h.ptC j e (by rwa [l4] at he) x q1 q2 hg hex)
  · obtain ⟨q1, q2⟩ := hn j y hy hf
    rw [l3]; exact h.ldC j c (by rwa [l5] at hc) y q1 q2 hg
  · obtain ⟨q1, q2⟩ := hn j y hy hf
    rw [l3]; exact h.srC j c (by rwa [l6] at hc) y q1 q2 hg
  · obtain ⟨r1, r2, r3, r4, r5⟩ := h.reg c hc
    exact ⟨fun hk => l1 _ _ (r1 hk), fun hk => by rw [l3]; exact r2 hk, fun hk => by rw [l5]; exact r3 hk, fun hk => by rw [l6]; exact r4 hk, fun hk => by rw [l4]; exact r5 hk⟩

end Go.And

/- The plain law of inclusion constraints, continued: the steps of the solver. Of no program. -/
namespace Go.And

def No : Nat → Nat → Prop := fun _ _ => False

section
variable {S : Syst} {done : List C} {a b : St} {gc gp gl : Nat → Nat → Prop} {pend : List Nat}

theorem Inv.weaken (h : Inv S done a gc gp gl pend) {gc' gp' gl' : Nat → Nat → Prop} (h1 : ∀ i x, gc i x → gc' i x) (h2 : ∀ i x, gp i x → gp' i x) (h3 : ∀ i x, gl i x → gl' i x) : Inv S done a gc' gp' gl' pend :=
  ⟨h.fsub, h.snd, h.cpS, fun i t ht x hx hf hg => h.cpC i t ht x hx hf fun k => hg (h1 i x k), h.ptS, fun i e he x hx hf hg => h.ptC i e he x hx hf fun k => hg (h2 i x k), h.ldS,
   fun i c hc y hy hf hg => h.ldC i c hc y hy hf fun k => hg (h3 i y k), h.srS, fun i c hc y hy hf hg => h.srC i c hc y hy hf fun k => hg (h3 i y k), h.reg, h.qf, h.qt, h.nd, h.lt⟩

/-- An edge along which all has been passed. -/
theorem Inv.edge (h : Inv S done a gc gp gl pend) {i t : Nat} (hi : i < S.N) (ht : t < S.N) (hs : ∀ x, Pts S i x → Pts S t x) (hp : ∀ x, a.p i x = true → a.p t x = true) :
    Inv S done { a with cp := upd a.cp i (a.cp i ++ [t]) } gc gp gl pend := by
  have hm : ∀ j u, u ∈ upd a.cp i (a.cp i ++ [t]) j ↔ (u ∈ a.cp j ∨ (j = i ∧ u = t)) := by
    intro j u
    by_cases e : j = i
    · subst e; simp [upd]
    · simp [upd, e]
  refine ⟨h.fsub, h.snd, fun j u hu => ?_, fun j u hu x hx hf hg => ?_, h.ptS, h.ptC, h.ldS, fun j c hc y hy hf hg => (hm _ _).2 (.inl (h.ldC j c hc y hy hf hg)), h.srS, fun j c hc y hy hf hg => (hm _ _).2 (.inl (h.srC j c hc y hy hf hg)), fun c hc => ?_, h.qf, h.qt, h.nd, h.lt⟩
  · rcases (hm j u).1 hu with h1 | ⟨rfl, rfl⟩
    · exact h.cpS j u h1
    · exact ⟨hi, ht, hs⟩
  · rcases (hm j u).1 hu with h1 | ⟨rfl, rfl⟩
    · exact h.cpC j u h1 x hx hf hg
    · exact hp x hx
  · obtain ⟨r1, r2, r3, r4, r5⟩ := h.reg c hc
    exact ⟨r1, fun hk => (hm _ _).2 (.inl (r2 hk)), r3, r4, r5⟩

theorem Join.parts {i t : Nat} (h : Join i t a b) : ∃ m, Put t (a.p i) a m ∧ b = { m with cp := upd m.cp i (m.cp i ++ [t]) } := by
  rcases h with ⟨h1, rfl⟩ | ⟨h1, rfl⟩
  · exact ⟨a, .inl ⟨h1, rfl⟩, rfl⟩
  · exact ⟨_, .inr ⟨h1, rfl⟩, rfl⟩
theorem Inv.join (h : Inv S done a gc gp gl pend) {i t : Nat} (hi : i < S.N) (ht : t < S.N) (hs : ∀ x, Pts S i x → Pts S t x) (hj : Join i t a b) : Inv S done b gc gp gl pend := by
  obtain ⟨m, hm, rfl⟩ := hj.parts
  have h1 := h.put ht (fun x hx => hs x (h.snd i x hx)) hm
  refine h1.edge hi ht hs fun x hx => ?_
  by_cases e : i = t
  · subst e; exact hx
  · rw [hm.other e] at hx; exact hm.le.2.1 x hx
theorem Join.le {i t : Nat} (h : Join i t a b) : (∀ j x, a.p j x = true → b.p j x = true) ∧ (∀ j u, u ∈ a.cp j → u ∈ b.cp j) ∧ t ∈ b.cp i ∧ b.pt = a.pt ∧ b.ld = a.ld ∧ b.sr = a.sr := by
  obtain ⟨m, hm, rfl⟩ := h.parts
  obtain ⟨l1, -, l3, l4, l5, l6⟩ := hm.le
  refine ⟨l1, fun j u hu => ?_, by simp [upd], l4, l5, l6⟩
  by_cases e : j = i
  · subst e; simp [upd, l3, hu]
  · simp [upd, e, l3, hu]
theorem Join.new {i t : Nat} (h : Join i t a b) (j x : Nat) (hp : b.p j x = true) (hf : b.f j x = false) : a.p j x = true ∧ a.f j x = false := by
  obtain ⟨m, hm, rfl⟩ := h.parts
  exact hm.new j x hp hf
/-- A join does not look at what is registered. -/
theorem Join.reg {i t : Nat} (h : Join i t a b) (l s : Nat → List C) : Join i t { a with ld := l, sr := s } { b with ld := l, sr := s } := by
  rcases h with ⟨h1, rfl⟩ | ⟨h1, rfl⟩
  · exact .inl ⟨h1, rfl⟩
  · exact .inr ⟨h1, rfl⟩

def Joins : List (Nat × Nat) → St → St → Prop
  | [], a, b => b = a
  | e :: r, a, b => ∃ m, Join e.1 e.2 a m ∧ Joins r m b
def Puts : List (Nat × (Nat → Bool)) → St → St → Prop
  | [], a, b => b = a
  | e :: r, a, b => ∃ m, Put e.1 e.2 a m ∧ Puts r m b

theorem Joins.snoc : ∀ {l : List (Nat × Nat)} {e : Nat × Nat} {a m b : St}, Joins l a m → Join e.1 e.2 m b → Joins (l ++ [e]) a b
  | [], e, a, m, b, h, hj => by cases h; exact ⟨b, hj, rfl⟩
  | x :: l, e, a, m, b, ⟨m', h1, h2⟩, hj => ⟨m', h1, Joins.snoc h2 hj⟩
theorem Joins.append : ∀ {l r : List (Nat × Nat)} {a m b : St}, Joins l a m → Joins r m b → Joins (l ++ r) a b
  | [], r, a, m, b, h, hj => by cases h; exact hj
  | x :: l, r, a, m, b, ⟨m', h1, h2⟩, hj => ⟨m', h1, Joins.append h2 hj⟩
theorem Puts.snoc : ∀ {l : List (Nat × (Nat → Bool))} {e : Nat × (Nat → Bool)} {a m b : St}, Puts l a m → Put e.1 e.2 m b → Puts (l ++ [e]) a b
  | [], e, a, m, b, h, hj => by cases h; exact ⟨b, hj, rfl⟩
  | x :: l, e, a, m, b, ⟨m', h1, h2⟩, hj => ⟨m', h1, Puts.snoc h2 hj⟩

theorem Joins.le : ∀ {l : List (Nat × Nat)} {a b : St}, Joins l a b → (∀ j x, a.p j x = true → b.p j x = true) ∧ (∀ j u, u ∈ a.cp j → u ∈ b.cp j) ∧ (∀ e ∈ l, e.2 ∈ b.cp e.1) ∧ b.pt = a.pt ∧ b.ld = a.ld ∧ b.sr = a.sr
  | [], a, b, h => by cases h; exact ⟨fun _ _ h => h, fun _ _ h => h, fun e he => (by cases he), rfl, rfl, rfl⟩
  | e :: l, a, b, ⟨m, h1, h2⟩ => by
    obtain ⟨a1, a2, a3, a4, a5, a6⟩ := h1.le
    obtain ⟨b1, b2, b3, b4, b5, b6⟩ := Joins.le h2
    refine ⟨fun j x h => b1 j x (a1 j x h), fun j u h => b2 j u (a2 j u h), fun d hd => ?_, b4.trans a4, b5.trans a5, b6.trans a6⟩
    rcases List.mem_cons.1 hd with rfl | hd
    · exact b2 _ _ a3
    · exact b3 d hd
theorem Joins.new : ∀ {l : List (Nat × Nat)} {a b : St}, Joins l a b → ∀ j x, b.p j x = true → b.f j x = false → a.p j x = true ∧ a.f j x = false
  | [], a, b, h, j, x, h1, h2 => by cases h; exact ⟨h1, h2⟩
  | e :: l, a, b, ⟨m, h1, h2⟩, j, x, hp, hf => by
    obtain ⟨q1, q2⟩ := Joins.new h2 j x hp hf
    exact h1.new j x q1 q2
theorem Joins.reg : ∀ {l : List (Nat × Nat)} {a b : St}, Joins l a b → ∀ (u s : Nat → List C), Joins l { a with ld := u, sr := s } { b with ld := u, sr := s }
  | [], a, b, h, u, s => by cases h; rfl
  | e :: l, a, b, ⟨m, h1, h2⟩, u, s => ⟨_, h1.reg u s, Joins.reg h2 u s⟩
theorem Inv.joins : ∀ {l : List (Nat × Nat)} {a b : St}, Inv S done a gc gp gl pend → (∀ e ∈ l, e.1 < S.N ∧ e.2 < S.N ∧ ∀ x, Pts S e.1 x → Pts S e.2 x) → Joins l a b → Inv S done b gc gp gl pend
  | [], a, b, h, _, hj => by cases hj; exact h
  | e :: l, a, b, h, hl, ⟨m, h1, h2⟩ => by
    obtain ⟨q1, q2, q3⟩ := hl e (by simp)
    exact Inv.joins (h.join q1 q2 q3 h1) (fun d hd => hl d (by simp [hd])) h2
theorem Puts.le : ∀ {l : List (Nat × (Nat → Bool))} {a b : St}, Puts l a b → (∀ j x, a.p j x = true → b.p j x = true) ∧ (∀ e ∈ l, ∀ x, e.2 x = true → b.p e.1 x = true) ∧ b.cp = a.cp ∧ b.pt = a.pt ∧ b.ld = a.ld ∧ b.sr = a.sr
  | [], a, b, h => by cases h; exact ⟨fun _ _ h => h, fun e he => (by cases he), rfl, rfl, rfl, rfl⟩
  | e :: l, a, b, ⟨m, h1, h2⟩ => by
    obtain ⟨a1, a2, a3, a4, a5, a6⟩ := h1.le
    obtain ⟨b1, b2, b3, b4, b5, b6⟩ := Puts.le h2
    refine ⟨fun j x h => b1 j x (a1 j x h), fun d hd x hx => ?_, b3.trans a3, b4.trans a4, b5.trans a5, b6.trans a6⟩
    rcases List.mem_cons.1 hd with rfl | hd
    · exact b1 _ _ (a2 x hx)
    · exact b2 d hd x hx
theorem Puts.new : ∀ {l : List (Nat × (Nat → Bool))} {a b : St}, Puts l a b → ∀ j x, b.p j x = true → b.f j x = false → a.p j x = true ∧ a.f j x = false
  | [], a, b, h, j, x, h1, h2 => by cases h; exact ⟨h1, h2⟩
  | e :: l, a, b, ⟨m, h1, h2⟩, j, x, hp, hf => by
    obtain ⟨q1, q2⟩ := Puts.new h2 j x hp hf
    exact h1.new j x q1 q2
theorem Inv.puts : ∀ {l : List (Nat × (Nat → Bool))} {a b : St}, Inv S done a gc gp gl pend → (∀ e ∈ l, e.1 < S.N ∧ ∀ x, e.2 x = true → Pts S e.1 x) → Puts l a b → Inv S done b gc gp gl pend
  | [], a, b, h, _, hj => by cases hj; exact h
  | e :: l, a, b, h, hl, ⟨m, h1, h2⟩ => by
    obtain ⟨q1, q2⟩ := hl e (by simp)
    exact Inv.puts (h.put q1 q2 h1) (fun d hd => hl d (by simp [hd])) h2

/-! ### Registering -/
theorem Inv.start (S : Syst) : Inv S [] ⟨fun _ _ => false, fun _ _ => false, fun _ => [], fun _ => [], fun _ => [], fun _ => [], fun _ => false, []⟩ No No No [] := by
  refine ⟨?_, ?_, ?_, ?_, ?_, ?_, ?_, ?_, ?_, ?_, ?_, ?_, ?_, ?_, ?_⟩ <;> simp

theorem Inv.regs (h : Inv S done a gc gp gl pend) {c : C} (hr : (c.k = 1 → a.p c.b c.a = true) ∧ (c.k = 2 → c.b ∈ a.cp c.a) ∧ (c.k = 3 → ∃ d ∈ a.ld c.a, d.b = c.b ∧ d.f = c.f) ∧ (c.k = 4 → ∃ d ∈ a.sr c.b, d.a = c.a ∧ d.f = c.f) ∧ (c.k = 5 → ∃ e ∈ a.pt c.a, e.1 = c.b ∧ ∀ x, x ∈ c.s → e.2 x = true)) :
    Inv S (done ++ [c]) a gc gp gl pend :=
  ⟨h.fsub, h.snd, h.cpS, h.cpC, h.ptS, h.ptC, h.ldS, h.ldC, h.srS, h.srC, fun d hd => by
    rcases List.mem_append.1 hd with h1 | h1
    · exact h.reg d h1
    · simp at h1; subst h1; exact hr, h.qf, h.qt, h.nd, h.lt⟩
/-- A constraint with the same numbers has been registered before. -/
theorem Inv.again (h : Inv S done a gc gp gl pend) {c d : C} (hd : d ∈ done) (hk : c.k = d.k) (ha : c.a = d.a) (hb : c.b = d.b) (hf : c.f = d.f) (h5 : c.k ≠ 5) : Inv S (done ++ [c]) a gc gp gl pend := by
  obtain ⟨r1, r2, r3, r4, r5⟩ := h.reg d hd
  refine h.regs ⟨fun k => ?_, fun k => ?_, fun k => ?_, fun k => ?_, fun k => absurd k h5⟩
  · rw [ha, hb]; exact r1 (by omega)
  · rw [ha, hb]; exact r2 (by omega)
  · rw [ha, hb, hf]; exact r3 (by omega)
  · rw [ha, hb, hf]; exact r4 (by omega)

theorem vN {i : Nat} (h : i < S.vars) : i < S.N := by unfold Syst.N; omega

theorem Inv.addr (h : Inv S done a gc gp gl pend) (hS : S.Ok) {c : C} (hc : c ∈ S.cons) (hk : c.k = 1) {s : Nat → Bool} (hs : ∀ x, s x = true ↔ x = c.a) (hp : Put c.b s a b) : Inv S (done ++ [c]) b gc gp gl pend := by
  refine (h.put (vN (hS c hc).b) (fun x hx => ?_) hp).regs ⟨fun _ => hp.le.2.1 _ ((hs _).2 rfl), fun k => by omega, fun k => by omega, fun k => by omega, fun k => by omega⟩
  rw [hs] at hx; subst hx; exact (pts_shut S c hc).1 hk
theorem Inv.copy (h : Inv S done a gc gp gl pend) (hS : S.Ok) {c : C} (hc : c ∈ S.cons) (hk : c.k = 2) (hj : Join c.a c.b a b) : Inv S (done ++ [c]) b gc gp gl pend := by
  have ok := hS c hc
  have ha := ok.a
  rw [if_neg (by omega)] at ha
  exact (h.join (vN ha) (vN ok.b) ((pts_shut S c hc).2.1 hk) hj).regs ⟨fun k => by omega, fun _ => hj.le.2.2.1, fun k => by omega, fun k => by omega, fun k => by omega⟩
/-- A load: it is registered, and joins what its variable has. -/
theorem Inv.load (h : Inv S done a gc gp gl pend) (hS : S.Ok) {c : C} (hc : c ∈ S.cons) (hk : c.k = 3) {L : List Nat} (hL : ∀ y, a.p c.a y = true → y ∈ L) (hL2 : ∀ y ∈ L, a.p c.a y = true)
    (hj : Joins (L.map fun y => (S.cell y c.f, c.b)) { a with ld := upd a.ld c.a (a.ld c.a ++ [c]) } b) : Inv S (done ++ [c]) b gc gp gl pend := by
  have ok := hS c hc
  have hj2 := hj.reg a.ld a.sr
  have e1 : ({ { a with ld := upd a.ld c.a (a.ld c.a ++ [c]) } with ld := a.ld, sr := a.sr } : St) = a := rfl
  rw [e1] at hj2
  have hsys : ∀ y, Pts S c.a y → ∀ x, Pts S (S.cell y c.f) x → Pts S c.b x := (pts_shut S c hc).2.2.1 hk
  have h1 := h.joins (fun e he => by
    obtain ⟨y, hy, rfl⟩ := List.mem_map.1 he
    have hp := h.snd _ _ (hL2 y hy)
    exact ⟨Syst.cell_lt (pts_bound hS hp).2 (ok.f (.inl hk)), vN ok.b, hsys y hp⟩) hj2
  obtain ⟨l1, l2, l3, l4, l5, l6⟩ := hj2.le
  have hn := hj2.new
  have hld : b.ld = upd a.ld c.a (a.ld c.a ++ [c]) := hj.le.2.2.2.2.1
  have hm : ∀ j d, d ∈ b.ld j ↔ (d ∈ a.ld j ∨ (j = c.a ∧ d = c)) := by
    intro j d
    rw [hld]
    by_cases e : j = c.a
    · subst e; simp [upd]
    · simp [upd, e]
  have hsr : b.sr = a.sr := hj.le.2.2.2.2.2
  have h2 : Inv S done b gc gp gl pend := by
    refine ⟨h1.fsub, h1.snd, h1.cpS, h1.cpC, h1.ptS, h1.ptC, fun j d hd => ?_, fun j d hd y hy hf hg => ?_, fun j d hd => h.srS j d (by rwa [hsr] at hd), fun j d hd y hy hf hg => h1.srC j d (by rw [hsr] at hd; exact hd) y hy hf hg, fun d hd => ?_, h1.qf, h1.qt, h1.nd, h1.lt⟩
    · rcases (hm j d).1 hd with q | ⟨rfl, rfl⟩
      · exact h.ldS j d q
      · exact ⟨hc, hk, rfl⟩
    · rcases (hm j d).1 hd with q | ⟨rfl, rfl⟩
      · exact h1.ldC j d q y hy hf hg
      · have := hn d.a y hy hf
        exact l3 _ (List.mem_map.2 ⟨y, hL y this.1, rfl⟩)
    · obtain ⟨r1, r2, r3, r4, r5⟩ := h1.reg d hd
      refine ⟨r1, r2, fun k => ?_, fun k => by rw [hsr]; exact r4 k, r5⟩
      obtain ⟨e, he, he2⟩ := r3 k
      exact ⟨e, (hm _ _).2 (.inl he), he2⟩
  exact h2.regs ⟨fun k => by omega, fun k => by omega, fun _ => ⟨c, (hm _ _).2 (.inr ⟨rfl, rfl⟩), rfl, rfl⟩, fun k => by omega, fun k => by omega⟩
/-- A store. -/
theorem Inv.store (h : Inv S done a gc gp gl pend) (hS : S.Ok) {c : C} (hc : c ∈ S.cons) (hk : c.k = 4) {L : List Nat} (hL : ∀ y, a.p c.b y = true → y ∈ L) (hL2 : ∀ y ∈ L, a.p c.b y = true)
    (hj : Joins (L.map fun y => (c.a, S.cell y c.f)) { a with sr := upd a.sr c.b (a.sr c.b ++ [c]) } b) : Inv S (done ++ [c]) b gc gp gl pend := by
  have ok := hS c hc
  have ha := ok.a
  rw [if_neg (by omega)] at ha
  have hj2 := hj.reg a.ld a.sr
  have e1 : ({ { a with sr := upd a.sr c.b (a.sr c.b ++ [c]) } with ld := a.ld, sr := a.sr } : St) = a := rfl
  rw [e1] at hj2
  have hsys : ∀ y, Pts S c.b y → ∀ x, Pts S c.a x → Pts S (S.cell y c.f) x := (pts_shut S c hc).2.2.2.1 hk
  have h1 := h.joins (fun e he => by
    obtain ⟨y, hy, rfl⟩ := List.mem_map.1 he
    have hp := h.snd _ _ (hL2 y hy)
    exact ⟨vN ha, Syst.cell_lt (pts_bound hS hp).2 (ok.f (.inr hk)), hsys y hp⟩) hj2
  obtain ⟨l1, l2, l3, l4, l5, l6⟩ := hj2.le
  have hn := hj2.new
  have hsr : b.sr = upd a.sr c.b (a.sr c.b ++ [c]) := hj.le.2.2.2.2.2
  have hm : ∀ j d, d ∈ b.sr j ↔ (d ∈ a.sr j ∨ (j = c.b ∧ d = c)) := by
    intro j d
    rw [hsr]
    by_cases e : j = c.b
    · subst e; simp [upd]
    · simp [upd, e]
  have hld : b.ld = a.ld := hj.le.2.2.2.2.1
  have h2 : Inv S done b gc gp gl pend := by
    refine ⟨h1.fsub, h1.snd, h1.cpS, h1.cpC, h1.ptS, h1.ptC, fun j d hd => h.ldS j d (by rwa [hld] at hd), fun j d hd y hy hf hg => h1.ldC j d (by rw [hld] at hd; exact hd) y hy hf hg, fun j d hd => ?_, fun j d hd y hy hf hg => ?_, fun d hd => ?_, h1.qf, h1.qt, h1.nd, h1.lt⟩
    · rcases (hm j d).1 hd with q | ⟨rfl, rfl⟩
      · exact h.srS j d q
      · exact ⟨hc, hk, rfl⟩
    · rcases (hm j d).1 hd with q | ⟨rfl, rfl⟩
      · exact h1.srC j d q y hy hf hg
      · have := hn d.b y hy hf
        exact l3 _ (List.mem_map.2 ⟨y, hL y this.1, rfl⟩)
    · obtain ⟨r1, r2, r3, r4, r5⟩ := h1.reg d hd
      refine ⟨r1, r2, fun k => by rw [hld]; exact r3 k, fun k => ?_, r5⟩
      obtain ⟨e, he, he2⟩ := r4 k
      exact ⟨e, (hm _ _).2 (.inl he), he2⟩
  exact h2.regs ⟨fun k => by omega, fun k => by omega, fun k => by omega, fun _ => ⟨c, (hm _ _).2 (.inr ⟨rfl, rfl⟩), rfl, rfl⟩, fun k => by omega⟩
/-- A filter. -/
theorem Inv.filter (h : Inv S done a gc gp gl pend) (hS : S.Ok) {c : C} (hc : c ∈ S.cons) (hk : c.k = 5) {s : Nat → Bool} (hs : ∀ x, s x = true ↔ x ∈ c.s)
    (hp : Put c.b (fun x => a.p c.a x && s x) { a with pt := upd a.pt c.a (a.pt c.a ++ [(c.b, s)]) } b) : Inv S (done ++ [c]) b gc gp gl pend := by
  have ok := hS c hc
  have ha := ok.a
  rw [if_neg (by omega)] at ha
  obtain ⟨m, hm, rfl⟩ : ∃ m, Put c.b (fun x => a.p c.a x && s x) a m ∧ b = { m with pt := upd m.pt c.a (m.pt c.a ++ [(c.b, s)]) } := by
    rcases hp with ⟨h1, rfl⟩ | ⟨h1, rfl⟩
    · exact ⟨a, .inl ⟨h1, rfl⟩, rfl⟩
    · exact ⟨_, .inr ⟨h1, rfl⟩, rfl⟩
  have hsys : ∀ x, Pts S c.a x → x ∈ c.s → Pts S c.b x := (pts_shut S c hc).2.2.2.2 hk
  have h1 := h.put (vN ok.b) (fun x hx => by
    simp only [Bool.and_eq_true] at hx
    exact hsys x (h.snd _ _ hx.1) ((hs x).1 hx.2)) hm
  have hmm : ∀ j e, e ∈ upd m.pt c.a (m.pt c.a ++ [(c.b, s)]) j ↔ (e ∈ m.pt j ∨ (j = c.a ∧ e = (c.b, s))) := by
    intro j e
    by_cases q : j = c.a
    · subst q; simp [upd]
    · simp [upd, q]
  have h2 : Inv S done { m with pt := upd m.pt c.a (m.pt c.a ++ [(c.b, s)]) } gc gp gl pend := by
    refine ⟨h1.fsub, h1.snd, h1.cpS, h1.cpC, fun j e he => ?_, fun j e he x hx hf hg hex => ?_, h1.ldS, h1.ldC, h1.srS, h1.srC, fun d hd => ?_, h1.qf, h1.qt, h1.nd, h1.lt⟩
    · rcases (hmm j e).1 he with q | ⟨rfl, rfl⟩
      · exact h1.ptS j e q
      · exact ⟨ha, ok.b, fun x hx hsx => hsys x hx ((hs x).1 hsx)⟩
    · rcases (hmm j e).1 he with q | ⟨rfl, rfl⟩
      · exact h1.ptC j e q x hx hf hg hex
      · have := (hm.new c.a x hx hf).1
        exact hm.le.2.1 x (by simp [this]; exact hex)
    · obtain ⟨r1, r2, r3, r4, r5⟩ := h1.reg d hd
      refine ⟨r1, r2, r3, r4, fun k => ?_⟩
      obtain ⟨e, he, he2⟩ := r5 k
      exact ⟨e, (hmm _ _).2 (.inl he), he2⟩
  exact h2.regs ⟨fun k => by omega, fun k => by omega, fun k => by omega, fun k => by omega, fun _ => ⟨(c.b, s), (hmm _ _).2 (.inr ⟨rfl, rfl⟩), rfl, fun x hx => (hs x).2 hx⟩⟩

end
end Go.And

/- The plain law of inclusion constraints, continued: a visit, how far the solver can go, its end. Of no program. -/
namespace Go.And

/-- visit: what is new in a node is passed on. -/
def Visit (S : Syst) (node : Nat) (L : List Nat) (a b : St) : Prop :=
  ∃ m1, Puts ((a.cp node).map fun t => (t, a.f node)) { a with f := upd a.f node (fun _ => false), q := upd a.q node false } m1 ∧
    ((S.vars ≤ node ∧ b = m1) ∨ (node < S.vars ∧ ∃ m2, Puts ((a.pt node).map fun e => (e.1, fun x => a.f node x && e.2 x)) m1 m2 ∧
      Joins (L.flatMap fun y => ((a.ld node).map fun c => (S.cell y c.f, c.b)) ++ ((a.sr node).map fun c => (c.a, S.cell y c.f))) m2 b))

section
variable {S : Syst} {done : List C} {a b : St} {pend : List Nat}

theorem Inv.visit {node : Nat} {L : List Nat} (h : Inv S done a No No No (node :: pend)) (hS : S.Ok) (hL : ∀ y, a.f node y = true ↔ y ∈ L) (hV : Visit S node L a b) : Inv S done b No No No pend := by
  obtain ⟨m1, hp1, hrest⟩ := hV
  have g : ∀ i x : Nat, (i = node ∧ a.f node x = true) ∨ ¬ (i = node ∧ a.f node x = true) := fun i x => Classical.em _
  have hnN : node < S.N := h.lt node (by simp)
  have hnot : node ∉ a.todo ++ pend := by
    have := h.nd
    rw [List.nodup_append, List.nodup_cons] at this
    intro hm
    rcases List.mem_append.1 hm with h1 | h1
    · exact this.2.2 node h1 node (by simp) rfl
    · exact this.2.1.1 h1
  have h0 : Inv S done { a with f := upd a.f node (fun _ => false), q := upd a.q node false } (fun i x => i = node ∧ a.f node x = true) (fun i x => i = node ∧ a.f node x = true) (fun i x => i = node ∧ a.f node x = true) pend := by
    have hf : ∀ i x, upd a.f node (fun _ => false) i x = false → ¬ (i = node ∧ a.f node x = true) → a.f i x = false := by
      intro i x h1 h2
      by_cases e : i = node
      · subst e
        cases hx : a.f i x
        · rfl
        · exact absurd ⟨rfl, hx⟩ h2
      · rwa [upd_other _ _ _ e] at h1
    refine ⟨fun i x hx => ?_, h.snd, h.cpS, fun i t ht x hx h1 h2 => h.cpC i t ht x hx (hf i x h1 h2) (fun k => k), h.ptS, fun i e he x hx h1 h2 => h.ptC i e he x hx (hf i x h1 h2) (fun k => k), h.ldS,
      fun i c hc y hy h1 h2 => h.ldC i c hc y hy (hf i y h1 h2) (fun k => k), h.srS, fun i c hc y hy h1 h2 => h.srC i c hc y hy (hf i y h1 h2) (fun k => k), h.reg, fun i x hx => ?_, fun i => ?_, ?_, fun i hi => h.lt i ?_⟩
    · by_cases e : i = node
      · subst e; simp [upd] at hx
      · simp only [upd_other _ _ _ e] at hx; exact h.fsub i x hx
    · by_cases e : i = node
      · subst e; simp [upd] at hx
      · simp only [upd_other _ _ _ e] at hx ⊢; exact h.qf i x hx
    · by_cases e : i = node
      · subst e; simp only [upd_same]; constructor
        · intro k; cases k
        · intro k; exact absurd k hnot
      · simp only [upd_other _ _ _ e]
        rw [h.qt i]
        simp [e]
    · have := h.nd
      rw [List.nodup_append, List.nodup_cons] at this
      rw [List.nodup_append]
      exact ⟨this.1, this.2.1.2, fun x hx y hy => this.2.2 x hx y (by simp [hy])⟩
    · rcases List.mem_append.1 hi with h1 | h1
      · exact List.mem_append.2 (.inl h1)
      · exact List.mem_append.2 (.inr (by simp [h1]))
  have h1 := h0.puts (fun e he => by
    obtain ⟨t, ht, rfl⟩ := List.mem_map.1 he
    obtain ⟨c1, c2, c3⟩ := h.cpS node t ht
    exact ⟨c2, fun x hx => c3 x (h.snd _ _ (h.fsub _ _ hx))⟩) hp1
  obtain ⟨l1, l2, l3, l4, l5, l6⟩ := hp1.le
  have h1c : Inv S done m1 No (fun i x => i = node ∧ a.f node x = true) (fun i x => i = node ∧ a.f node x = true) pend := by
    refine ⟨h1.fsub, h1.snd, h1.cpS, fun i t ht x hx hf _ => ?_, h1.ptS, h1.ptC, h1.ldS, h1.ldC, h1.srS, h1.srC, h1.reg, h1.qf, h1.qt, h1.nd, h1.lt⟩
    rcases g i x with hg | hg
    · obtain ⟨rfl, hx2⟩ := hg
      rw [l3] at ht
      exact l2 (t, a.f i) (List.mem_map.2 ⟨t, ht, rfl⟩) x hx2
    · exact h1.cpC i t ht x hx hf hg
  rcases hrest with ⟨hn, rfl⟩ | ⟨hn, m2, hp2, hj⟩
  · refine ⟨h1c.fsub, h1c.snd, h1c.cpS, h1c.cpC, h1c.ptS, fun i e he x hx hf _ => ?_, h1c.ldS, fun i c hc y hy hf _ => ?_, h1c.srS, fun i c hc y hy hf _ => ?_, h1c.reg, h1c.qf, h1c.qt, h1c.nd, h1c.lt⟩
    · refine h1c.ptC i e he x hx hf fun ⟨k, _⟩ => ?_
      have := (h1c.ptS i e he).1; omega
    · refine h1c.ldC i c hc y hy hf fun ⟨k, _⟩ => ?_
      obtain ⟨q1, q2, q3⟩ := h1c.ldS i c hc
      have := (hS c q1).a
      rw [if_neg (by omega)] at this; omega
    · refine h1c.srC i c hc y hy hf fun ⟨k, _⟩ => ?_
      obtain ⟨q1, q2, q3⟩ := h1c.srS i c hc
      have := (hS c q1).b; omega
  · have h2 := h1c.puts (fun e he => by
      obtain ⟨d, hd, rfl⟩ := List.mem_map.1 he
      obtain ⟨c1, c2, c3⟩ := h.ptS node d hd
      exact ⟨vN c2, fun x hx => by
        simp only [Bool.and_eq_true] at hx
        exact c3 x (h.snd _ _ (h.fsub _ _ hx.1)) hx.2⟩) hp2
    obtain ⟨k1, k2, k3, k4, k5, k6⟩ := hp2.le
    have h2p : Inv S done m2 No No (fun i x => i = node ∧ a.f node x = true) pend := by
      refine ⟨h2.fsub, h2.snd, h2.cpS, h2.cpC, h2.ptS, fun i e he x hx hf _ hex => ?_, h2.ldS, h2.ldC, h2.srS, h2.srC, h2.reg, h2.qf, h2.qt, h2.nd, h2.lt⟩
      rcases g i x with hg | hg
      · obtain ⟨rfl, hx2⟩ := hg
        have he2 : e ∈ a.pt i := by rw [k4, l4] at he; exact he
        exact k2 (e.1, fun x => a.f i x && e.2 x) (List.mem_map.2 ⟨e, he2, rfl⟩) x (by simp [hx2, hex])
      · exact h2.ptC i e he x hx hf hg hex
    have hPts : ∀ y ∈ L, Pts S node y := fun y hy => h.snd _ _ (h.fsub _ _ ((hL y).2 hy))
    have h3 := h2p.joins (fun e he => by
      obtain ⟨y, hy, he2⟩ := List.mem_flatMap.1 he
      have hyP := hPts y hy
      have hyb := (pts_bound hS hyP).2
      rcases List.mem_append.1 he2 with he3 | he3
      · obtain ⟨c, hc, rfl⟩ := List.mem_map.1 he3
        obtain ⟨q1, q2, q3⟩ := h.ldS node c hc
        subst q3
        exact ⟨Syst.cell_lt hyb ((hS c q1).f (.inl q2)), vN (hS c q1).b, (pts_shut S c q1).2.2.1 q2 y hyP⟩
      · obtain ⟨c, hc, rfl⟩ := List.mem_map.1 he3
        obtain ⟨q1, q2, q3⟩ := h.srS node c hc
        subst q3
        have ha := (hS c q1).a
        rw [if_neg (by omega)] at ha
        exact ⟨vN ha, Syst.cell_lt hyb ((hS c q1).f (.inr q2)), (pts_shut S c q1).2.2.2.1 q2 y hyP⟩) hj
    obtain ⟨j1, j2, j3, j4, j5, j6⟩ := hj.le
    refine ⟨h3.fsub, h3.snd, h3.cpS, h3.cpC, h3.ptS, h3.ptC, h3.ldS, fun i c hc y hy hf _ => ?_, h3.srS, fun i c hc y hy hf _ => ?_, h3.reg, h3.qf, h3.qt, h3.nd, h3.lt⟩
    · rcases g i y with hg | hg
      · obtain ⟨rfl, hy2⟩ := hg
        have hc2 : c ∈ a.ld i := by rw [j5, k5, l5] at hc; exact hc
        exact j3 (S.cell y c.f, c.b) (List.mem_flatMap.2 ⟨y, (hL y).1 hy2, List.mem_append.2 (.inl (List.mem_map.2 ⟨c, hc2, rfl⟩))⟩)
      · exact h3.ldC i c hc y hy hf hg
    · rcases g i y with hg | hg
      · obtain ⟨rfl, hy2⟩ := hg
        have hc2 : c ∈ a.sr i := by rw [j6, k6, l6] at hc; exact hc
        exact j3 (c.a, S.cell y c.f) (List.mem_flatMap.2 ⟨y, (hL y).1 hy2, List.mem_append.2 (.inr (List.mem_map.2 ⟨c, hc2, rfl⟩))⟩)
      · exact h3.srC i c hc y hy hf hg

/-- The end: nothing waits, so all is closed. -/
theorem Inv.fin (h : Inv S S.cons a No No No []) (ht : a.todo = []) : ∀ i x, a.p i x = true ↔ Pts S i x := by
  have hf : ∀ i x, a.f i x = false := fun i x => by
    cases hx : a.f i x
    · rfl
    · have := (h.qt i).1 (h.qf i x hx)
      rw [ht] at this; cases this
  refine fun i x => ⟨h.snd i x, fun hx => hx.least (p := fun i x => a.p i x = true) fun c hc => ?_⟩
  obtain ⟨r1, r2, r3, r4, r5⟩ := h.reg c hc
  refine ⟨r1, fun k x hx => h.cpC _ _ (r2 k) x hx (hf _ _) (fun k => k), fun k y hy x hx => ?_, fun k y hy x hx => ?_, fun k x hx hs => ?_⟩
  · obtain ⟨d, hd, d1, d2⟩ := r3 k
    have := h.ldC _ d hd y hy (hf _ _) (fun k => k)
    rw [d1, d2] at this
    exact h.cpC _ _ this x hx (hf _ _) (fun k => k)
  · obtain ⟨d, hd, d1, d2⟩ := r4 k
    have := h.srC _ d hd y hy (hf _ _) (fun k => k)
    rw [d1, d2] at this
    exact h.cpC _ _ this x hx (hf _ _) (fun k => k)
  · obtain ⟨e, he, e1, e2⟩ := r5 k
    have := h.ptC _ e he x hx (hf _ _) (fun k => k) (e2 x hs)
    rwa [e1] at this

end

/-! ### How far it goes -/
theorem sum_le {α : Type} (g h : α → Nat) : ∀ (l : List α), (∀ x ∈ l, g x ≤ h x) → (l.map g).sum ≤ (l.map h).sum
  | [], _ => Nat.le_refl _
  | x :: l, hl => by
    have := sum_le g h l fun y hy => hl y (by simp [hy])
    have := hl x (by simp)
    simp; omega
theorem sum_lt {α : Type} (g h : α → Nat) : ∀ (l : List α), (∀ x ∈ l, g x ≤ h x) → (∃ x ∈ l, g x < h x) → (l.map g).sum < (l.map h).sum
  | [], _, ⟨x, hx, _⟩ => by cases hx
  | y :: l, hl, ⟨x, hx, hlt⟩ => by
    rcases List.mem_cons.1 hx with rfl | hx
    · have := sum_le g h l fun y hy => hl y (by simp [hy])
      simp; omega
    · have := sum_lt g h l (fun y hy => hl y (by simp [hy])) ⟨x, hx, hlt⟩
      have := hl y (by simp)
      simp; omega
theorem filter_le (p q : Nat → Bool) : ∀ (l : List Nat), (∀ x ∈ l, p x = true → q x = true) → (l.filter p).length ≤ (l.filter q).length
  | [], _ => Nat.le_refl _
  | x :: l, h => by
    have := filter_le p q l fun y hy => h y (by simp [hy])
    have h1 := h x (by simp)
    cases hp : p x <;> cases hq : q x <;> simp [hp, hq] <;> first | omega | (rw [hp, hq] at h1; simp at h1)
theorem filter_lt (p q : Nat → Bool) : ∀ (l : List Nat), (∀ x ∈ l, p x = true → q x = true) → (∃ x ∈ l, p x = false ∧ q x = true) → (l.filter p).length < (l.filter q).length
  | [], _, ⟨x, hx, _⟩ => by cases hx
  | y :: l, h, ⟨x, hx, h1, h2⟩ => by
    rcases List.mem_cons.1 hx with rfl | hx
    · have := filter_le p q l fun y hy => h y (by simp [hy])
      simp [h1, h2]; omega
    · have := filter_lt p q l (fun y hy => h y (by simp [hy])) ⟨x, hx, h1, h2⟩
      have h3 := h y (by simp)
      cases hp : p y <;> cases hq : q y <;> simp [hp, hq] <;> first | omega | (rw [hp, hq] at h3; simp at h3)

def card (n : Nat) (p : Nat → Bool) : Nat := ((List.range n).filter p).length
theorem card_le (n : Nat) (p : Nat → Bool) : card n p ≤ n := by unfold card; exact Nat.le_trans (List.length_filter_le _ _) (by simp)
/-- How many elements all nodes have. -/
def mass (S : Syst) (st : St) : Nat := ((List.range S.N).map fun i => card S.sites (st.p i)).sum
theorem mass_le (S : Syst) (st : St) : mass S st ≤ S.N * S.sites := by
  have h := sum_le (fun i => card S.sites (st.p i)) (fun _ => S.sites) (List.range S.N) fun i _ => card_le _ _
  have e : ((List.range S.N).map fun _ => S.sites).sum = S.N * S.sites := by
    rw [List.map_const', List.sum_replicate_nat]; simp
  rw [e] at h; exact h

theorem Put.mass {S : Syst} {i : Nat} {s : Nat → Bool} {a b : St} (h : Put i s a b) (hi : i < S.N) (hs : ∀ x, s x = true → x < S.sites) : b.todo.length + Go.And.mass S a ≤ a.todo.length + Go.And.mass S b ∧ Go.And.mass S a ≤ Go.And.mass S b := by
  have hle := h.le.1
  have h1 : Go.And.mass S a ≤ Go.And.mass S b := sum_le _ _ _ fun j _ => filter_le _ _ _ fun x _ => hle j x
  refine ⟨?_, h1⟩
  rcases h with ⟨-, rfl⟩ | ⟨⟨x, hx1, hx2⟩, hb⟩
  · exact Nat.le_refl _
  · have h2 : Go.And.mass S a < Go.And.mass S b := by
      refine sum_lt _ _ _ (fun j _ => filter_le _ _ _ fun x _ => hle j x) ⟨i, List.mem_range.2 hi, filter_lt _ _ _ (fun x _ => hle i x) ⟨x, List.mem_range.2 (hs x hx1), hx2, ?_⟩⟩
      rw [hb]; simp [upd, hx1, hx2]
    have h3 : b.todo.length ≤ a.todo.length + 1 := by
      rw [hb]; show (if a.q i = true then a.todo else a.todo ++ [i]).length ≤ _
      split <;> simp
    omega
theorem Join.mass {S : Syst} {i t : Nat} {a b : St} (h : Join i t a b) (ht : t < S.N) (hs : ∀ x, a.p i x = true → x < S.sites) : b.todo.length + Go.And.mass S a ≤ a.todo.length + Go.And.mass S b ∧ Go.And.mass S a ≤ Go.And.mass S b := by
  obtain ⟨m, hm, rfl⟩ := h.parts
  exact hm.mass ht hs

theorem Put.len {i : Nat} {s : Nat → Bool} {a b : St} (h : Put i s a b) (j : Nat) : (b.cp j).length = (a.cp j).length := by rw [h.le.2.2.1]
theorem Join.len {i t : Nat} {a b : St} (h : Join i t a b) (j : Nat) : (b.cp j).length ≤ (a.cp j).length + 1 := by
  obtain ⟨m, hm, rfl⟩ := h.parts
  show (upd m.cp i (m.cp i ++ [t]) j).length ≤ _
  rw [hm.le.2.2.1]
  by_cases e : j = i
  · subst e; simp [upd]
  · simp [upd, e]

theorem Put.todo {i : Nat} {s : Nat → Bool} {a b : St} (h : Put i s a b) : b.todo.length ≤ a.todo.length + 1 := by
  rcases h with ⟨-, rfl⟩ | ⟨-, rfl⟩
  · omega
  · show (if a.q i = true then a.todo else a.todo ++ [i]).length ≤ _
    split <;> simp
theorem Join.todo {i t : Nat} {a b : St} (h : Join i t a b) : b.todo.length ≤ a.todo.length + 1 := by
  obtain ⟨m, hm, rfl⟩ := h.parts
  exact hm.todo
theorem Joins.todo : ∀ {l : List (Nat × Nat)} {a b : St}, Joins l a b → b.todo.length ≤ a.todo.length + l.length
  | [], a, b, h => by cases h; simp
  | e :: l, a, b, ⟨m, h1, h2⟩ => by
    have := h1.todo
    have := Joins.todo h2
    simp; omega
theorem Joins.len : ∀ {l : List (Nat × Nat)} {a b : St}, Joins l a b → ∀ j, (b.cp j).length ≤ (a.cp j).length + l.length
  | [], a, b, h, j => by cases h; simp
  | e :: l, a, b, ⟨m, h1, h2⟩, j => by
    have := h1.len j
    have := Joins.len h2 j
    simp; omega
theorem Puts.todo : ∀ {l : List (Nat × (Nat → Bool))} {a b : St}, Puts l a b → b.todo.length ≤ a.todo.length + l.length
  | [], a, b, h => by cases h; simp
  | e :: l, a, b, ⟨m, h1, h2⟩ => by
    have := h1.todo
    have := Puts.todo h2
    simp; omega
theorem Join.bnd {i t n : Nat} {a b : St} (h : Join i t a b) (hb : ∀ j x, a.p j x = true → x < n) : ∀ j x, b.p j x = true → x < n := by
  obtain ⟨m, hm, rfl⟩ := h.parts
  intro j x hx
  rcases hm with ⟨-, rfl⟩ | ⟨-, rfl⟩
  · exact hb j x hx
  · by_cases e : j = t
    · subst e
      simp only [upd_same] at hx
      cases h1 : a.p j x
      · simp only [h1, Bool.not_false, Bool.and_true, Bool.false_or] at hx; exact hb i x hx
      · exact hb j x h1
    · simp only [upd_other _ _ _ e] at hx; exact hb j x hx

end Go.And

/- The reference's table of Booleans: plain facts. -/
namespace Go.And
open Go.Dfl (nth nth_mem mem_nth nth_eq nth_set nth_out)

def tg (M : List (List Bool)) (i x : Nat) : Bool := nth (nth M i) x
def tput (M : List (List Bool)) (i x : Nat) : List (List Bool) := M.set i ((nth M i).set x true)
def cntB (M : List (List Bool)) : Nat := (M.map fun r => r.count true).sum
structure Shp (N n : Nat) (M : List (List Bool)) : Prop where
  len : M.length = N
  row : ∀ i, i < N → (nth M i).length = n

theorem sum_set : ∀ (l : List Nat) (i y : Nat) (h : i < l.length), (l.set i y).sum + l[i] = l.sum + y
  | [], _, _, h => by simp at h
  | a :: l, 0, y, _ => by simp; omega
  | a :: l, i + 1, y, h => by
    have := sum_set l i y (by simpa using h)
    simp only [List.set_cons_succ, List.sum_cons, List.getElem_cons_succ]
    omega
theorem count_put : ∀ (r : List Bool) (x : Nat) (h : x < r.length), r[x] = false → (r.set x true).count true = r.count true + 1
  | [], _, h, _ => by simp at h
  | a :: r, 0, _, e => by
    have e' : a = false := e
    subst e'
    simp
  | a :: r, x + 1, h, e => by
    have := count_put r x (by simpa using h) (by simpa using e)
    simp only [List.set_cons_succ, List.count_cons]
    omega
theorem tput_cnt {N n : Nat} {M : List (List Bool)} (h : Shp N n M) {i x : Nat} (hi : i < N) (hx : x < n) (h0 : tg M i x = false) : cntB (tput M i x) = cntB M + 1 := by
  have hi' : i < M.length := by rw [h.len]; exact hi
  have hr := h.row i hi
  unfold cntB tput
  rw [List.map_set]
  have := sum_set (M.map fun r => r.count true) i (((nth M i).set x true).count true) (by simpa using hi')
  rw [List.getElem_map, ← nth_eq _ _ hi', count_put (nth M i) x (by omega) (by rw [← nth_eq _ _ (by omega)]; exact h0)] at this
  rw [count_put (nth M i) x (by omega) (by rw [← nth_eq _ _ (by omega)]; exact h0)]
  omega
theorem cnt_le : ∀ {n : Nat} (M : List (List Bool)), (∀ r ∈ M, r.length = n) → cntB M ≤ M.length * n
  | _, [], _ => by simp [cntB]
  | n, r :: M, h => by
    have h1 := cnt_le M fun r hr => h r (List.mem_cons_of_mem _ hr)
    have h2 : r.count true ≤ r.length := List.count_le_length
    have h3 := h r (by simp)
    have h4 : cntB (r :: M) = r.count true + cntB M := by simp [cntB]
    rw [h4, List.length_cons, Nat.succ_mul]
    omega
theorem Shp.cnt {N n : Nat} {M : List (List Bool)} (h : Shp N n M) : cntB M ≤ N * n := by
  have := cnt_le (n := n) M fun r hr => by
    obtain ⟨i, hi, rfl⟩ := mem_nth hr
    exact h.row i (by rw [← h.len]; exact hi)
  rwa [h.len] at this
theorem tput_shp {N n : Nat} {M : List (List Bool)} (h : Shp N n M) (i x : Nat) : Shp N n (tput M i x) := by
  refine ⟨by simp [tput, h.len], fun j hj => ?_⟩
  unfold tput
  rw [nth_set]
  split
  · rename_i e; rw [List.length_set, h.row i (by rw [e.1]; exact hj)]
  · exact h.row j hj
theorem tg_put {N n : Nat} {M : List (List Bool)} (h : Shp N n M) {i x : Nat} (hi : i < N) (hx : x < n) (j y : Nat) : tg (tput M i x) j y = true ↔ (j = i ∧ y = x) ∨ tg M j y = true := by
  have hi' : i < M.length := by rw [h.len]; exact hi
  have hr := h.row i hi
  unfold tg tput
  rw [nth_set]
  by_cases e : i = j
  · subst e
    rw [if_pos ⟨rfl, hi'⟩, nth_set]
    by_cases e2 : x = y
    · subst e2; rw [if_pos ⟨rfl, by omega⟩]; simp
    · rw [if_neg (by omega)]
      exact ⟨fun h => .inr h, fun h => h.resolve_left fun h => e2 h.2.symm⟩
  · rw [if_neg (by omega)]
    exact ⟨fun h => .inr h, fun h => h.resolve_left fun h => e h.1.symm⟩
theorem tg_lt {N n : Nat} {M : List (List Bool)} (h : Shp N n M) {i x : Nat} (ht : tg M i x = true) : i < N ∧ x < n := by
  have hi : i < N := by
    rcases Nat.lt_or_ge i N with h1 | h1
    · exact h1
    · have : nth M i = [] := nth_out _ _ (by rw [h.len]; exact h1)
      unfold tg at ht; rw [this, nth_out _ _ (by simp)] at ht; cases ht
  refine ⟨hi, ?_⟩
  rcases Nat.lt_or_ge x n with h1 | h1
  · exact h1
  · unfold tg at ht; rw [nth_out _ _ (by rw [h.row i hi]; exact h1)] at ht; cases ht

/-- The table as an assignment. -/
def tp (M : List (List Bool)) : Nat → Nat → Prop := fun i x => tg M i x = true
def Sub (p q : Nat → Nat → Prop) : Prop := ∀ i x, p i x → q i x
/-- A step of the table that adds what F asks for. -/
structure TStp (N n : Nat) (F : (Nat → Nat → Prop) → Prop) (M M' : List (List Bool)) (b b' : Bool) : Prop where
  sh : Shp N n M'
  le : Sub (tp M) (tp M')
  cnt : cntB M ≤ cntB M'
  up : b' = true → b = true ∨ cntB M < cntB M'
  same : b' = false → b = false ∧ M' = M ∧ F (tp M)
  snd : ∀ p, Sub (tp M) p → F p → Sub (tp M') p

theorem TStp.refl {N n : Nat} {M : List (List Bool)} {b : Bool} {F : (Nat → Nat → Prop) → Prop} (h : Shp N n M) (hF : b = false → F (tp M)) : TStp N n F M M b b :=
  ⟨h, fun _ _ h => h, Nat.le_refl _, fun h => .inl h, fun h => ⟨h, rfl, hF h⟩, fun _ h _ => h⟩
theorem TStp.then {N n : Nat} {F G : (Nat → Nat → Prop) → Prop} {M M' M'' : List (List Bool)} {b b' b'' : Bool} (h : TStp N n F M M' b b') (k : TStp N n G M' M'' b' b'') : TStp N n (fun p => F p ∧ G p) M M'' b b'' := by
  refine ⟨k.sh, fun i x hx => k.le i x (h.le i x hx), Nat.le_trans h.cnt k.cnt, fun hb => ?_, fun hb => ?_, fun p hp hF => k.snd p (h.snd p hp hF.1) hF.2⟩
  · rcases k.up hb with h1 | h1
    · rcases h.up h1 with h2 | h2
      · exact .inl h2
      · exact .inr (Nat.lt_of_lt_of_le h2 k.cnt)
    · exact .inr (Nat.lt_of_le_of_lt h.cnt h1)
  · obtain ⟨h1, h2, h3⟩ := k.same hb
    obtain ⟨g1, g2, g3⟩ := h.same h1
    subst g2
    exact ⟨g1, h2, g3, h3⟩
theorem TStp.thenW {N n : Nat} {F G : (Nat → Nat → Prop) → Prop} {M M' M'' : List (List Bool)} {b b' b'' : Bool} (h : TStp N n F M M' b b') (k : TStp N n G M' M'' b' b'') (H : (Nat → Nat → Prop) → Prop) (h1 : ∀ p, H p → F p) (h2 : ∀ p, Sub (tp M') p → H p → G p) (h3 : F (tp M) → G (tp M) → H (tp M)) : TStp N n H M M'' b b'' := by
  have t := h.then k
  refine ⟨t.sh, t.le, t.cnt, t.up, fun hb => ?_, fun p hp hH => ?_⟩
  · obtain ⟨g1, g2, g3⟩ := t.same hb
    exact ⟨g1, g2, h3 g3.1 g3.2⟩
  · have s1 := h.snd p hp (h1 p hH)
    exact k.snd p s1 (h2 p s1 hH)
theorem TStp.mono {N n : Nat} {F G : (Nat → Nat → Prop) → Prop} {M M' : List (List Bool)} {b b' : Bool} (h : TStp N n F M M' b b') (h1 : ∀ p, G p → F p) (h2 : F (tp M) → G (tp M)) : TStp N n G M M' b b' :=
  ⟨h.sh, h.le, h.cnt, h.up, fun hb => ⟨(h.same hb).1, (h.same hb).2.1, h2 (h.same hb).2.2⟩, fun p hp hG => h.snd p hp (h1 p hG)⟩
theorem TStp.put {N n : Nat} {M : List (List Bool)} {b : Bool} (h : Shp N n M) {i x : Nat} (hi : i < N) (hx : x < n) (h0 : tg M i x = false) : TStp N n (fun p => p i x) M (tput M i x) b true := by
  refine ⟨tput_shp h i x, fun j y hy => (tg_put h hi hx j y).2 (.inr hy), by rw [tput_cnt h hi hx h0]; omega, fun _ => .inr (by rw [tput_cnt h hi hx h0]; omega), fun hb => Bool.noConfusion hb, fun p hp hF j y hy => ?_⟩
  rcases (tg_put h hi hx j y).1 hy with ⟨rfl, rfl⟩ | h1
  · exact hF
  · exact hp j y h1
end Go.And

/- What a demand query visits, and why the slice suffices: plain facts. -/
namespace Go.And

/-- A constraint along which a query goes on. -/
def Flw (c : C) : Prop := c.k = 2 ∨ c.k = 3 ∨ c.k = 5
instance (c : C) : Decidable (Flw c) := by unfold Flw; infer_instance
/-- What the query of v visits. -/
inductive Vis (S : Syst) (v : Nat) : Nat → Prop
  | root : Vis S v v
  | flow {c : C} : c ∈ S.cons → Flw c → Vis S v c.b → Vis S v c.a
  | sa {c d : C} : c ∈ S.cons → c.k = 3 → Vis S v c.b → d ∈ S.cons → d.k = 4 → d.f = c.f → Vis S v d.a
  | sb {c d : C} : c ∈ S.cons → c.k = 3 → Vis S v c.b → d ∈ S.cons → d.k = 4 → d.f = c.f → Vis S v d.b
theorem Vis.trans {S : Syst} {v w x : Nat} (h : Vis S v w) (k : Vis S w x) : Vis S v x := by
  induction k with
  | root => exact h
  | flow hc hf _ ih => exact .flow hc hf ih
  | sa hc h3 _ hd h4 hf ih => exact .sa hc h3 ih hd h4 hf
  | sb hc h3 _ hd h4 hf ih => exact .sb hc h3 ih hd h4 hf
theorem Vis.lt {S : Syst} (hS : S.Ok) {v x : Nat} (hv : v < S.vars) (h : Vis S v x) : x < S.vars := by
  cases h with
  | root => exact hv
  | flow hc hf _ =>
    have := (hS _ hc).a
    rw [if_neg (by rcases hf with h | h | h <;> omega)] at this
    exact this
  | sa hc h3 _ hd h4 hf =>
    have := (hS _ hd).a
    rw [if_neg (by omega)] at this
    exact this
  | sb hc h3 _ hd h4 hf => exact (hS _ hd).b
/-- The fields of the loads that a query meets. -/
def LdF (S : Syst) (v f : Nat) : Prop := ∃ c ∈ S.cons, c.k = 3 ∧ c.f = f ∧ Vis S v c.b
/-- The constraints of the slice. -/
def Keep (S : Syst) (v : Nat) (c : C) : Prop := (c.k = 4 ∧ LdF S v c.f) ∨ (c.k ≠ 4 ∧ Vis S v c.b)
/-- A slice of a system. -/
structure SliceOfS (S S' : Syst) (v : Nat) : Prop where
  vars : S'.vars = S.vars
  sites : S'.sites = S.sites
  fields : S'.fields = S.fields
  cons : ∀ c, c ∈ S'.cons ↔ c ∈ S.cons ∧ Keep S v c
theorem holds_cell {S S' : Syst} (h1 : S'.vars = S.vars) (h2 : S'.fields = S.fields) {p : Nat → Nat → Prop} {c : C} : Holds S' p c ↔ Holds S p c := by
  have e : ∀ y f, S'.cell y f = S.cell y f := fun y f => by unfold Syst.cell; rw [h1, h2]
  unfold Holds
  simp only [e]
theorem SliceOfS.ok {S S' : Syst} {v : Nat} (h : SliceOfS S S' v) (hS : S.Ok) : S'.Ok := by
  intro c hc
  have g := hS c ((h.cons c).1 hc).1
  refine ⟨g.kind, ?_, ?_, ?_, g.f0, ?_, g.s0⟩
  · rw [h.sites, h.vars]; exact g.a
  · rw [h.vars]; exact g.b
  · rw [h.fields]; exact g.f
  · rw [h.sites]; exact g.s
theorem SliceOfS.sub {S S' : Syst} {v : Nat} (h : SliceOfS S S' v) {i x : Nat} (hp : Pts S' i x) : Pts S i x := fun p hsh => hp p fun c hc => (holds_cell h.vars h.fields).2 (hsh c ((h.cons c).1 hc).1)
theorem cell_inj {S : Syst} {y f y2 f2 : Nat} (hf : f < S.fields) (hf2 : f2 < S.fields) (e : S.cell y f = S.cell y2 f2) : f = f2 := by
  unfold Syst.cell at e
  have h1 : (y * S.fields + f) % S.fields = (y2 * S.fields + f2) % S.fields := by rw [show y * S.fields + f = y2 * S.fields + f2 by omega]
  rw [Nat.add_comm, Nat.add_mul_mod_self_right, Nat.add_comm (y2 * S.fields), Nat.add_mul_mod_self_right, Nat.mod_eq_of_lt hf, Nat.mod_eq_of_lt hf2] at h1
  exact h1
/-- The slice has the same least solution at what is visited. -/
theorem SliceOfS.pts {S S' : Syst} {v : Nat} (h : SliceOfS S S' v) (hS : S.Ok) (hv : v < S.vars) {i x : Nat} (hi : Vis S v i) : Pts S i x ↔ Pts S' i x := by
  refine ⟨fun hp => ?_, h.sub⟩
  have hsh : Shut S (fun i x => (Vis S v i → Pts S' i x) ∧ ∀ y f, i = S.cell y f → f < S.fields → LdF S v f → Pts S' i x) := by
    intro c hc
    have g := hS c hc
    have hb := g.b
    have nocell : ∀ {j y f : Nat}, j < S.vars → j = S.cell y f → False := fun h1 h2 => by unfold Syst.cell at h2; omega
    have key : ∀ c', c' ∈ S'.cons → Holds S (Pts S') c' := fun c' hc' => (holds_cell h.vars h.fields).1 (pts_shut S' c' hc')
    refine ⟨fun hk => ?_, fun hk => ?_, fun hk => ?_, fun hk => ?_, fun hk => ?_⟩
    · refine ⟨fun hvis => ?_, fun y f e => (nocell hb e).elim⟩
      exact (key c ((h.cons c).2 ⟨hc, .inr ⟨by omega, hvis⟩⟩)).1 hk
    · intro x hx
      refine ⟨fun hvis => ?_, fun y f e => (nocell hb e).elim⟩
      exact (key c ((h.cons c).2 ⟨hc, .inr ⟨by omega, hvis⟩⟩)).2.1 hk x (hx.1 (.flow hc (.inl hk) hvis))
    · intro y hy x hx
      refine ⟨fun hvis => ?_, fun y f e => (nocell hb e).elim⟩
      have hf := g.f (.inl hk)
      exact (key c ((h.cons c).2 ⟨hc, .inr ⟨by omega, hvis⟩⟩)).2.2.1 hk y (hy.1 (.flow hc (.inr (.inl hk)) hvis)) x (hx.2 y c.f rfl hf ⟨c, hc, hk, rfl, hvis⟩)
    · intro y hy x hx
      have hf := g.f (.inr hk)
      have ha := g.a
      rw [if_neg (by omega)] at ha
      refine ⟨fun hvis => ?_, fun y2 f2 e hf2 hl => ?_⟩
      · have := hvis.lt hS hv
        unfold Syst.cell at this; omega
      · obtain rfl := cell_inj hf hf2 e
        have hk4 := key c ((h.cons c).2 ⟨hc, .inl ⟨hk, hl⟩⟩)
        obtain ⟨d, hd, h3, hdf, hdv⟩ := hl
        exact hk4.2.2.2.1 hk y (hy.1 (.sb hd h3 hdv hc hk hdf.symm)) x (hx.1 (.sa hd h3 hdv hc hk hdf.symm))
    · intro x hx hs
      refine ⟨fun hvis => ?_, fun y f e => (nocell hb e).elim⟩
      exact (key c ((h.cons c).2 ⟨hc, .inr ⟨by omega, hvis⟩⟩)).2.2.2.2 hk x (hx.1 (.flow hc (.inr (.inr hk)) hvis)) hs
  exact (hp _ hsh).1 hi
end Go.And
