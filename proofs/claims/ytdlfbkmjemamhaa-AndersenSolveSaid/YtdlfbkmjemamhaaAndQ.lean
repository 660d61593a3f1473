/- The plain law of inclusion constraints, continued: the steps of the solver. Of no program. -/
import Derived.Test.YtdlfbkmjemamhaaAndP
namespace Go.And

def No : Nat → Nat → Prop := fun _ _ => False

section
variable {S : Syst} {done : List C} {a b : St} {gc gp gl : Nat → Nat → Prop} {pend : List Nat}

theorem Inv.weaken (h : Inv S done a gc gp gl pend) {gc' gp' gl' : Nat → Nat → Prop} (h1 : ∀ i x, gc i x → gc' i x) (h2 : ∀ i x, gp i x → gp' i x) (h3 : ∀ i x, gl i x → gl' i x) : Inv S done a gc' gp' gl' pend :=
  ⟨h.fsub, h.snd, h.cpS, fun i t ht x hx hf hg => h.cpC i t ht x hx hf fun k => hg (h1 i x k), h.ptS, fun i e he x hx hf hg => h.ptC i e he x hx hf fun k => hg (h2 i x k), h.ldS,
   fun i c hc y hy hf hg => h.ldC i c hc y hy hf fun k => hg (h3 i y k), h.srS, fun i c hc y hy hf hg => h.srC i c hc y hy hf fun k => hg (h3 i y k), h.reg, h.qf, h.qt, h.nd, h.lt⟩

/-- An edge along which all has been passed. -/
theorem Inv.edge (h : Inv S done a gc gp gl pend) {i t : Nat} (hi : i < S.N) (ht : t < S.N) (hs : ∀ x, Pts S i x → Pts S t x) (hp : ∀ x, a.p i x = true → a.p t x = true) :
    Inv S done { a with cp := upd a.cp i (a.cp i ++ [t]) } gc gp gl pend := by
  have hm : ∀ j u, u ∈ upd a.cp i (a.cp i ++ [t]) j ↔ (u ∈ a.cp j ∨ (j = i ∧ u = t)) := by
    intro j u
    by_cases e : j = i
    · subst e; simp [upd]
    · simp [upd, e]
  refine ⟨h.fsub, h.snd, fun j u hu => ?_, fun j u hu x hx hf hg => ?_, h.ptS, h.ptC, h.ldS, fun j c hc y hy hf hg => (hm _ _).2 (.inl (h.ldC j c hc y hy hf hg)), h.srS, fun j c hc y hy hf hg => (hm _ _).2 (.inl (h.srC j c hc y hy hf hg)), fun c hc => ?_, h.qf, h.qt, h.nd, h.lt⟩
  · rcases (hm j u).1 hu with h1 | ⟨rfl, rfl⟩
    · exact h.cpS j u h1
    · exact ⟨hi, ht, hs⟩
  · rcases (hm j u).1 hu with h1 | ⟨rfl, rfl⟩
    · exact h.cpC j u h1 x hx hf hg
    · exact hp x hx
  · obtain ⟨r1, r2, r3, r4, r5⟩ := h.reg c hc
    exact ⟨r1, fun hk => (hm _ _).2 (.inl (r2 hk)), r3, r4, r5⟩

theorem Join.parts {i t : Nat} (h : Join i t a b) : ∃ m, Put t (a.p i) a m ∧ b = { m with cp := upd m.cp i (m.cp i ++ [t]) } := by
  rcases h with ⟨h1, rfl⟩ | ⟨h1, rfl⟩
  · exact ⟨a, .inl ⟨h1, rfl⟩, rfl⟩
  · exact ⟨_, .inr ⟨h1, rfl⟩, rfl⟩
theorem Inv.join (h : Inv S done a gc gp gl pend) {i t : Nat} (hi : i < S.N) (ht : t < S.N) (hs : ∀ x, Pts S i x → Pts S t x) (hj : Join i t a b) : Inv S done b gc gp gl pend := by
  obtain ⟨m, hm, rfl⟩ := hj.parts
  have h1 := h.put ht (fun x hx => hs x (h.snd i x hx)) hm
  refine h1.edge hi ht hs fun x hx => ?_
  by_cases e : i = t
  · subst e; exact hx
  · rw [hm.other e] at hx; exact hm.le.2.1 x hx
theorem Join.le {i t : Nat} (h : Join i t a b) : (∀ j x, a.p j x = true → b.p j x = true) ∧ (∀ j u, u ∈ a.cp j → u ∈ b.cp j) ∧ t ∈ b.cp i ∧ b.pt = a.pt ∧ b.ld = a.ld ∧ b.sr = a.sr := by
  obtain ⟨m, hm, rfl⟩ := h.parts
  obtain ⟨l1, -, l3, l4, l5, l6⟩ := hm.le
  refine ⟨l1, fun j u hu => ?_, by simp [upd], l4, l5, l6⟩
  by_cases e : j = i
  · subst e; simp [upd, l3, hu]
  · simp [upd, e, l3, hu]
theorem Join.new {i t : Nat} (h : Join i t a b) (j x : Nat) (hp : b.p j x = true) (hf : b.f j x = false) : a.p j x = true ∧ a.f j x = false := by
  obtain ⟨m, hm, rfl⟩ := h.parts
  exact hm.new j x hp hf
/-- A join does not look at what is registered. -/
theorem Join.reg {i t : Nat} (h : Join i t a b) (l s : Nat → List C) : Join i t { a with ld := l, sr := s } { b with ld := l, sr := s } := by
  rcases h with ⟨h1, rfl⟩ | ⟨h1, rfl⟩
  · exact .inl ⟨h1, rfl⟩
  · exact .inr ⟨h1, rfl⟩

def Joins : List (Nat × Nat) → St → St → Prop
  | [], a, b => b = a
  | e :: r, a, b => ∃ m, Join e.1 e.2 a m ∧ Joins r m b
def Puts : List (Nat × (Nat → Bool)) → St → St → Prop
  | [], a, b => b = a
  | e :: r, a, b => ∃ m, Put e.1 e.2 a m ∧ Puts r m b

theorem Joins.snoc : ∀ {l : List (Nat × Nat)} {e : Nat × Nat} {a m b : St}, Joins l a m → Join e.1 e.2 m b → Joins (l ++ [e]) a b
  | [], e, a, m, b, h, hj => by cases h; exact ⟨b, hj, rfl⟩
  | x :: l, e, a, m, b, ⟨m', h1, h2⟩, hj => ⟨m', h1, Joins.snoc h2 hj⟩
theorem Joins.append : ∀ {l r : List (Nat × Nat)} {a m b : St}, Joins l a m → Joins r m b → Joins (l ++ r) a b
  | [], r, a, m, b, h, hj => by cases h; exact hj
  | x :: l, r, a, m, b, ⟨m', h1, h2⟩, hj => ⟨m', h1, Joins.append h2 hj⟩
theorem Puts.snoc : ∀ {l : List (Nat × (Nat → Bool))} {e : Nat × (Nat → Bool)} {a m b : St}, Puts l a m → Put e.1 e.2 m b → Puts (l ++ [e]) a b
  | [], e, a, m, b, h, hj => by cases h; exact ⟨b, hj, rfl⟩
  | x :: l, e, a, m, b, ⟨m', h1, h2⟩, hj => ⟨m', h1, Puts.snoc h2 hj⟩

theorem Joins.le : ∀ {l : List (Nat × Nat)} {a b : St}, Joins l a b → (∀ j x, a.p j x = true → b.p j x = true) ∧ (∀ j u, u ∈ a.cp j → u ∈ b.cp j) ∧ (∀ e ∈ l, e.2 ∈ b.cp e.1) ∧ b.pt = a.pt ∧ b.ld = a.ld ∧ b.sr = a.sr
  | [], a, b, h => by cases h; exact ⟨fun _ _ h => h, fun _ _ h => h, fun e he => (by cases he), rfl, rfl, rfl⟩
  | e :: l, a, b, ⟨m, h1, h2⟩ => by
    obtain ⟨a1, a2, a3, a4, a5, a6⟩ := h1.le
    obtain ⟨b1, b2, b3, b4, b5, b6⟩ := Joins.le h2
    refine ⟨fun j x h => b1 j x (a1 j x h), fun j u h => b2 j u (a2 j u h), fun d hd => ?_, b4.trans a4, b5.trans a5, b6.trans a6⟩
    rcases List.mem_cons.1 hd with rfl | hd
    · exact b2 _ _ a3
    · exact b3 d hd
theorem Joins.new : ∀ {l : List (Nat × Nat)} {a b : St}, Joins l a b → ∀ j x, b.p j x = true → b.f j x = false → a.p j x = true ∧ a.f j x = false
  | [], a, b, h, j, x, h1, h2 => by cases h; exact ⟨h1, h2⟩
  | e :: l, a, b, ⟨m, h1, h2⟩, j, x, hp, hf => by
    obtain ⟨q1, q2⟩ := Joins.new h2 j x hp hf
    exact h1.new j x q1 q2
theorem Joins.reg : ∀ {l : List (Nat × Nat)} {a b : St}, Joins l a b → ∀ (u s : Nat → List C), Joins l { a with ld := u, sr := s } { b with ld := u, sr := s }
  | [], a, b, h, u, s => by cases h; rfl
  | e :: l, a, b, ⟨m, h1, h2⟩, u, s => ⟨_, h1.reg u s, Joins.reg h2 u s⟩
theorem Inv.joins : ∀ {l : List (Nat × Nat)} {a b : St}, Inv S done a gc gp gl pend → (∀ e ∈ l, e.1 < S.N ∧ e.2 < S.N ∧ ∀ x, Pts S e.1 x → Pts S e.2 x) → Joins l a b → Inv S done b gc gp gl pend
  | [], a, b, h, _, hj => by cases hj; exact h
  | e :: l, a, b, h, hl, ⟨m, h1, h2⟩ => by
    obtain ⟨q1, q2, q3⟩ := hl e (by simp)
    exact Inv.joins (h.join q1 q2 q3 h1) (fun d hd => hl d (by simp [hd])) h2
theorem Puts.le : ∀ {l : List (Nat × (Nat → Bool))} {a b : St}, Puts l a b → (∀ j x, a.p j x = true → b.p j x = true) ∧ (∀ e ∈ l, ∀ x, e.2 x = true → b.p e.1 x = true) ∧ b.cp = a.cp ∧ b.pt = a.pt ∧ b.ld = a.ld ∧ b.sr = a.sr
  | [], a, b, h => by cases h; exact ⟨fun _ _ h => h, fun e he => (by cases he), rfl, rfl, rfl, rfl⟩
  | e :: l, a, b, ⟨m, h1, h2⟩ => by
    obtain ⟨a1, a2, a3, a4, a5, a6⟩ := h1.le
    obtain ⟨b1, b2, b3, b4, b5, b6⟩ := Puts.le h2
    refine ⟨fun j x h => b1 j x (a1 j x h), fun d hd x hx => ?_, b3.trans a3, b4.trans a4, b5.trans a5, b6.trans a6⟩
    rcases List.mem_cons.1 hd with rfl | hd
    · exact b1 _ _ (a2 x hx)
    · exact b2 d hd x hx
theorem Puts.new : ∀ {l : List (Nat × (Nat → Bool))} {a b : St}, Puts l a b → ∀ j x, b.p j x = true → b.f j x = false → a.p j x = true ∧ a.f j x = false
  | [], a, b, h, j, x, h1, h2 => by cases h; exact ⟨h1, h2⟩
  | e :: l, a, b, ⟨m, h1, h2⟩, j, x, hp, hf => by
    obtain ⟨q1, q2⟩ := Puts.new h2 j x hp hf
    exact h1.new j x q1 q2
theorem Inv.puts : ∀ {l : List (Nat × (Nat → Bool))} {a b : St}, Inv S done a gc gp gl pend → (∀ e ∈ l, e.1 < S.N ∧ ∀ x, e.2 x = true → Pts S e.1 x) → Puts l a b → Inv S done b gc gp gl pend
  | [], a, b, h, _, hj => by cases hj; exact h
  | e :: l, a, b, h, hl, ⟨m, h1, h2⟩ => by
    obtain ⟨q1, q2⟩ := hl e (by simp)
    exact Inv.puts (h.put q1 q2 h1) (fun d hd => hl d (by simp [hd])) h2

/-! ### Registering -/
theorem Inv.start (S : Syst) : Inv S [] ⟨fun _ _ => false, fun _ _ => false, fun _ => [], fun _ => [], fun _ => [], fun _ => [], fun _ => false, []⟩ No No No [] := by
  refine ⟨?_, ?_, ?_, ?_, ?_, ?_, ?_, ?_, ?_, ?_, ?_, ?_, ?_, ?_, ?_⟩ <;> simp

theorem Inv.regs (h : Inv S done a gc gp gl pend) {c : C} (hr : (c.k = 1 → a.p c.b c.a = true) ∧ (c.k = 2 → c.b ∈ a.cp c.a) ∧ (c.k = 3 → ∃ d ∈ a.ld c.a, d.b = c.b ∧ d.f = c.f) ∧ (c.k = 4 → ∃ d ∈ a.sr c.b, d.a = c.a ∧ d.f = c.f) ∧ (c.k = 5 → ∃ e ∈ a.pt c.a, e.1 = c.b ∧ ∀ x, x ∈ c.s → e.2 x = true)) :
    Inv S (done ++ [c]) a gc gp gl pend :=
  ⟨h.fsub, h.snd, h.cpS, h.cpC, h.ptS, h.ptC, h.ldS, h.ldC, h.srS, h.srC, fun d hd => by
    rcases List.mem_append.1 hd with h1 | h1
    · exact h.reg d h1
    · simp at h1; subst h1; exact hr, h.qf, h.qt, h.nd, h.lt⟩
/-- A constraint with the same numbers has been registered before. -/
theorem Inv.again (h : Inv S done a gc gp gl pend) {c d : C} (hd : d ∈ done) (hk : c.k = d.k) (ha : c.a = d.a) (hb : c.b = d.b) (hf : c.f = d.f) (h5 : c.k ≠ 5) : Inv S (done ++ [c]) a gc gp gl pend := by
  obtain ⟨r1, r2, r3, r4, r5⟩ := h.reg d hd
  refine h.regs ⟨fun k => ?_, fun k => ?_, fun k => ?_, fun k => ?_, fun k => absurd k h5⟩
  · rw [ha, hb]; exact r1 (by omega)
  · rw [ha, hb]; exact r2 (by omega)
  · rw [ha, hb, hf]; exact r3 (by omega)
  · rw [ha, hb, hf]; exact r4 (by omega)

theorem vN {i : Nat} (h : i < S.vars) : i < S.N := by unfold Syst.N; omega

theorem Inv.addr (h : Inv S done a gc gp gl pend) (hS : S.Ok) {c : C} (hc : c ∈ S.cons) (hk : c.k = 1) {s : Nat → Bool} (hs : ∀ x, s x = true ↔ x = c.a) (hp : Put c.b s a b) : Inv S (done ++ [c]) b gc gp gl pend := by
  refine (h.put (vN (hS c hc).b) (fun x hx => ?_) hp).regs ⟨fun _ => hp.le.2.1 _ ((hs _).2 rfl), fun k => by omega, fun k => by omega, fun k => by omega, fun k => by omega⟩
  rw [hs] at hx; subst hx; exact (pts_shut S c hc).1 hk
theorem Inv.copy (h : Inv S done a gc gp gl pend) (hS : S.Ok) {c : C} (hc : c ∈ S.cons) (hk : c.k = 2) (hj : Join c.a c.b a b) : Inv S (done ++ [c]) b gc gp gl pend := by
  have ok := hS c hc
  have ha := ok.a
  rw [if_neg (by omega)] at ha
  exact (h.join (vN ha) (vN ok.b) ((pts_shut S c hc).2.1 hk) hj).regs ⟨fun k => by omega, fun _ => hj.le.2.2.1, fun k => by omega, fun k => by omega, fun k => by omega⟩
/-- A load: it is registered, and joins what its variable has. -/
theorem Inv.load (h : Inv S done a gc gp gl pend) (hS : S.Ok) {c : C} (hc : c ∈ S.cons) (hk : c.k = 3) {L : List Nat} (hL : ∀ y, a.p c.a y = true → y ∈ L) (hL2 : ∀ y ∈ L, a.p c.a y = true)
    (hj : Joins (L.map fun y => (S.cell y c.f, c.b)) { a with ld := upd a.ld c.a (a.ld c.a ++ [c]) } b) : Inv S (done ++ [c]) b gc gp gl pend := by
  have ok := hS c hc
  have hj2 := hj.reg a.ld a.sr
  have e1 : ({ { a with ld := upd a.ld c.a (a.ld c.a ++ [c]) } with ld := a.ld, sr := a.sr } : St) = a := rfl
  rw [e1] at hj2
  have hsys : ∀ y, Pts S c.a y → ∀ x, Pts S (S.cell y c.f) x → Pts S c.b x := (pts_shut S c hc).2.2.1 hk
  have h1 := h.joins (fun e he => by
    obtain ⟨y, hy, rfl⟩ := List.mem_map.1 he
    have hp := h.snd _ _ (hL2 y hy)
    exact ⟨Syst.cell_lt (pts_bound hS hp).2 (ok.f (.inl hk)), vN ok.b, hsys y hp⟩) hj2
  obtain ⟨l1, l2, l3, l4, l5, l6⟩ := hj2.le
  have hn := hj2.new
  have hld : b.ld = upd a.ld c.a (a.ld c.a ++ [c]) := hj.le.2.2.2.2.1
  have hm : ∀ j d, d ∈ b.ld j ↔ (d ∈ a.ld j ∨ (j = c.a ∧ d = c)) := by
    intro j d
    rw [hld]
    by_cases e : j = c.a
    · subst e; simp [upd]
    · simp [upd, e]
  have hsr : b.sr = a.sr := hj.le.2.2.2.2.2
  have h2 : Inv S done b gc gp gl pend := by
    refine ⟨h1.fsub, h1.snd, h1.cpS, h1.cpC, h1.ptS, h1.ptC, fun j d hd => ?_, fun j d hd y hy hf hg => ?_, fun j d hd => h.srS j d (by rwa [hsr] at hd), fun j d hd y hy hf hg => h1.srC j d (by rw [hsr] at hd; exact hd) y hy hf hg, fun d hd => ?_, h1.qf, h1.qt, h1.nd, h1.lt⟩
    · rcases (hm j d).1 hd with q | ⟨rfl, rfl⟩
      · exact h.ldS j d q
      · exact ⟨hc, hk, rfl⟩
    · rcases (hm j d).1 hd with q | ⟨rfl, rfl⟩
      · exact h1.ldC j d q y hy hf hg
      · have := hn d.a y hy hf
        exact l3 _ (List.mem_map.2 ⟨y, hL y this.1, rfl⟩)
    · obtain ⟨r1, r2, r3, r4, r5⟩ := h1.reg d hd
      refine ⟨r1, r2, fun k => ?_, fun k => by rw [hsr]; exact r4 k, r5⟩
      obtain ⟨e, he, he2⟩ := r3 k
      exact ⟨e, (hm _ _).2 (.inl he), he2⟩
  exact h2.regs ⟨fun k => by omega, fun k => by omega, fun _ => ⟨c, (hm _ _).2 (.inr ⟨rfl, rfl⟩), rfl, rfl⟩, fun k => by omega, fun k => by omega⟩
/-- A store. -/
theorem Inv.store (h : Inv S done a gc gp gl pend) (hS : S.Ok) {c : C} (hc : c ∈ S.cons) (hk : c.k = 4) {L : List Nat} (hL : ∀ y, a.p c.b y = true → y ∈ L) (hL2 : ∀ y ∈ L, a.p c.b y = true)
    (hj : Joins (L.map fun y => (c.a, S.cell y c.f)) { a with sr := upd a.sr c.b (a.sr c.b ++ [c]) } b) : Inv S (done ++ [c]) b gc gp gl pend := by
  have ok := hS c hc
  have ha := ok.a
  rw [if_neg (by omega)] at ha
  have hj2 := hj.reg a.ld a.sr
  have e1 : ({ { a with sr := upd a.sr c.b (a.sr c.b ++ [c]) } with ld := a.ld, sr := a.sr } : St) = a := rfl
  rw [e1] at hj2
  have hsys : ∀ y, Pts S c.b y → ∀ x, Pts S c.a x → Pts S (S.cell y c.f) x := (pts_shut S c hc).2.2.2.1 hk
  have h1 := h.joins (fun e he => by
    obtain ⟨y, hy, rfl⟩ := List.mem_map.1 he
    have hp := h.snd _ _ (hL2 y hy)
    exact ⟨vN ha, Syst.cell_lt (pts_bound hS hp).2 (ok.f (.inr hk)), hsys y hp⟩) hj2
  obtain ⟨l1, l2, l3, l4, l5, l6⟩ := hj2.le
  have hn := hj2.new
  have hsr : b.sr = upd a.sr c.b (a.sr c.b ++ [c]) := hj.le.2.2.2.2.2
  have hm : ∀ j d, d ∈ b.sr j ↔ (d ∈ a.sr j ∨ (j = c.b ∧ d = c)) := by
    intro j d
    rw [hsr]
    by_cases e : j = c.b
    · subst e; simp [upd]
    · simp [upd, e]
  have hld : b.ld = a.ld := hj.le.2.2.2.2.1
  have h2 : Inv S done b gc gp gl pend := by
    refine ⟨h1.fsub, h1.snd, h1.cpS, h1.cpC, h1.ptS, h1.ptC, fun j d hd => h.ldS j d (by rwa [hld] at hd), fun j d hd y hy hf hg => h1.ldC j d (by rw [hld] at hd; exact hd) y hy hf hg, fun j d hd => ?_, fun j d hd y hy hf hg => ?_, fun d hd => ?_, h1.qf, h1.qt, h1.nd, h1.lt⟩
    · rcases (hm j d).1 hd with q | ⟨rfl, rfl⟩
      · exact h.srS j d q
      · exact ⟨hc, hk, rfl⟩
    · rcases (hm j d).1 hd with q | ⟨rfl, rfl⟩
      · exact h1.srC j d q y hy hf hg
      · have := hn d.b y hy hf
        exact l3 _ (List.mem_map.2 ⟨y, hL y this.1, rfl⟩)
    · obtain ⟨r1, r2, r3, r4, r5⟩ := h1.reg d hd
      refine ⟨r1, r2, fun k => by rw [hld]; exact r3 k, fun k => ?_, r5⟩
      obtain ⟨e, he, he2⟩ := r4 k
      exact ⟨e, (hm _ _).2 (.inl he), he2⟩
  exact h2.regs ⟨fun k => by omega, fun k => by omega, fun k => by omega, fun _ => ⟨c, (hm _ _).2 (.inr ⟨rfl, rfl⟩), rfl, rfl⟩, fun k => by omega⟩
/-- A filter. -/
theorem Inv.filter (h : Inv S done a gc gp gl pend) (hS : S.Ok) {c : C} (hc : c ∈ S.cons) (hk : c.k = 5) {s : Nat → Bool} (hs : ∀ x, s x = true ↔ x ∈ c.s)
    (hp : Put c.b (fun x => a.p c.a x && s x) { a with pt := upd a.pt c.a (a.pt c.a ++ [(c.b, s)]) } b) : Inv S (done ++ [c]) b gc gp gl pend := by
  have ok := hS c hc
  have ha := ok.a
  rw [if_neg (by omega)] at ha
  obtain ⟨m, hm, rfl⟩ : ∃ m, Put c.b (fun x => a.p c.a x && s x) a m ∧ b = { m with pt := upd m.pt c.a (m.pt c.a ++ [(c.b, s)]) } := by
    rcases hp with ⟨h1, rfl⟩ | ⟨h1, rfl⟩
    · exact ⟨a, .inl ⟨h1, rfl⟩, rfl⟩
    · exact ⟨_, .inr ⟨h1, rfl⟩, rfl⟩
  have hsys : ∀ x, Pts S c.a x → x ∈ c.s → Pts S c.b x := (pts_shut S c hc).2.2.2.2 hk
  have h1 := h.put (vN ok.b) (fun x hx => by
    simp only [Bool.and_eq_true] at hx
    exact hsys x (h.snd _ _ hx.1) ((hs x).1 hx.2)) hm
  have hmm : ∀ j e, e ∈ upd m.pt c.a (m.pt c.a ++ [(c.b, s)]) j ↔ (e ∈ m.pt j ∨ (j = c.a ∧ e = (c.b, s))) := by
    intro j e
    by_cases q : j = c.a
    · subst q; simp [upd]
    · simp [upd, q]
  have h2 : Inv S done { m with pt := upd m.pt c.a (m.pt c.a ++ [(c.b, s)]) } gc gp gl pend := by
    refine ⟨h1.fsub, h1.snd, h1.cpS, h1.cpC, fun j e he => ?_, fun j e he x hx hf hg hex => ?_, h1.ldS, h1.ldC, h1.srS, h1.srC, fun d hd => ?_, h1.qf, h1.qt, h1.nd, h1.lt⟩
    · rcases (hmm j e).1 he with q | ⟨rfl, rfl⟩
      · exact h1.ptS j e q
      · exact ⟨ha, ok.b, fun x hx hsx => hsys x hx ((hs x).1 hsx)⟩
    · rcases (hmm j e).1 he with q | ⟨rfl, rfl⟩
      · exact h1.ptC j e q x hx hf hg hex
      · have := (hm.new c.a x hx hf).1
        exact hm.le.2.1 x (by simp [this]; exact hex)
    · obtain ⟨r1, r2, r3, r4, r5⟩ := h1.reg d hd
      refine ⟨r1, r2, r3, r4, fun k => ?_⟩
      obtain ⟨e, he, he2⟩ := r5 k
      exact ⟨e, (hmm _ _).2 (.inl he), he2⟩
  exact h2.regs ⟨fun k => by omega, fun k => by omega, fun k => by omega, fun k => by omega, fun _ => ⟨(c.b, s), (hmm _ _).2 (.inr ⟨rfl, rfl⟩), rfl, fun x hx => (hs x).2 hx⟩⟩

end
end Go.And
