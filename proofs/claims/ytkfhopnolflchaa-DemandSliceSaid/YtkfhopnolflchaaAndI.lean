/- The solver's two phases, plainly: what holds between two constraints and between two visits. Of no program. -/
import Derived.Test.YtkfhopnolflchaaAndZ
namespace Go.And

theorem sorted_len : ∀ {L : List Nat} {lo n : Nat}, L.Pairwise (· < ·) → (∀ x ∈ L, lo ≤ x ∧ x < n) → L.length + lo ≤ n ∨ L = []
  | [], _, _, _, _ => .inr rfl
  | x :: L, lo, n, hp, h => by
    rw [List.pairwise_cons] at hp
    have hx := h x (by simp)
    rcases sorted_len (lo := x + 1) (n := n) hp.2 (fun y hy => ⟨hp.1 y hy, (h y (by simp [hy])).2⟩) with h1 | h1
    · left; simp; omega
    · subst h1; left; simp; omega
theorem sorted_len' {L : List Nat} {n : Nat} (hp : L.Pairwise (· < ·)) (h : ∀ x ∈ L, x < n) : L.length ≤ n := by
  rcases sorted_len (lo := 0) hp (fun x hx => ⟨Nat.zero_le _, h x hx⟩) with h1 | h1
  · omega
  · subst h1; simp

/-- The bounds of a small system. -/
structure Bnd (S : Syst) : Prop where
  vars : S.vars ≤ 40
  sites : S.sites ≤ 12
  fields : S.fields ≤ 5
  cons : S.cons.length ≤ 101
theorem Bnd.N {S : Syst} (h : Bnd S) : S.N ≤ 100 := by
  unfold Syst.N
  have := Nat.mul_le_mul h.sites h.fields
  have := h.vars
  omega
theorem Bnd.NS {S : Syst} (h : Bnd S) : S.N * S.sites ≤ 1200 := Nat.mul_le_mul h.N h.sites

/-- Between two constraints. -/
structure P1 (S : Syst) (j : Nat) (st : St) : Prop where
  inv : Inv S (S.cons.take j) st No No No []
  todo : st.todo.length ≤ mass S st
  cp : ∀ i, (st.cp i).length ≤ j * 13
  ld : ∀ i, (st.ld i).length ≤ j
  sr : ∀ i, (st.sr i).length ≤ j
  pt : ∀ i, (st.pt i).length ≤ j
def st0 : St := ⟨fun _ _ => false, fun _ _ => false, fun _ => [], fun _ => [], fun _ => [], fun _ => [], fun _ => false, []⟩
theorem P1.start (S : Syst) : P1 S 0 st0 := ⟨by rw [List.take_zero]; exact Inv.start S, by simp [st0], fun _ => by simp [st0], fun _ => by simp [st0], fun _ => by simp [st0], fun _ => by simp [st0]⟩

theorem upd_len {α : Type} (g : Nat → List α) (i : Nat) (x : α) (j : Nat) : (upd g i (g i ++ [x]) j).length ≤ (g j).length + 1 := by
  unfold upd; split
  · rename_i e; subst e; simp
  · omega
theorem take_next {S : Syst} {j : Nat} (hj : j < S.cons.length) : S.cons.take (j + 1) = S.cons.take j ++ [Go.Dfl.nth S.cons j] := Go.Dfl.take_snoc _ _ hj

section
variable {S : Syst} {j : Nat} {a b : St}
theorem P1.bnd (h : P1 S j a) (hS : S.Ok) : ∀ i x, a.p i x = true → x < S.sites := fun i x hx => (pts_bound hS (h.inv.snd i x hx)).2
theorem P1.again (h : P1 S j a) (hj : j < S.cons.length) {d : C} (hd : d ∈ S.cons.take j) (hk : (Go.Dfl.nth S.cons j).k = d.k) (ha : (Go.Dfl.nth S.cons j).a = d.a) (hb : (Go.Dfl.nth S.cons j).b = d.b) (hf : (Go.Dfl.nth S.cons j).f = d.f) (h5 : (Go.Dfl.nth S.cons j).k ≠ 5) : P1 S (j + 1) a := by
  refine ⟨?_, h.todo, fun i => by have := h.cp i; omega, fun i => by have := h.ld i; omega, fun i => by have := h.sr i; omega, fun i => by have := h.pt i; omega⟩
  rw [take_next hj]; exact h.inv.again hd hk ha hb hf h5
theorem P1.addr (h : P1 S j a) (hS : S.Ok) (hj : j < S.cons.length) (hk : (Go.Dfl.nth S.cons j).k = 1) {s : Nat → Bool} (hs : ∀ x, s x = true ↔ x = (Go.Dfl.nth S.cons j).a) (hp : Put (Go.Dfl.nth S.cons j).b s a b) : P1 S (j + 1) b := by
  have hc : Go.Dfl.nth S.cons j ∈ S.cons := Go.Dfl.nth_mem _ _ hj
  have ok := hS _ hc
  have l := hp.le
  have hm := hp.mass (S := S) (vN ok.b) (fun x hx => by
    have := ok.a; rw [if_pos hk] at this; rw [hs] at hx; omega)
  refine ⟨?_, by have := h.todo; omega, fun i => by rw [l.2.2.1]; have := h.cp i; omega, fun i => by rw [l.2.2.2.2.1]; have := h.ld i; omega, fun i => by rw [l.2.2.2.2.2]; have := h.sr i; omega, fun i => by rw [l.2.2.2.1]; have := h.pt i; omega⟩
  rw [take_next hj]; exact h.inv.addr hS hc hk hs hp
theorem P1.copy (h : P1 S j a) (hS : S.Ok) (hj : j < S.cons.length) (hk : (Go.Dfl.nth S.cons j).k = 2) (hp : Join (Go.Dfl.nth S.cons j).a (Go.Dfl.nth S.cons j).b a b) : P1 S (j + 1) b := by
  have hc : Go.Dfl.nth S.cons j ∈ S.cons := Go.Dfl.nth_mem _ _ hj
  have ok := hS _ hc
  have l := hp.le
  have hm := hp.mass (S := S) (vN ok.b) (fun x hx => h.bnd hS _ x hx)
  refine ⟨?_, by have := h.todo; omega, fun i => by have := hp.len i; have := h.cp i; omega, fun i => by rw [l.2.2.2.2.1]; have := h.ld i; omega, fun i => by rw [l.2.2.2.2.2]; have := h.sr i; omega, fun i => by rw [l.2.2.2.1]; have := h.pt i; omega⟩
  rw [take_next hj]; exact h.inv.copy hS hc hk hp
theorem P1.load (h : P1 S j a) (hS : S.Ok) (hB : Bnd S) (hj : j < S.cons.length) (hk : (Go.Dfl.nth S.cons j).k = 3) {L : List Nat} (hp : L.Pairwise (· < ·)) (hL : ∀ y, a.p (Go.Dfl.nth S.cons j).a y = true ↔ y ∈ L)
    (hJ : Joins (L.map fun y => (S.cell y (Go.Dfl.nth S.cons j).f, (Go.Dfl.nth S.cons j).b)) { a with ld := upd a.ld (Go.Dfl.nth S.cons j).a (a.ld (Go.Dfl.nth S.cons j).a ++ [Go.Dfl.nth S.cons j]) } b) : P1 S (j + 1) b := by
  have hc : Go.Dfl.nth S.cons j ∈ S.cons := Go.Dfl.nth_mem _ _ hj
  have ok := hS _ hc
  have hl := sorted_len' hp fun x hx => h.bnd hS _ x ((hL x).2 hx)
  have hl12 := hB.sites
  have l := hJ.le
  have hm := hJ.mass (S := S) (fun e he => by obtain ⟨y, -, rfl⟩ := List.mem_map.1 he; exact vN ok.b) (h.bnd hS)
  have hms : mass S { a with ld := upd a.ld (Go.Dfl.nth S.cons j).a (a.ld (Go.Dfl.nth S.cons j).a ++ [Go.Dfl.nth S.cons j]) } = mass S a := rfl
  refine ⟨?_, by have := h.todo; simp only [hms] at hm; omega, fun i => by have := hJ.len i; have := h.cp i; simp only [List.length_map] at *; omega, fun i => by rw [l.2.2.2.2.1]; have := h.ld i; have := upd_len a.ld (Go.Dfl.nth S.cons j).a (Go.Dfl.nth S.cons j) i; simp only; omega, fun i => by rw [l.2.2.2.2.2]; have := h.sr i; simp only; omega, fun i => by rw [l.2.2.2.1]; have := h.pt i; simp only; omega⟩
  rw [take_next hj]; exact h.inv.load hS hc hk (fun y hy => (hL y).1 hy) (fun y hy => (hL y).2 hy) hJ
theorem P1.store (h : P1 S j a) (hS : S.Ok) (hB : Bnd S) (hj : j < S.cons.length) (hk : (Go.Dfl.nth S.cons j).k = 4) {L : List Nat} (hp : L.Pairwise (· < ·)) (hL : ∀ y, a.p (Go.Dfl.nth S.cons j).b y = true ↔ y ∈ L)
    (hJ : Joins (L.map fun y => ((Go.Dfl.nth S.cons j).a, S.cell y (Go.Dfl.nth S.cons j).f)) { a with sr := upd a.sr (Go.Dfl.nth S.cons j).b (a.sr (Go.Dfl.nth S.cons j).b ++ [Go.Dfl.nth S.cons j]) } b) : P1 S (j + 1) b := by
  have hc : Go.Dfl.nth S.cons j ∈ S.cons := Go.Dfl.nth_mem _ _ hj
  have ok := hS _ hc
  have hl := sorted_len' hp fun x hx => h.bnd hS _ x ((hL x).2 hx)
  have hl12 := hB.sites
  have l := hJ.le
  have hm := hJ.mass (S := S) (fun e he => by obtain ⟨y, hy, rfl⟩ := List.mem_map.1 he; exact Syst.cell_lt (h.bnd hS _ y ((hL y).2 hy)) (ok.f (.inr hk))) (h.bnd hS)
  have hms : mass S { a with sr := upd a.sr (Go.Dfl.nth S.cons j).b (a.sr (Go.Dfl.nth S.cons j).b ++ [Go.Dfl.nth S.cons j]) } = mass S a := rfl
  refine ⟨?_, by have := h.todo; simp only [hms] at hm; omega, fun i => by have := hJ.len i; have := h.cp i; simp only [List.length_map] at *; omega, fun i => by rw [l.2.2.2.2.1]; have := h.ld i; simp only; omega, fun i => by rw [l.2.2.2.2.2]; have := h.sr i; have := upd_len a.sr (Go.Dfl.nth S.cons j).b (Go.Dfl.nth S.cons j) i; simp only; omega, fun i => by rw [l.2.2.2.1]; have := h.pt i; simp only; omega⟩
  rw [take_next hj]; exact h.inv.store hS hc hk (fun y hy => (hL y).1 hy) (fun y hy => (hL y).2 hy) hJ
theorem P1.filter (h : P1 S j a) (hS : S.Ok) (hj : j < S.cons.length) (hk : (Go.Dfl.nth S.cons j).k = 5) {s : Nat → Bool} (hs : ∀ x, s x = true ↔ x ∈ (Go.Dfl.nth S.cons j).s)
    (hp : Put (Go.Dfl.nth S.cons j).b (fun x => a.p (Go.Dfl.nth S.cons j).a x && s x) { a with pt := upd a.pt (Go.Dfl.nth S.cons j).a (a.pt (Go.Dfl.nth S.cons j).a ++ [((Go.Dfl.nth S.cons j).b, s)]) } b) : P1 S (j + 1) b := by
  have hc : Go.Dfl.nth S.cons j ∈ S.cons := Go.Dfl.nth_mem _ _ hj
  have ok := hS _ hc
  have l := hp.le
  have hm := hp.mass (S := S) (vN ok.b) (fun x hx => by
    simp only [Bool.and_eq_true] at hx
    exact h.bnd hS _ x hx.1)
  have hms : mass S { a with pt := upd a.pt (Go.Dfl.nth S.cons j).a (a.pt (Go.Dfl.nth S.cons j).a ++ [((Go.Dfl.nth S.cons j).b, s)]) } = mass S a := rfl
  refine ⟨?_, by have := h.todo; simp only [hms] at hm; omega, fun i => by rw [l.2.2.1]; have := h.cp i; simp only; omega, fun i => by rw [l.2.2.2.2.1]; have := h.ld i; simp only; omega, fun i => by rw [l.2.2.2.2.2]; have := h.sr i; simp only; omega, fun i => by rw [l.2.2.2.1]; have := h.pt i; have := upd_len a.pt (Go.Dfl.nth S.cons j).a ((Go.Dfl.nth S.cons j).b, s) i; simp only; omega⟩
  rw [take_next hj]; exact h.inv.filter hS hc hk hs hp
end

/-- Between two visits. -/
structure P2 (S : Syst) (vis : Nat) (pend : List Nat) (st : St) : Prop where
  inv : Inv S S.cons st No No No pend
  todo : vis + pend.length + st.todo.length ≤ mass S st
  cp : ∀ i, (st.cp i).length ≤ 1400 + vis * 2600
  ld : ∀ i, (st.ld i).length ≤ 101
  sr : ∀ i, (st.sr i).length ≤ 101
theorem P1.two {S : Syst} {st : St} (h : P1 S S.cons.length st) (hB : Bnd S) : P2 S 0 [] st := by
  have := hB.cons
  exact ⟨by simpa using h.inv, by simpa using h.todo, fun i => by have := h.cp i; omega, fun i => by have := h.ld i; omega, fun i => by have := h.sr i; omega⟩
theorem P2.take {S : Syst} {vis : Nat} {st : St} (h : P2 S vis [] st) : P2 S vis st.todo { st with todo := [] } := by
  have i := h.inv
  refine ⟨⟨i.fsub, i.snd, i.cpS, i.cpC, i.ptS, i.ptC, i.ldS, i.ldC, i.srS, i.srC, i.reg, i.qf, fun k => by simpa using i.qt k, by simpa using i.nd, fun k hk => i.lt k (by simpa using hk)⟩, ?_, h.cp, h.ld, h.sr⟩
  have e : mass S { st with todo := [] } = mass S st := rfl
  have := h.todo
  simp at this ⊢; omega
theorem P2.ok {S : Syst} {vis node : Nat} {pend : List Nat} {st : St} (h : P2 S vis (node :: pend) st) (hS : S.Ok) (hB : Bnd S) : VisOk S node st := by
  have i := h.inv
  have hm := mass_le S st
  have hns := hB.NS
  have ht := h.todo
  refine ⟨fun t ht => (i.cpS node t ht).2.1, fun e he => vN (i.ptS node e he).2.1, fun c hc => ?_, fun c hc => ?_, fun j x hx => (pts_bound hS (i.snd j x hx)).2, fun x hx => (pts_bound hS (i.snd _ x (i.fsub _ _ hx))).2, by have := h.ld node; omega, by have := h.sr node; omega, by omega, fun k => ?_, by omega⟩
  · obtain ⟨q1, q2, q3⟩ := i.ldS node c hc
    exact ⟨vN (hS c q1).b, (hS c q1).f (.inl q2)⟩
  · obtain ⟨q1, q2, q3⟩ := i.srS node c hc
    have ha := (hS c q1).a
    rw [if_neg (by omega)] at ha
    exact ⟨vN ha, (hS c q1).f (.inr q2)⟩
  · have := h.cp k
    have : vis ≤ 1200 := by omega
    omega
theorem P2.visit {S : Syst} {vis node : Nat} {pend L : List Nat} {a b : St} (h : P2 S vis (node :: pend) a) (hS : S.Ok) (hB : Bnd S) (hp : L.Pairwise (· < ·)) (hL : ∀ y, a.f node y = true ↔ y ∈ L) (hV : Visit S node L a b) : P2 S (vis + 1) pend b := by
  have ok := h.ok hS hB
  have hinv := h.inv.visit hS hL hV
  have hl := sorted_len' hp fun x hx => ok.fb x ((hL x).2 hx)
  have hl12 := hB.sites
  obtain ⟨m1, hp1, hrest⟩ := hV
  have hmid0 : Mid S { a with f := upd a.f node (fun _ => false), q := upd a.q node false } { a with f := upd a.f node (fun _ => false), q := upd a.q node false } 0 := Mid.refl ok.bnd
  have hmid1 := hmid0.puts hp1 fun e he => by
    obtain ⟨t, ht, rfl⟩ := List.mem_map.1 he
    exact ⟨ok.cp t ht, ok.fb⟩
  have hend : ∀ k, k ≤ 2600 → Mid S { a with f := upd a.f node (fun _ => false), q := upd a.q node false } b k → P2 S (vis + 1) pend b := fun k hk hm => by
    refine ⟨hinv, ?_, fun i => ?_, fun i => by rw [hm.ld]; exact h.ld i, fun i => by rw [hm.sr]; exact h.sr i⟩
    · have q1 := hm.todo
      have e : mass S { a with f := upd a.f node (fun _ => false), q := upd a.q node false } = mass S a := rfl
      have q2 := h.todo
      simp only [List.length_cons] at q2
      simp only [e] at q1
      omega
    · have q1 := hm.cp i
      have q2 := h.cp i
      simp only at q1
      omega
  rcases hrest with ⟨hn, rfl⟩ | ⟨hn, m2, hp2, hj⟩
  · exact hend 0 (by omega) hmid1
  · have hmid2 := hmid1.puts hp2 fun e he => by
      obtain ⟨t, ht, rfl⟩ := List.mem_map.1 he
      exact ⟨ok.pt t ht, fun x hx => ok.fb x (by simp only [Bool.and_eq_true] at hx; exact hx.1)⟩
    have e : (fun y => ((a.ld node).map fun c => (S.cell y c.f, c.b)) ++ ((a.sr node).map fun c => (c.a, S.cell y c.f))) = vj S (a.ld node) (a.sr node) := rfl
    rw [e] at hj
    have hmid3 := hmid2.joins hj fun e he => (vj_lt ok rfl rfl hL e he).2
    refine hend _ ?_ hmid3
    rw [vj_len]
    have h1 := h.ld node
    have h2 := h.sr node
    have : L.length * ((a.ld node).length + (a.sr node).length) ≤ 12 * 202 := Nat.mul_le_mul (by omega) (by omega)
    omega
theorem P2.vis {S : Syst} {vis : Nat} {pend : List Nat} {st : St} (h : P2 S vis pend st) (hB : Bnd S) : vis + pend.length + st.todo.length ≤ 1200 := by
  have := h.todo; have := mass_le S st; have := hB.NS; omega
theorem P2.fin {S : Syst} {vis : Nat} {st : St} (h : P2 S vis [] st) (ht : st.todo = []) : ∀ i x, st.p i x = true ↔ Pts S i x := h.inv.fin ht
end Go.And
