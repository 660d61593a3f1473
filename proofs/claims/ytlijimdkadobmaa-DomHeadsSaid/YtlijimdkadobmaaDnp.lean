/- Plain: dominators, found by passes over a depth-first order. -/
import Derived.Test.YtlijimdkadobmaaBase
namespace Go.Dm
open Go.Dfl (nth nth_set nth_mem mem_nth nth_eq nth_ext)
/-- A graph with a root, its reachable nodes and their postorder. -/
structure Cx where
  E : Nat → Nat → Prop
  r : Nat
  n : Nat
  S : Nat → Prop
  ord : Nat → Nat
structure Cx.Ok (C : Cx) : Prop where
  rS : C.S C.r
  lt : ∀ v, C.S v → v < C.n
  cl : ∀ v w, C.S v → C.E v w → C.S w
  inj : ∀ v w, C.S v → C.S w → C.ord v = C.ord w → v = w
  top : ∀ v, C.S v → C.ord v ≤ C.ord C.r
  par : ∀ v, C.S v → v ≠ C.r → ∃ p, C.S p ∧ C.E p v ∧ C.ord v < C.ord p
/-- A path of at most k edges from the root that avoids g. -/
inductive Av (C : Cx) (g : Nat) : Nat → Nat → Prop
  | start (k : Nat) : C.r ≠ g → Av C g k C.r
  | step {k p v : Nat} : Av C g k p → C.E p v → v ≠ g → Av C g (k + 1) v
section
variable {C : Cx} {g k j v y : Nat}
theorem Av.mono (h : Av C g k v) : ∀ {j : Nat}, k ≤ j → Av C g j v := by
  induction h with
  | start k h => exact fun {j} _ => .start j h
  | step h e hn ih =>
    intro j hj
    obtain ⟨i, rfl⟩ : ∃ i, j = i + 1 := ⟨j - 1, by omega⟩
    exact .step (ih (by omega)) e hn
theorem Av.ne (h : Av C g k v) : v ≠ g := by cases h <;> assumption
theorem Av.mem (hC : C.Ok) (h : Av C g k v) : C.S v := by
  induction h with
  | start k h => exact hC.rS
  | step h e hn ih => exact hC.cl _ _ ih e
theorem Av.or (h : Av C g k y) (v : Nat) : Av C g k v ∨ Av C v k y := by
  induction h with
  | start k h =>
    by_cases e : C.r = v
    · exact .inl (e ▸ .start k h)
    · exact .inr (.start k e)
  | @step k p y h e hn ih =>
    rcases ih with h1 | h1
    · exact .inl (h1.mono (by omega))
    · by_cases e2 : y = v
      · subst e2; exact .inl (.step h e hn)
      · exact .inr (.step h1 e e2)
/-- g is on every path to v. -/
def Dom (C : Cx) (v g : Nat) : Prop := C.S v ∧ ∀ k, ¬ Av C g k v
theorem Dom.refl (h : C.S v) : Dom C v v := ⟨h, fun _ h => h.ne rfl⟩
theorem dom_root {d : Nat} (h : Dom C C.r d) : d = C.r := by
  apply Classical.byContradiction
  intro hn
  exact h.2 0 (.start 0 (fun e => hn e.symm))
theorem Dom.pred {d p : Nat} (h : Dom C v d) (hn : d ≠ v) (hp : C.S p) (he : C.E p v) : Dom C p d := ⟨hp, fun k h2 => h.2 (k + 1) (.step h2 he (Ne.symm hn))⟩
theorem dom_of_preds (hC : C.Ok) {d : Nat} (hv : C.S v) (hr : v ≠ C.r) (h : ∀ p, C.S p → C.E p v → Dom C p d) : Dom C v d := by
  refine ⟨hv, fun k hk => ?_⟩
  cases hk with
  | start k h => exact hr rfl
  | step h1 he hn => exact (h _ (h1.mem hC) he).2 _ h1
theorem exists_path (hC : C.Ok) : ∀ (m v : Nat), C.S v → C.ord C.r - C.ord v ≤ m → ∃ k, Av C C.n k v
  | 0, v, hv, hm => by
    have h1 := hC.top v hv
    have h2 := hC.inj v C.r hv hC.rS (by omega)
    subst h2
    exact ⟨0, .start 0 (by have := hC.lt _ hv; omega)⟩
  | m + 1, v, hv, hm => by
    by_cases e : v = C.r
    · subst e; exact ⟨0, .start 0 (by have := hC.lt _ hv; omega)⟩
    · obtain ⟨p, h1, h2, h3⟩ := hC.par v hv e
      have h5 := hC.top p h1
      obtain ⟨k, h4⟩ := exists_path hC m p h1 (by omega)
      exact ⟨k + 1, .step h4 h2 (by have := hC.lt _ hv; omega)⟩

noncomputable def avB (C : Cx) (g k v : Nat) : Bool := @decide (Av C g k v) (Classical.propDecidable _)
theorem avB_iff : avB C g k v = true ↔ Av C g k v := @decide_eq_true_iff _ (Classical.propDecidable _)
/-- The nodes that are reached in k steps. -/
noncomputable def rk (C : Cx) (g k : Nat) : List Nat := (List.range C.n).filter (avB C g k)
theorem filter_le {α : Type} (p q : α → Bool) (h : ∀ x, p x = true → q x = true) : ∀ l : List α, (l.filter p).length ≤ (l.filter q).length ∧ ((l.filter p).length = (l.filter q).length → ∀ x ∈ l, q x = true → p x = true)
  | [] => ⟨by simp, fun _ x hx => by simp at hx⟩
  | a :: l => by
    obtain ⟨h1, h2⟩ := filter_le p q h l
    cases hp : p a <;> cases hq : q a
    · rw [List.filter_cons_of_neg (by simp [hp]), List.filter_cons_of_neg (by simp [hq])]
      exact ⟨h1, fun e x hx hqx => by
        rcases List.mem_cons.1 hx with rfl | hx
        · rw [hq] at hqx; cases hqx
        · exact h2 e x hx hqx⟩
    · rw [List.filter_cons_of_neg (by simp [hp]), List.filter_cons_of_pos hq, List.length_cons]
      exact ⟨by omega, fun e => by omega⟩
    · rw [h a hp] at hq; cases hq
    · rw [List.filter_cons_of_pos hp, List.filter_cons_of_pos hq, List.length_cons, List.length_cons]
      exact ⟨by omega, fun e x hx hqx => by
        rcases List.mem_cons.1 hx with rfl | hx
        · exact hp
        · exact h2 (by omega) x hx hqx⟩
theorem rk_step : (rk C g k).length ≤ (rk C g (k + 1)).length ∧ ((rk C g k).length = (rk C g (k + 1)).length → ∀ v, v < C.n → Av C g (k + 1) v → Av C g k v) := by
  obtain ⟨h1, h2⟩ := filter_le (avB C g k) (avB C g (k + 1)) (fun x hx => avB_iff.2 ((avB_iff.1 hx).mono (by omega))) (List.range C.n)
  exact ⟨h1, fun e v hv ha => avB_iff.1 (h2 e v (List.mem_range.2 hv) (avB_iff.2 ha))⟩
theorem closed_all (h : ∀ v, Av C g (k + 1) v → Av C g k v) (ha : Av C g j v) : Av C g k v := by
  induction ha with
  | start j h1 => exact .start k h1
  | step h1 he hn ih => exact h _ (.step ih he hn)
theorem closes (hC : C.Ok) (g : Nat) : ∀ k, (∃ j, j ≤ k ∧ ∀ v, Av C g (j + 1) v → Av C g j v) ∨ k ≤ (rk C g k).length
  | 0 => .inr (Nat.zero_le _)
  | k + 1 => by
    rcases closes hC g k with ⟨j, h1, h2⟩ | h
    · exact .inl ⟨j, by omega, h2⟩
    · obtain ⟨h1, h2⟩ := rk_step (C := C) (g := g) (k := k)
      by_cases e : (rk C g k).length = (rk C g (k + 1)).length
      · exact .inl ⟨k, by omega, fun v hv => h2 e v (hC.lt v (hv.mem hC)) hv⟩
      · exact .inr (by omega)
/-- n + 1 steps suffice. -/
theorem Av.sat (hC : C.Ok) (h : Av C g j v) : Av C g (C.n + 1) v := by
  rcases closes hC g (C.n + 1) with ⟨i, h1, h2⟩ | h1
  · exact (closed_all h2 h).mono h1
  · have h2 : (rk C g (C.n + 1)).length ≤ C.n := by
      unfold rk; exact Nat.le_trans (List.length_filter_le _ _) (by rw [List.length_range]; exact Nat.le_refl _)
    omega
end
/-- The ancestors in the tree of 'up'; the root is its own. -/
inductive Anc (up : List Int) (r : Nat) : Nat → Nat → Prop
  | refl (v : Nat) : Anc up r v v
  | step {v u a : Nat} : v ≠ r → nth up v = (u : Int) → Anc up r u a → Anc up r v a
/-- A path within smaller nodes. -/
inductive Low (C : Cx) (a : Nat) : Nat → Prop
  | refl : Low C a a
  | step {p v : Nat} : Low C a p → C.E p v → C.S v → C.ord v < C.ord a → Low C a v
structure UpOk (C : Cx) (up : List Int) : Prop where
  len : up.length = C.n
  root : nth up C.r = (C.r : Int)
  lo : ∀ v, v < C.n → -1 ≤ nth up v
  inv : ∀ v, v < C.n → 0 ≤ nth up v → v ≠ C.r → C.S v ∧ ∃ u : Nat, nth up v = (u : Int) ∧ u < C.n ∧ 0 ≤ nth up u ∧ C.ord v < C.ord u
section
variable {C : Cx} {up : List Int} {v a b y : Nat}
/-- It has been met. -/
def Pr (C : Cx) (up : List Int) (v : Nat) : Prop := v < C.n ∧ 0 ≤ nth up v
theorem Pr.S (hC : C.Ok) (h : UpOk C up) (hv : Pr C up v) : C.S v := by
  by_cases e : v = C.r
  · subst e; exact hC.rS
  · exact (h.inv v hv.1 hv.2 e).1
theorem Pr.root (hC : C.Ok) (h : UpOk C up) : Pr C up C.r := ⟨hC.lt _ hC.rS, by rw [h.root]; omega⟩
theorem Pr.above (h : UpOk C up) (hv : Pr C up v) (hr : v ≠ C.r) : ∃ u : Nat, nth up v = (u : Int) ∧ Pr C up u ∧ C.ord v < C.ord u := by
  obtain ⟨-, u, h1, h2, h3, h4⟩ := h.inv v hv.1 hv.2 hr
  exact ⟨u, h1, ⟨h2, h3⟩, h4⟩
theorem Anc.trans {r : Nat} (h : Anc up r v a) (k : Anc up r a b) : Anc up r v b := by
  induction h with
  | refl v => exact k
  | step h1 h2 _ ih => exact .step h1 h2 (ih k)
theorem Anc.ge (h : UpOk C up) (ha : Anc up C.r v a) (hv : Pr C up v) : Pr C up a ∧ (a = v ∨ C.ord v < C.ord a) := by
  induction ha with
  | refl v => exact ⟨hv, .inl rfl⟩
  | @step v u a h1 h2 _ ih =>
    obtain ⟨u', e, h3, h4⟩ := hv.above h h1
    obtain rfl : u = u' := by rw [h2] at e; omega
    obtain ⟨h5, h6⟩ := ih h3
    refine ⟨h5, .inr ?_⟩
    rcases h6 with rfl | h6 <;> omega
theorem Anc.anti (h : UpOk C up) (hv : Pr C up v) (ha : Anc up C.r v a) (hb : Anc up C.r a v) : a = v := by
  obtain ⟨h1, h2⟩ := ha.ge h hv
  rcases h2 with rfl | h2
  · rfl
  · rcases (hb.ge h h1).2 with h3 | h3
    · exact h3.symm
    · omega
theorem Anc.of_step {r : Nat} (ha : Anc up r v a) (hn : a ≠ v) : ∃ u : Nat, v ≠ r ∧ nth up v = (u : Int) ∧ Anc up r u a := by
  cases ha with
  | refl => exact absurd rfl hn
  | step h1 h2 h3 => exact ⟨_, h1, h2, h3⟩
theorem Anc.chain (h : UpOk C up) (ha : Anc up C.r v a) (hv : Pr C up v) (hb : Anc up C.r v b) (hle : C.ord a ≤ C.ord b) : Anc up C.r a b := by
  induction ha with
  | refl v => exact hb
  | @step v u a h1 h2 h3 ih =>
    obtain ⟨u', e, h4, h5⟩ := hv.above h h1
    obtain rfl : u = u' := by rw [h2] at e; omega
    by_cases eb : b = v
    · subst eb
      rcases (h3.ge h h4).2 with rfl | h6 <;> omega
    · obtain ⟨w, -, h6, h7⟩ := hb.of_step eb
      obtain rfl : u = w := by rw [h2] at h6; omega
      exact ih h4 h7 hle
theorem anc_root (hC : C.Ok) (h : UpOk C up) : ∀ (m v : Nat), Pr C up v → C.ord C.r - C.ord v ≤ m → Anc up C.r v C.r
  | 0, v, hv, hm => by
    have h1 := hC.top v (hv.S hC h)
    have h2 := hC.inj v C.r (hv.S hC h) hC.rS (by omega)
    subst h2; exact .refl _
  | m + 1, v, hv, hm => by
    by_cases e : v = C.r
    · subst e; exact .refl _
    · obtain ⟨u, h1, h2, h3⟩ := hv.above h e
      have := hC.top u (h2.S hC h)
      exact .step e h1 (anc_root hC h m u h2 (by omega))
theorem root_anc {r : Nat} (ha : Anc up r r a) : a = r := by
  apply Classical.byContradiction
  intro hn
  obtain ⟨u, h1, -⟩ := ha.of_step hn
  exact h1 rfl
theorem Low.trans {c : Nat} (h : Low C a v) (k : Low C v c) (hlt : C.ord v < C.ord a) : Low C a c := by
  induction k with
  | refl => exact h
  | step _ he hs hl ih => exact .step ih he hs (by omega)
/-- The nearest common ancestor of those of a list that have been met. -/
def Nca (C : Cx) (up : List Int) (ps : List Nat) (f : Int) : Prop :=
  (f = -1 ∧ ∀ p ∈ ps, ¬ Pr C up p) ∨ ∃ x : Nat, f = (x : Int) ∧ Pr C up x ∧ (∃ p ∈ ps, Pr C up p) ∧ ∀ y, Anc up C.r x y ↔ ∀ p ∈ ps, Pr C up p → Anc up C.r p y
theorem Nca.unique (h : UpOk C up) {ps : List Nat} {f f' : Int} (h1 : Nca C up ps f) (h2 : Nca C up ps f') : f = f' := by
  rcases h1 with ⟨rfl, a1⟩ | ⟨x, rfl, b1, ⟨p, hp, hq⟩, d1⟩
  · rcases h2 with ⟨rfl, -⟩ | ⟨x, -, -, ⟨p, hp, hq⟩, -⟩
    · rfl
    · exact absurd hq (a1 p hp)
  · rcases h2 with ⟨rfl, a2⟩ | ⟨x', rfl, b2, -, d2⟩
    · exact absurd hq (a2 p hp)
    · have e1 : Anc up C.r x x' := (d1 x').2 ((d2 x').1 (.refl _))
      have e2 : Anc up C.r x' x := (d2 x).2 ((d1 x).1 (.refl _))
      rw [e1.anti h b1 e2]
theorem Nca.nil (C : Cx) (up : List Int) : Nca C up [] (-1) := .inl ⟨rfl, fun p hp => by simp at hp⟩
theorem Nca.skip {ps : List Nat} {f : Int} (h : Nca C up ps f) {p : Nat} (hp : ¬ Pr C up p) : Nca C up (ps ++ [p]) f := by
  rcases h with ⟨rfl, h1⟩ | ⟨x, rfl, h1, ⟨q, hq, hq2⟩, h3⟩
  · exact .inl ⟨rfl, fun q hq => by
      rcases List.mem_append.1 hq with hq | hq
      · exact h1 q hq
      · rw [List.mem_singleton.1 hq]; exact hp⟩
  · refine .inr ⟨x, rfl, h1, ⟨q, List.mem_append.2 (.inl hq), hq2⟩, fun y => (h3 y).trans ⟨fun h q hq hq2 => ?_, fun h q hq => h q (List.mem_append.2 (.inl hq))⟩⟩
    rcases List.mem_append.1 hq with hq | hq
    · exact h q hq hq2
    · rw [List.mem_singleton.1 hq] at hq2; exact absurd hq2 hp
theorem Nca.first {ps : List Nat} (h : Nca C up ps (-1)) {p : Nat} (hp : Pr C up p) : Nca C up (ps ++ [p]) (p : Int) := by
  rcases h with ⟨-, h1⟩ | ⟨x, e, -⟩
  · refine .inr ⟨p, rfl, hp, ⟨p, by simp, hp⟩, fun y => ⟨fun h q hq hq2 => ?_, fun h => h p (by simp) hp⟩⟩
    rcases List.mem_append.1 hq with hq | hq
    · exact absurd hq2 (h1 q hq)
    · rw [List.mem_singleton.1 hq]; exact h
  · omega
/-- What meet hands back. -/
def MeetIs (C : Cx) (up : List Int) (a b c : Nat) : Prop := Pr C up c ∧ ∀ y, Anc up C.r c y ↔ Anc up C.r a y ∧ Anc up C.r b y
theorem MeetIs.self (h : Pr C up a) : MeetIs C up a a a := ⟨h, fun _ => ⟨fun h => ⟨h, h⟩, fun h => h.1⟩⟩
theorem MeetIs.left (h : UpOk C up) {c u : Nat} (ha : Pr C up a) (hb : Pr C up b) (hlt : C.ord a < C.ord b) (hr : a ≠ C.r) (hu : nth up a = (u : Int)) (hm : MeetIs C up u b c) : MeetIs C up a b c := by
  refine ⟨hm.1, fun y => (hm.2 y).trans ⟨fun k => ⟨.step hr hu k.1, k.2⟩, fun k => ⟨?_, k.2⟩⟩⟩
  have hn : y ≠ a := fun e => by
    subst e
    rcases (k.2.ge h hb).2 with e | e
    · subst e; omega
    · omega
  obtain ⟨u', -, h2, h3⟩ := k.1.of_step hn
  obtain rfl : u = u' := by rw [hu] at h2; omega
  exact h3
theorem MeetIs.symm {c : Nat} (hm : MeetIs C up a b c) : MeetIs C up b a c := ⟨hm.1, fun y => (hm.2 y).trans And.comm⟩
theorem Nca.meet {ps : List Nat} {x p c : Nat} (h : Nca C up ps (x : Int)) (hp : Pr C up p) (hm : MeetIs C up x p c) : Nca C up (ps ++ [p]) (c : Int) := by
  rcases h with ⟨e, -⟩ | ⟨x', e, h1, ⟨q, hq, hq2⟩, h3⟩
  · omega
  · obtain rfl : x = x' := by omega
    refine .inr ⟨c, rfl, hm.1, ⟨p, by simp, hp⟩, fun y => ⟨fun h q hq hq2 => ?_, fun h => (hm.2 y).2 ⟨(h3 y).2 fun q hq hq2 => h q (List.mem_append.2 (.inl hq)) hq2, h p (by simp) hp⟩⟩⟩
    rcases List.mem_append.1 hq with hq | hq
    · exact (h3 y).1 ((hm.2 y).1 h).1 q hq hq2
    · rw [List.mem_singleton.1 hq]; exact ((hm.2 y).1 h).2
end
end Go.Dm
