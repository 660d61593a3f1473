/- Plain: dominators, found by passes over a depth-first order. -/
import Derived.Test.YtlijimdkadobmaaBase
namespace Go.Dm
open Go.Dfl (nth nth_set nth_mem mem_nth nth_eq nth_ext)
/-- A graph with a root, its reachable nodes and their postorder. -/
structure Cx where
  E : Nat → Nat → Prop
  r : Nat
  n : Nat
  S : Nat → Prop
  ord : Nat → Nat
structure Cx.Ok (C : Cx) : Prop where
  rS : C.S C.r
  lt : ∀ v, C.S v → v < C.n
  cl : ∀ v w, C.S v → C.E v w → C.S w
  inj : ∀ v w, C.S v → C.S w → C.ord v = C.ord w → v = w
  top : ∀ v, C.S v → C.ord v ≤ C.ord C.r
  par : ∀ v, C.S v → v ≠ C.r → ∃ p, C.S p ∧ C.E p v ∧ C.ord v < C.ord p
/-- A path of at most k edges from the root that avoids g. -/
inductive Av (C : Cx) (g : Nat) : Nat → Nat → Prop
  | start (k : Nat) : C.r ≠ g → Av C g k C.r
  | step {k p v : Nat} : Av C g k p → C.E p v → v ≠ g → Av C g (k + 1) v
section
variable {C : Cx} {g k j v y : Nat}
theorem Av.mono (h : Av C g k v) : ∀ {j : Nat}, k ≤ j → Av C g j v := by
  induction h with
  | start k h => exact fun {j} _ => .start j h
  | step h e hn ih =>
    intro j hj
    obtain ⟨i, rfl⟩ : ∃ i, j = i + 1 := ⟨j - 1, by omega⟩
    exact .step (ih (by omega)) e hn
theorem Av.ne (h : Av C g k v) : v ≠ g := by cases h <;> assumption
theorem Av.mem (hC : C.Ok) (h : Av C g k v) : C.S v := by
  induction h with
  | start k h => exact hC.rS
  | step h e hn ih => exact hC.cl _ _ ih e
theorem Av.or (h : Av C g k y) (v : Nat) : Av C g k v ∨ Av C v k y := by
  induction h with
  | start k h =>
    by_cases e : C.r = v
    · exact .inl (e ▸ .start k h)
    · exact .inr (.start k e)
  | @step k p y h e hn ih =>
    rcases ih with h1 | h1
    · exact .inl (h1.mono (by omega))
    · by_cases e2 : y = v
      · subst e2; exact .inl (.step h e hn)
      · exact .inr (.step h1 e e2)
/-- g is on every path to v. -/
def Dom (C : Cx) (v g : Nat) : Prop := C.S v ∧ ∀ k, ¬ Av C g k v
theorem Dom.refl (h : C.S v) : Dom C v v := ⟨h, fun _ h => h.ne rfl⟩
theorem dom_root {d : Nat} (h : Dom C C.r d) : d = C.r := by
  apply Classical.byContradiction
  intro hn
  exact h.2 0 (.start 0 (fun e => hn e.symm))
theorem Dom.pred {d p : Nat} (h : Dom C v d) (hn : d ≠ v) (hp : C.S p) (he : C.E p v) : Dom C p d := ⟨hp, fun k h2 => h.2 (k + 1) (.step h2 he (Ne.symm hn))⟩
theorem dom_of_preds (hC : C.Ok) {d : Nat} (hv : C.S v) (hr : v ≠ C.r) (h : ∀ p, C.S p → C.E p v → Dom C p d) : Dom C v d := by
  refine ⟨hv, fun k hk => ?_⟩
  cases hk with
  | start k h => exact hr rfl
  | step h1 he hn => exact (h _ (h1.mem hC) he).2 _ h1
theorem exists_path (hC : C.Ok) : ∀ (m v : Nat), C.S v → C.ord C.r - C.ord v ≤ m → ∃ k, Av C C.n k v
  | 0, v, hv, hm => by
    have h1 := hC.top v hv
    have h2 := hC.inj v C.r hv hC.rS (by omega)
    subst h2
    exact ⟨0, .start 0 (by have := hC.lt _ hv; omega)⟩
  | m + 1, v, hv, hm => by
    by_cases e : v = C.r
    · subst e; exact ⟨0, .start 0 (by have := hC.lt _ hv; omega)⟩
    · obtain ⟨p, h1, h2, h3⟩ := hC.par v hv e
      have h5 := hC.top p h1
      obtain ⟨k, h4⟩ := exists_path hC m p h1 (by omega)
      exact ⟨k + 1, .step h4 h2 (by have := hC.lt _ hv; omega)⟩

noncomputable def avB (C : Cx) (g k v : Nat) : Bool := @decide (Av C g k v) (Classical.propDecidable _)
theorem avB_iff : avB C g k v = true ↔ Av C g k v := @decide_eq_true_iff _ (Classical.propDecidable _)
/-- The nodes that are reached in k steps. -/
noncomputable def rk (C : Cx) (g k : Nat) : List Nat := (List.range C.n).filter (avB C g k)
theorem filter_le {α : Type} (p q : α → Bool) (h : ∀ x, p x = true → q x = true) : ∀ l : List α, (l.filter p).length ≤ (l.filter q).length ∧ ((l.filter p).length = (l.filter q).length → ∀ x ∈ l, q x = true → p x = true)
  | [] => ⟨by simp, fun _ x hx => by simp at hx⟩
  | a :: l => by
    obtain ⟨h1, h2⟩ := filter_le p q h l
    cases hp : p a <;> cases hq : q a
    · rw [List.filter_cons_of_neg (by simp [hp]), List.filter_cons_of_neg (by simp [hq])]
      exact ⟨h1, fun e x hx hqx => by
        rcases List.mem_cons.1 hx with rfl | hx
        · rw [hq] at hqx; cases hqx
        · exact h2 e x hx hqx⟩
    · rw [List.filter_cons_of_neg (by simp [hp]), List.filter_cons_of_pos hq, List.length_cons]
      exact ⟨by omega, fun e => by omega⟩
    · rw [h a hp] at hq; cases hq
    · rw [List.filter_cons_of_pos hp, List.filter_cons_of_pos hq, List.length_cons, List.length_cons]
      exact ⟨by omega, fun e x hx hqx => by
        rcases List.mem_cons.1 hx with rfl | hx
        · exact hp
        · exact h2 (by omega) x hx hqx⟩
theorem rk_step : (rk C g k).length ≤ (rk C g (k + 1)).length ∧ ((rk C g k).length = (rk C g (k + 1)).length → ∀ v, v < C.n → Av C g (k + 1) v → Av C g k v) := by
  obtain ⟨h1, h2⟩ := filter_le (avB C g k) (avB C g (k + 1)) (fun x hx => avB_iff.2 ((avB_iff.1 hx).mono (by omega))) (List.range C.n)
  exact ⟨h1, fun e v hv ha => avB_iff.1 (h2 e v (List.mem_range.2 hv) (avB_iff.2 ha))⟩
theorem closed_all (h : ∀ v, Av C g (k + 1) v → Av C g k v) (ha : Av C g j v) : Av C g k v := by
  induction ha with
  | start j h1 => exact .start k h1
  | step h1 he hn ih => exact h _ (.step ih he hn)
theorem closes (hC : C.Ok) (g : Nat) : ∀ k, (∃ j, j ≤ k ∧ ∀ v, Av C g (j + 1) v → Av C g j v) ∨ k ≤ (rk C g k).length
  | 0 => .inr (Nat.zero_le _)
  | k + 1 => by
    rcases closes hC g k with ⟨j, h1, h2⟩ | h
    · exact .inl ⟨j, by omega, h2⟩
    · obtain ⟨h1, h2⟩ := rk_step (C := C) (g := g) (k := k)
      by_cases e : (rk C g k).length = (rk C g (k + 1)).length
      · exact .inl ⟨k, by omega, fun v hv => h2 e v (hC.lt v (hv.mem hC)) hv⟩
      · exact .inr (by omega)
/-- n + 1 steps suffice. -/
theorem Av.sat (hC : C.Ok) (h : Av C g j v) : Av C g (C.n + 1) v := by
  rcases closes hC g (C.n + 1) with ⟨i, h1, h2⟩ | h1
  · exact (closed_all h2 h).mono h1
  · have h2 : (rk C g (C.n + 1)).length ≤ C.n := by
      unfold rk; exact Nat.le_trans (List.length_filter_le _ _) (by rw [List.length_range]; exact Nat.le_refl _)
    omega
end
/-- The ancestors in the tree of 'up'; the root is its own. -/
inductive Anc (up : List Int) (r : Nat) : Nat → Nat → Prop
  | refl (v : Nat) : Anc up r v v
  | step {v u a : Nat} : v ≠ r → nth up v = (u : Int) → Anc up r u a → Anc up r v a
/-- A path within smaller nodes. -/
inductive Low (C : Cx) (a : Nat) : Nat → Prop
  | refl : Low C a a
  | step {p v : Nat} : Low C a p → C.E p v → C.S v → C.ord v < C.ord a → Low C a v
structure UpOk (C : Cx) (up : List Int) : Prop where
  len : up.length = C.n
  root : nth up C.r = (C.r : Int)
  lo : ∀ v, v < C.n → -1 ≤ nth up v
  inv : ∀ v, v < C.n → 0 ≤ nth up v → v ≠ C.r → C.S v ∧ ∃ u : Nat, nth up v = (u : Int) ∧ u < C.n ∧ 0 ≤ nth up u ∧ C.ord v < C.ord u
section
variable {C : Cx} {up : List Int} {v a b y : Nat}
/-- It has been met. -/
def Pr (C : Cx) (up : List Int) (v : Nat) : Prop := v < C.n ∧ 0 ≤ nth up v
theorem Pr.S (hC : C.Ok) (h : UpOk C up) (hv : Pr C up v) : C.S v := by
  by_cases e : v = C.r
  · subst e; exact hC.rS
  · exact (h.inv v hv.1 hv.2 e).1
theorem Pr.root (hC : C.Ok) (h : UpOk C up) : Pr C up C.r := ⟨hC.lt _ hC.rS, by rw [h.root]; omega⟩
theorem Pr.above (h : UpOk C up) (hv : Pr C up v) (hr : v ≠ C.r) : ∃ u : Nat, nth up v = (u : Int) ∧ Pr C up u ∧ C.ord v < C.ord u := by
  obtain ⟨-, u, h1, h2, h3, h4⟩ := h.inv v hv.1 hv.2 hr
  exact ⟨u, h1, ⟨h2, h3⟩, h4⟩
theorem Anc.trans {r : Nat} (h : Anc up r v a) (k : Anc up r a b) : Anc up r v b := by
  induction h with
  | refl v => exact k
  | step h1 h2 _ ih => exact .step h1 h2 (ih k)
theorem Anc.ge (h : UpOk C up) (ha : Anc up C.r v a) (hv : Pr C up v) : Pr C up a ∧ (a = v ∨ C.ord v < C.ord a) := by
  induction ha with
  | refl v => exact ⟨hv, .inl rfl⟩
  | @step v u a h1 h2 _ ih =>
    obtain ⟨u', e, h3, h4⟩ := hv.above h h1
    obtain rfl : u = u' := by rw [h2] at e; omega
    obtain ⟨h5, h6⟩ := ih h3
    refine ⟨h5, .inr ?_⟩
    rcases h6 with rfl | h6 <;> omega
theorem Anc.anti (h : UpOk C up) (hv : Pr C up v) (ha : Anc up C.r v a) (hb : Anc up C.r a v) : a = v := by
  obtain ⟨h1, h2⟩ := ha.ge h hv
  rcases h2 with rfl | h2
  · rfl
  · rcases (hb.ge h h1).2 with h3 | h3
    · exact h3.symm
    · omega
theorem Anc.of_step {r : Nat} (ha : Anc up r v a) (hn : a ≠ v) : ∃ u : Nat, v ≠ r ∧ nth up v = (u : Int) ∧ Anc up r u a := by
  cases ha with
  | refl => exact absurd rfl hn
  | step h1 h2 h3 => exact ⟨_, h1, h2, h3⟩
theorem Anc.chain (h : UpOk C up) (ha : Anc up C.r v a) (hv : Pr C up v) (hb : Anc up C.r v b) (hle : C.ord a ≤ C.ord b) : Anc up C.r a b := by
  induction ha with
  | refl v => exact hb
  | @step v u a h1 h2 h3 ih =>
    obtain ⟨u', e, h4, h5⟩ := hv.above h h1
    obtain rfl : u = u' := by rw [h2] at e; omega
    by_cases eb : b = v
    · subst eb
      rcases (h3.ge h h4).2 with rfl | h6 <;> omega
    · obtain ⟨w, -, h6, h7⟩ := hb.of_step eb
      obtain rfl : u = w := by rw [h2] at h6; omega
      exact ih h4 h7 hle
theorem anc_root (hC : C.Ok) (h : UpOk C up) : ∀ (m v : Nat), Pr C up v → C.ord C.r - C.ord v ≤ m → Anc up C.r v C.r
  | 0, v, hv, hm => by
    have h1 := hC.top v (hv.S hC h)
    have h2 := hC.inj v C.r (hv.S hC h) hC.rS (by omega)
    subst h2; exact .refl _
  | m + 1, v, hv, hm => by
    by_cases e : v = C.r
    · subst e; exact .refl _
    · obtain ⟨u, h1, h2, h3⟩ := hv.above h e
      have := hC.top u (h2.S hC h)
      exact .step e h1 (anc_root hC h m u h2 (by omega))
theorem root_anc {r : Nat} (ha : Anc up r r a) : a = r := by
  apply Classical.byContradiction
  intro hn
  obtain ⟨u, h1, -⟩ := ha.of_step hn
  exact h1 rfl
theorem Low.trans {c : Nat} (h : Low C a v) (k : Low C v c) (hlt : C.ord v < C.ord a) : Low C a c := by
  induction k with
  | refl => exact h
  | step _ he hs hl ih => exact .step ih he hs (by omega)
/-- The nearest common ancestor of those of a list that have been met. -/
def Nca (C : Cx) (up : List Int) (ps : List Nat) (f : Int) : Prop :=
  (f = -1 ∧ ∀ p ∈ ps, ¬ Pr C up p) ∨ ∃ x : Nat, f = (x : Int) ∧ Pr C up x ∧ (∃ p ∈ ps, Pr C up p) ∧ ∀ y, Anc up C.r x y ↔ ∀ p ∈ ps, Pr C up p → Anc up C.r p y
theorem Nca.unique (h : UpOk C up) {ps : List Nat} {f f' : Int} (h1 : Nca C up ps f) (h2 : Nca C up ps f') : f = f' := by
  rcases h1 with ⟨rfl, a1⟩ | ⟨x, rfl, b1, ⟨p, hp, hq⟩, d1⟩
  · rcases h2 with ⟨rfl, -⟩ | ⟨x, -, -, ⟨p, hp, hq⟩, -⟩
    · rfl
    · exact absurd hq (a1 p hp)
  · rcases h2 with ⟨rfl, a2⟩ | ⟨x', rfl, b2, -, d2⟩
    · exact absurd hq (a2 p hp)
    · have e1 : Anc up C.r x x' := (d1 x').2 ((d2 x').1 (.refl _))
      have e2 : Anc up C.r x' x := (d2 x).2 ((d1 x).1 (.refl _))
      rw [e1.anti h b1 e2]
theorem Nca.nil (C : Cx) (up : List Int) : Nca C up [] (-1) := .inl ⟨rfl, fun p hp => by simp at hp⟩
theorem Nca.skip {ps : List Nat} {f : Int} (h : Nca C up ps f) {p : Nat} (hp : ¬ Pr C up p) : Nca C up (ps ++ [p]) f := by
  rcases h with ⟨rfl, h1⟩ | ⟨x, rfl, h1, ⟨q, hq, hq2⟩, h3⟩
  · exact .inl ⟨rfl, fun q hq => by
      rcases List.mem_append.1 hq with hq | hq
      · exact h1 q hq
      · rw [List.mem_singleton.1 hq]; exact hp⟩
  · refine .inr ⟨x, rfl, h1, ⟨q, List.mem_append.2 (.inl hq), hq2⟩, fun y => (h3 y).trans ⟨fun h q hq hq2 => ?_, fun h q hq => h q (List.mem_append.2 (.inl hq))⟩⟩
    rcases List.mem_append.1 hq with hq | hq
    · exact h q hq hq2
    · rw [List.mem_singleton.1 hq] at hq2; exact absurd hq2 hp
theorem Nca.first {ps : List Nat} (h : Nca C up ps (-1)) {p : Nat} (hp : Pr C up p) : Nca C up (ps ++ [p]) (p : Int) := by
  rcases h with ⟨-, h1⟩ | ⟨x, e, -⟩
  · refine .inr ⟨p, rfl, hp, ⟨p, by simp, hp⟩, fun y => ⟨fun h q hq hq2 => ?_, fun h => h p (by simp) hp⟩⟩
    rcases List.mem_append.1 hq with hq | hq
    · exact absurd hq2 (h1 q hq)
    · rw [List.mem_singleton.1 hq]; exact h
  · omega
/-- What meet hands back. -/
def MeetIs (C : Cx) (up : List Int) (a b c : Nat) : Prop := Pr C up c ∧ ∀ y, Anc up C.r c y ↔ Anc up C.r a y ∧ Anc up C.r b y
theorem MeetIs.self (h : Pr C up a) : MeetIs C up a a a := ⟨h, fun _ => ⟨fun h => ⟨h, h⟩, fun h => h.1⟩⟩
theorem MeetIs.left (h : UpOk C up) {c u : Nat} (ha : Pr C up a) (hb : Pr C up b) (hlt : C.ord a < C.ord b) (hr : a ≠ C.r) (hu : nth up a = (u : Int)) (hm : MeetIs C up u b c) : MeetIs C up a b c := by
  refine ⟨hm.1, fun y => (hm.2 y).trans ⟨fun k => ⟨.step hr hu k.1, k.2⟩, fun k => ⟨?_, k.2⟩⟩⟩
  have hn : y ≠ a := fun e => by
    subst e
    rcases (k.2.ge h hb).2 with e | e
    · subst e; omega
    · omega
  obtain ⟨u', -, h2, h3⟩ := k.1.of_step hn
  obtain rfl : u = u' := by rw [hu] at h2; omega
  exact h3
theorem MeetIs.symm {c : Nat} (hm : MeetIs C up a b c) : MeetIs C up b a c := ⟨hm.1, fun y => (hm.2 y).trans And.comm⟩
theorem Nca.meet {ps : List Nat} {x p c : Nat} (h : Nca C up ps (x : Int)) (hp : Pr C up p) (hm : MeetIs C up x p c) : Nca C up (ps ++ [p]) (c : Int) := by
  rcases h with ⟨e, -⟩ | ⟨x', e, h1, ⟨q, hq, hq2⟩, h3⟩
  · omega
  · obtain rfl : x = x' := by omega
    refine .inr ⟨c, rfl, hm.1, ⟨p, by simp, hp⟩, fun y => ⟨fun h q hq hq2 => ?_, fun h => (hm.2 y).2 ⟨(h3 y).2 fun q hq hq2 => h q (List.mem_append.2 (.inl hq)) hq2, h p (by simp) hp⟩⟩⟩
    rcases List.mem_append.1 hq with hq | hq
    · exact (h3 y).1 ((hm.2 y).1 h).1 q hq hq2
    · rw [List.mem_singleton.1 hq]; exact ((hm.2 y).1 h).2
end
end Go.Dm

/- Plain: dominators, one step and the passes. -/
namespace Go.Dm
open Go.Dfl (nth nth_set nth_mem mem_nth nth_eq nth_ext)
/-- The state of the iteration. -/
structure Inv (C : Cx) (up : List Int) : Prop where
  ok : UpOk C up
  low : ∀ v a, Pr C up v → Anc up C.r v a → Low C a v
  snd : ∀ v d, Pr C up v → Dom C v d → Anc up C.r v d
/-- After k passes. -/
def Lv (C : Cx) (up : List Int) (k : Nat) : Prop := ∀ v g, Av C g k v → Pr C up v ∧ ¬ Anc up C.r v g
section
variable {C : Cx} {up : List Int} {v a b y x : Nat}
theorem set_at (h : UpOk C up) (hv : v < C.n) (f : Int) : nth (up.set v f) v = f := by rw [nth_set, if_pos ⟨rfl, by rw [h.len]; exact hv⟩]
theorem set_ne {w : Nat} (f : Int) (hn : v ≠ w) : nth (up.set v f) w = nth up w := by rw [nth_set, if_neg fun e => hn e.1]
/-- Above v nothing changes. -/
theorem anc_frame (h : UpOk C up) {f : Int} (ha : Anc up C.r y a) (hy : Pr C up y) (hlt : C.ord v < C.ord y) : Anc (up.set v f) C.r y a := by
  induction ha with
  | refl y => exact .refl y
  | @step y u a h1 h2 h3 ih =>
    obtain ⟨u', e, h4, h5⟩ := hy.above h h1
    obtain rfl : u = u' := by rw [h2] at e; omega
    exact .step h1 (by rw [set_ne _ (fun e => by subst e; omega)]; exact h2) (ih h4 (by omega))
theorem anc_frame' (h : UpOk C up) {f : Int} (ha : Anc (up.set v f) C.r y a) (hy : Pr C up y) (hlt : C.ord v < C.ord y) : Anc up C.r y a := by
  induction ha with
  | refl y => exact .refl y
  | @step y u a h1 h2 h3 ih =>
    obtain ⟨u', e, h4, h5⟩ := hy.above h h1
    rw [set_ne _ (fun e => by subst e; omega)] at h2
    obtain rfl : u = u' := by rw [h2] at e; omega
    exact .step h1 h2 (ih h4 (by omega))
/-- The ancestors after the step, from those before. -/
theorem anc_new (hC : C.Ok) (h : UpOk C up) (hv : C.S v) (hx : Pr C up x) (hlt : C.ord v < C.ord x) (ha : Anc (up.set v (x : Int)) C.r y a) : (Anc up C.r y a ∧ (¬ Anc up C.r y v ∨ Anc up C.r a v)) ∨ ((y = v ∨ Anc up C.r y v) ∧ Anc up C.r x a) := by
  induction ha with
  | refl y =>
    refine .inl ⟨.refl _, ?_⟩
    by_cases e : Anc up C.r y v
    · exact .inr e
    · exact .inl e
  | @step y u a h1 h2 h3 ih =>
    by_cases e : y = v
    · subst e
      rw [set_at h (hC.lt _ hv)] at h2
      obtain rfl : x = u := by omega
      exact .inr ⟨.inl rfl, anc_frame' h h3 hx hlt⟩
    · rw [set_ne _ (Ne.symm e)] at h2
      rcases ih with ⟨k1, k2⟩ | ⟨k1, k2⟩
      · refine .inl ⟨.step h1 h2 k1, ?_⟩
        rcases k2 with k2 | k2
        · refine .inl fun hn => k2 ?_
          obtain ⟨u', -, e2, k3⟩ := hn.of_step (Ne.symm e)
          obtain rfl : u = u' := by rw [h2] at e2; omega
          exact k3
        · exact .inr k2
      · refine .inr ⟨.inr ?_, k2⟩
        rcases k1 with rfl | k1
        · exact .step h1 h2 (.refl _)
        · exact .step h1 h2 k1
theorem anc_keep (h : UpOk C up) {f : Int} (ha : Anc up C.r y a) (hy : Pr C up y) (hc : ¬ Anc up C.r y v ∨ Anc up C.r a v) : Anc (up.set v f) C.r y a := by
  induction ha with
  | refl y => exact .refl y
  | @step y u a h1 h2 h3 ih =>
    obtain ⟨u', e, h4, h5⟩ := hy.above h h1
    obtain rfl : u = u' := by rw [h2] at e; omega
    by_cases e : y = v
    · subst e
      rcases hc with hc | hc
      · exact absurd (.refl _) hc
      · rw [Anc.anti h hy (.step h1 h2 h3) hc]; exact .refl _
    · refine .step h1 (by rw [set_ne _ (Ne.symm e)]; exact h2) (ih h4 ?_)
      rcases hc with hc | hc
      · exact .inl fun hn => hc (.step h1 h2 hn)
      · exact .inr hc
theorem anc_via (hC : C.Ok) (h : UpOk C up) (hv : C.S v) (hr : v ≠ C.r) (hx : Pr C up x) (hlt : C.ord v < C.ord x) (hy : y = v ∨ (Pr C up y ∧ Anc up C.r y v)) (ha : Anc up C.r x a) : Anc (up.set v (x : Int)) C.r y a := by
  have h1 : Anc (up.set v (x : Int)) C.r v a := .step hr (set_at h (hC.lt _ hv) _) (anc_frame h ha hx hlt)
  rcases hy with rfl | ⟨hp, hy⟩
  · exact h1
  · exact (anc_keep h hy hp (.inr (.refl _))).trans h1
theorem pr_new (hC : C.Ok) (h : UpOk C up) (hv : C.S v) {f : Int} (hf : 0 ≤ f) : Pr C (up.set v f) y ↔ Pr C up y ∨ y = v := by
  unfold Pr
  by_cases e : y = v
  · subst e
    rw [set_at h (hC.lt _ hv)]
    exact ⟨fun _ => .inr rfl, fun _ => ⟨hC.lt _ hv, hf⟩⟩
  · rw [set_ne _ (Ne.symm e)]
    exact ⟨fun k => .inl k, fun k => k.elim id fun e2 => absurd e2 e⟩
/-- What one step brings. -/
structure Stp (C : Cx) (up up' : List Int) (v : Nat) : Prop where
  inv : Inv C up'
  pr : ∀ y, Pr C up' y ↔ Pr C up y ∨ y = v
  lv : ∀ k, Lv C up k → Lv C up' k
  new : ∀ k, Lv C up k → ∀ g, Av C g (k + 1) v → ¬ Anc up' C.r v g
  old : ∀ y a, Pr C up y → C.ord v < C.ord y → Anc up' C.r y a → Anc up C.r y a
theorem step_inv (hC : C.Ok) (h : Inv C up) (hv : C.S v) (hr : v ≠ C.r) {ps : List Nat} (hps : ∀ p, C.S p → (p ∈ ps ↔ C.E p v)) (hpar : ∀ p, C.S p → C.ord v < C.ord p → Pr C up p) {f : Int} (hf : Nca C up ps f) : 0 ≤ f ∧ Stp C up (up.set v f) v := by
  have hok := h.ok
  obtain ⟨p0, s0, e0, o0⟩ := hC.par v hv hr
  have hp0 := hpar p0 s0 o0
  rcases hf with ⟨-, h1⟩ | ⟨x, rfl, hx, -, hA⟩
  · exact absurd hp0 (h1 p0 ((hps p0 s0).2 e0))
  have hx0 : Anc up C.r p0 x := (hA x).1 (.refl _) p0 ((hps p0 s0).2 e0) hp0
  have hlt : C.ord v < C.ord x := by rcases (hx0.ge hok hp0).2 with rfl | h2 <;> omega
  have hpr : ∀ y, Pr C (up.set v (x : Int)) y ↔ Pr C up y ∨ y = v := fun y => pr_new hC hok hv (by omega)
  have hvn := hC.lt v hv
  have hok' : UpOk C (up.set v (x : Int)) := by
    refine ⟨by rw [List.length_set]; exact hok.len, by rw [set_ne _ hr]; exact hok.root, fun y hy => ?_, fun y hy h0 hyr => ?_⟩
    · by_cases e : y = v
      · subst e; rw [set_at hok hvn]; omega
      · rw [set_ne _ (Ne.symm e)]; exact hok.lo y hy
    · by_cases e : y = v
      · subst e
        exact ⟨hv, x, set_at hok hvn _, hx.1, ((hpr x).2 (.inl hx)).2, hlt⟩
      · rw [set_ne _ (Ne.symm e)] at h0 ⊢
        obtain ⟨k1, u, k2, k3, k4, k5⟩ := hok.inv y hy h0 hyr
        exact ⟨k1, u, k2, k3, ((hpr u).2 (.inl ⟨k3, k4⟩)).2, k5⟩
  have hlow0 : ∀ a, Anc up C.r x a → Low C a v := fun a ha => by
    have k1 := hx0.trans ha
    have k2 := (k1.ge hok hp0).2
    refine .step (h.low p0 a hp0 k1) e0 hv ?_
    rcases k2 with rfl | k2 <;> omega
  have hordx : ∀ a, Anc up C.r x a → C.ord v < C.ord a := fun a ha => by
    rcases (ha.ge hok hx).2 with rfl | k <;> omega
  have hsnd : ∀ d, Dom C v d → d = v ∨ Anc up C.r x d := fun d hd => by
    by_cases e : d = v
    · exact .inl e
    · exact .inr ((hA d).2 fun p hp hq => h.snd p d hq (hd.pred e (hq.S hC hok) ((hps p (hq.S hC hok)).1 hp)))
  have hnew : ∀ k, Lv C up k → ∀ g, Av C g (k + 1) v → ¬ Anc (up.set v (x : Int)) C.r v g := fun k hk g hg ha => by
    have hgv := hg.ne
    rcases anc_new hC hok hv hx hlt ha with ⟨k1, k2⟩ | ⟨-, k2⟩
    · obtain ⟨u, -, e2, k3⟩ := ha.of_step (Ne.symm hgv)
      rw [set_at hok hvn] at e2
      obtain rfl : x = u := by omega
      have k4 := anc_frame' hok k3 hx hlt
      cases hg with
      | start k h => exact hr rfl
      | @step k p v h1 he hn =>
        obtain ⟨m1, m2⟩ := hk p g h1
        exact m2 ((hA g).1 k4 p ((hps p (m1.S hC hok)).2 he) m1)
    · cases hg with
      | start k h => exact hr rfl
      | @step k p v h1 he hn =>
        obtain ⟨m1, m2⟩ := hk p g h1
        exact m2 ((hA g).1 k2 p ((hps p (m1.S hC hok)).2 he) m1)
  refine ⟨by omega, ⟨hok', fun y a hy ha => ?_, fun y d hy hd => ?_⟩, hpr, fun k hk y g hg => ?_, hnew, fun y a hy hlt2 ha => anc_frame' hok ha hy hlt2⟩
  · rcases anc_new hC hok hv hx hlt ha with ⟨k1, -⟩ | ⟨k1, k2⟩
    · rcases (hpr y).1 hy with k3 | rfl
      · exact h.low y a k3 k1
      · by_cases e : a = y
        · subst e; exact .refl
        · obtain ⟨u, -, e2, k3⟩ := ha.of_step e
          rw [set_at hok hvn] at e2
          obtain rfl : x = u := by omega
          exact hlow0 a (anc_frame' hok k3 hx hlt)
    · rcases k1 with rfl | k1
      · exact hlow0 a k2
      · rcases (hpr y).1 hy with k3 | rfl
        · exact (hlow0 a k2).trans (h.low y v k3 k1) (hordx a k2)
        · exact hlow0 a k2
  · have hvd : ∀ d, Dom C v d → Anc (up.set v (x : Int)) C.r v d := fun d hd => by
      rcases hsnd d hd with rfl | k
      · exact .refl _
      · exact anc_via hC hok hv hr hx hlt (.inl rfl) k
    rcases (hpr y).1 hy with k3 | rfl
    · have k4 := h.snd y d k3 hd
      by_cases hyv : Anc up C.r y v
      · by_cases hle : C.ord d ≤ C.ord v
        · exact anc_keep hok k4 k3 (.inr (k4.chain hok k3 hyv hle))
        · have hdv : Dom C v d := by
            refine ⟨hv, fun k hk => ?_⟩
            have hl := h.low y v k3 hyv
            have : ∀ z, Low C v z → ∃ k, Av C d k z := fun z hz => by
              induction hz with
              | refl => exact ⟨k, hk⟩
              | step _ he hs hlt2 ih =>
                obtain ⟨j, hj⟩ := ih
                exact ⟨j + 1, .step hj he (fun e => by subst e; omega)⟩
            obtain ⟨j, hj⟩ := this y hl
            exact hd.2 j hj
          exact (anc_keep hok hyv k3 (.inr (.refl _))).trans (hvd d hdv)
      · exact anc_keep hok k4 k3 (.inl hyv)
    · exact hvd d hd
  · obtain ⟨m1, m2⟩ := hk y g hg
    refine ⟨(hpr y).2 (.inl m1), fun ha => ?_⟩
    rcases anc_new hC hok hv hx hlt ha with ⟨k1, -⟩ | ⟨k1, k2⟩
    · exact m2 k1
    · have hyv : Anc up C.r y v := by
        rcases k1 with rfl | k1
        · exact .refl _
        · exact k1
      rcases hg.or v with k3 | k3
      · exact hnew k hk g (k3.mono (by omega)) (anc_via hC hok hv hr hx hlt (.inl rfl) k2)
      · exact (hk y v k3).2 hyv
/-- With all paths seen the step changes nothing. -/
theorem step_same (hC : C.Ok) (h : Inv C up) (hl : Lv C up (C.n + 1)) (hv : C.S v) (hr : v ≠ C.r) {ps : List Nat} (hps : ∀ p, C.S p → (p ∈ ps ↔ C.E p v)) {f : Int} (hf : Nca C up ps f) : f = nth up v := by
  have hok := h.ok
  have hall : ∀ w, C.S w → Pr C up w := fun w hw => by
    obtain ⟨k, hk⟩ := exists_path hC _ w hw (Nat.le_refl _)
    exact (hl w _ (hk.sat hC)).1
  have hD : ∀ w g, C.S w → (Anc up C.r w g ↔ Dom C w g) := fun w g hw => ⟨fun ha => ⟨hw, fun k hk => (hl w g (hk.sat hC)).2 ha⟩, fun hd => h.snd w g (hall w hw) hd⟩
  obtain ⟨u, hu, hpu, hou⟩ := (hall v hv).above hok hr
  refine Nca.unique hok hf (.inr ⟨u, hu, hpu, ?_, fun y => ?_⟩)
  · obtain ⟨p0, s0, e0, -⟩ := hC.par v hv hr
    exact ⟨p0, (hps p0 s0).2 e0, hall p0 s0⟩
  · constructor
    · intro ha p hp hq
      have hn : y ≠ v := fun e => by
        subst e
        rcases (ha.ge hok hpu).2 with rfl | k <;> omega
      have hS := hq.S hC hok
      rw [hD p y hS]
      exact ((hD v y hv).1 (.step hr hu ha)).pred hn hS ((hps p hS).1 hp)
    · intro ha
      obtain ⟨p0, s0, e0, o0⟩ := hC.par v hv hr
      have k0 := ha p0 ((hps p0 s0).2 e0) (hall p0 s0)
      have hn : y ≠ v := fun e => by
        subst e
        rcases (k0.ge hok (hall p0 s0)).2 with rfl | k <;> omega
      have hd : Dom C v y := dom_of_preds hC hv hr fun p hp he => (hD p y hp).1 (ha p ((hps p hp).2 he) (hall p hp))
      obtain ⟨u', -, e2, k3⟩ := ((hD v y hv).2 hd).of_step hn
      obtain rfl : u = u' := by rw [hu] at e2; omega
      exact k3
/-- The state within a pass: the nodes from i on have been dealt with. -/
structure Pas (C : Cx) (P : Nat → List Nat) (k i : Nat) (up : List Int) (again : Bool) : Prop where
  inv : Inv C up
  lv : Lv C up k
  nx : ∀ v g, C.S v → i ≤ C.ord v → Av C g (k + 1) v → ¬ Anc up C.r v g
  dn : ∀ v, C.S v → i ≤ C.ord v → Pr C up v
  sm : again = false → ∀ v, C.S v → v ≠ C.r → i ≤ C.ord v → Nca C up (P v) (nth up v)
  ag : again = true → k ≤ C.n
theorem Pas.start (hC : C.Ok) {P : Nat → List Nat} {k : Nat} (h : Inv C up) (hl : Lv C up k) : Pas C P k (C.ord C.r) up false := by
  have hr : ∀ v, C.S v → C.ord C.r ≤ C.ord v → v = C.r := fun v hv hle => hC.inj v C.r hv hC.rS (by have := hC.top v hv; omega)
  refine ⟨h, hl, fun v g hv hi hg ha => ?_, fun v hv hi => ?_, fun _ v hv hn hi => absurd (hr v hv hi) hn, fun h => (by cases h)⟩
  · obtain rfl := hr v hv hi
    exact hg.ne (root_anc ha).symm
  · rw [hr v hv hi]; exact Pr.root hC h.ok
theorem Pas.keep (hC : C.Ok) {P : Nat → List Nat} (hP : ∀ v p, C.S v → C.S p → (p ∈ P v ↔ C.E p v)) {k : Nat} {again : Bool} (h : Pas C P k (C.ord v + 1) up again) (hv : C.S v) (hr : v ≠ C.r) (hf : Nca C up (P v) (nth up v)) : Pas C P k (C.ord v) up again := by
  have hat : ∀ w, C.S w → C.ord v ≤ C.ord w → w = v ∨ C.ord v + 1 ≤ C.ord w := fun w hw hle => by
    by_cases e : C.ord w = C.ord v
    · exact .inl (hC.inj w v hw hv e)
    · exact .inr (by omega)
  obtain ⟨h0, hs⟩ := step_inv hC h.inv hv hr (fun p hp => hP v p hv hp) (fun p hp ho => h.dn p hp (by omega)) hf
  have hset : up.set v (nth up v) = up := nth_ext (by simp) fun i hi => by
    rw [nth_set]; split
    · rename_i e; rw [e.1]
    · rfl
  rw [hset] at hs
  refine ⟨h.inv, h.lv, fun w g hw hi hg => ?_, fun w hw hi => ?_, fun ha w hw hn hi => ?_, h.ag⟩
  · rcases hat w hw hi with rfl | hi
    · exact hs.new k h.lv g hg
    · exact h.nx w g hw hi hg
  · rcases hat w hw hi with rfl | hi
    · exact (hs.pr w).2 (.inr rfl)
    · exact h.dn w hw hi
  · rcases hat w hw hi with rfl | hi
    · exact hf
    · exact h.sm ha w hw hn hi
theorem Pas.change (hC : C.Ok) {P : Nat → List Nat} (hP : ∀ v p, C.S v → C.S p → (p ∈ P v ↔ C.E p v)) {k : Nat} (hk : k ≤ C.n + 1) {again : Bool} (h : Pas C P k (C.ord v + 1) up again) (hv : C.S v) (hr : v ≠ C.r) {f : Int} (hf : Nca C up (P v) f) (hne : f ≠ nth up v) : Pas C P k (C.ord v) (up.set v f) true := by
  have hat : ∀ w, C.S w → C.ord v ≤ C.ord w → w = v ∨ C.ord v + 1 ≤ C.ord w := fun w hw hle => by
    by_cases e : C.ord w = C.ord v
    · exact .inl (hC.inj w v hw hv e)
    · exact .inr (by omega)
  obtain ⟨h0, hs⟩ := step_inv hC h.inv hv hr (fun p hp => hP v p hv hp) (fun p hp ho => h.dn p hp (by omega)) hf
  refine ⟨hs.inv, hs.lv k h.lv, fun w g hw hi hg => ?_, fun w hw hi => ?_, fun ha => (by cases ha), fun _ => ?_⟩
  · rcases hat w hw hi with rfl | hi
    · exact hs.new k h.lv g hg
    · exact fun ha => h.nx w g hw hi hg (hs.old w g (h.dn w hw hi) (by omega) ha)
  · rcases hat w hw hi with rfl | hi
    · exact (hs.pr w).2 (.inr rfl)
    · exact (hs.pr w).2 (.inl (h.dn w hw hi))
  · apply Classical.byContradiction
    intro hgt
    obtain rfl : k = C.n + 1 := by omega
    exact hne (step_same hC h.inv h.lv hv hr (fun p hp => hP v p hv hp) hf)
theorem Pas.next {P : Nat → List Nat} (hC : C.Ok) {k : Nat} {again : Bool} (h : Pas C P k 0 up again) : Inv C up ∧ Lv C up (k + 1) :=
  ⟨h.inv, fun v g hg => ⟨h.dn v (hg.mem hC) (Nat.zero_le _), h.nx v g (hg.mem hC) (Nat.zero_le _) hg⟩⟩
/-- The end: the ancestors are the dominators. -/
theorem Pas.fin {P : Nat → List Nat} (hC : C.Ok) (hP : ∀ v p, C.S v → C.S p → (p ∈ P v ↔ C.E p v)) {k : Nat} (h : Pas C P k 0 up false) : (∀ v, C.S v → Pr C up v) ∧ ∀ v g, C.S v → (Anc up C.r v g ↔ Dom C v g) := by
  have hok := h.inv.ok
  have hall : ∀ v, C.S v → Pr C up v := fun v hv => h.dn v hv (Nat.zero_le _)
  refine ⟨hall, fun v g hv => ⟨fun ha => ⟨hv, fun j hj => ?_⟩, fun hd => h.inv.snd v g (hall v hv) hd⟩⟩
  have : ∀ w, Av C g j w → ¬ Anc up C.r w g := fun w hw => by
    clear hj ha hv
    induction hw with
    | start k hn => exact fun ha => hn (root_anc ha).symm
    | @step k p w h1 he hn ih =>
      intro ha
      have hpS := h1.mem hC
      have hwS := hC.cl _ _ hpS he
      by_cases e : w = C.r
      · subst e; exact hn (root_anc ha).symm
      · obtain ⟨u, -, hu, k3⟩ := ha.of_step (Ne.symm hn)
        rcases h.sm rfl w hwS e (Nat.zero_le _) with ⟨e1, -⟩ | ⟨x, e1, hx, -, hA⟩
        · rw [hu] at e1; omega
        · obtain rfl : u = x := by rw [hu] at e1; omega
          exact ih ((hA g).1 k3 p ((hP w p hwS hpS).2 he) (hall p hpS))
  exact this v hj ha
/-- The start: the root alone has been met. -/
theorem Inv.start (hC : C.Ok) (hlen : up.length = C.n) (hroot : nth up C.r = (C.r : Int)) (hneg : ∀ v, v < C.n → v ≠ C.r → nth up v = -1) : Inv C up ∧ Lv C up 0 := by
  have hpr : ∀ v, Pr C up v → v = C.r := fun v hv => by
    apply Classical.byContradiction
    intro hn
    have := hneg v hv.1 hn
    have := hv.2
    omega
  have hok : UpOk C up := ⟨hlen, hroot, fun v hv => by
    by_cases e : v = C.r
    · subst e; rw [hroot]; omega
    · rw [hneg v hv e]; omega, fun v hv h0 hn => absurd (hpr v ⟨hv, h0⟩) hn⟩
  refine ⟨⟨hok, fun v a hv ha => ?_, fun v d hv hd => ?_⟩, fun v g hg => ?_⟩
  · obtain rfl := hpr v hv
    rw [root_anc ha]; exact .refl
  · obtain rfl := hpr v hv
    rw [dom_root hd]; exact .refl _
  · cases hg with
    | start _ hn => exact ⟨Pr.root hC hok, fun ha => hn (root_anc ha).symm⟩
end
end Go.Dm
