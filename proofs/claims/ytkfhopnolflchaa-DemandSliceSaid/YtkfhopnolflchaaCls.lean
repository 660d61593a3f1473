/- Contract of Closed. -/
import Derived.Test.YtkfhopnolflchaaSat
namespace Go.And
open Go.Dfl (nth nth_mem mem_nth nth_eq nth_append)
/-- What Closed asks. -/
structure ClosedP (s : Sy) (a1 a2 : List (List Int)) : Prop where
  chk : chkCode s = 0
  l1 : a1.length = s.S.vars
  l2 : a2.length = s.S.sites * s.S.fields
  ok : ∀ i, i < (a1 ++ a2).length → subB (nth (a1 ++ a2) i) s.sites = true ∧ ascB (nth (a1 ++ a2) i) = true
  shut : Shut s.S (fun i x => (x : Int) ∈ nth (a1 ++ a2) i)
def memP (ll : List (List Int)) (i x : Nat) : Bool := decide ((x : Int) ∈ nth ll i)
end Go.And
namespace Go.Proofs.Ytkfhopnolflchaa
open Go.RowKit Go.Dfl Go.And

theorem IsS.zero {rl : Nat → Nat} {W : World} {v : Value} {p : Nat → Bool} (h : IsS rl W v p) : IsS (fun _ => 0) W v p := by
  obtain ⟨r, h1, h2, h3, h4, -⟩ := h
  exact ⟨r, h1, h2, h3, h4, fun _ _ _ => rfl⟩
theorem _root_.Go.And.Sm.bnd {s : Sy} (h : Sm s) : Bnd s.S := ⟨by have := h.vars; show s.vars.toNat ≤ 40; omega, by have := h.sites; show s.sites.toNat ≤ 12; omega, by have := h.fields; show s.fields.toNat ≤ 5; omega, by show (s.cons.map R.C).length ≤ 101; rw [List.length_map]; exact h.cons⟩
/-- The sets so far. -/
structure Gath (B n : Nat) (ll : List (List Int)) (sites : Int) (rl : Nat → Nat) (W0 W : World) (v : Value) (vs : List Value) : Prop where
  sets : SetsC n rl B 1 W v vs (memP ll)
  fr : ∀ k, W.heap.size ≤ k → rl k = 0
  ok : ∀ i, i < n → subB (nth ll i) sites = true ∧ ascB (nth ll i) = true
  bel : Below B W0 W
theorem Gath.start {B : Nat} {ll : List (List Int)} {sites : Int} {W : World} : Gath B 0 ll sites (fun _ => 0) W W (.slice none 0 0) [] :=
  ⟨⟨Own.nil _ _ _ _, fun k hk => by simp [Value.ownBlock] at hk, rfl, fun i hi => by omega⟩, fun _ _ => rfl, fun i hi => by omega, Below.refl _ _⟩
theorem Gath.keep {B n : Nat} {ll : List (List Int)} {sites : Int} {rl : Nat → Nat} {W0 W W' : World} {v : Value} {vs : List Value} (h : Gath B n ll sites rl W0 W v vs) (hB : B ≤ W.heap.size) (hg : W.grownBy W' none) : Gath B n ll sites rl W0 W' v vs := by
  have hs : Stp rl rl 99 W W' none := ⟨hg, by simp, .inr rfl, fun _ _ => rfl⟩
  exact ⟨h.sets.step hs (by omega), fun k hk => h.fr k (Nat.le_trans hg.size hk), h.ok, h.bel.grown hg hB (by simp)⟩
theorem Gath.push {B n : Nat} {ll : List (List Int)} {sites : Int} {rl : Nat → Nat} {W0 W W' : World} {v v' u : Value} {vs : List Value} (h : Gath B n ll sites rl W0 W v vs) (hB : B ≤ W.heap.size) (hu : IsS rl W u (memP ll n)) (hok : subB (nth ll n) sites = true ∧ ascB (nth ll n) = true)
    (ho : Own (fun x : Value => x) W' B 60 v' (vs ++ [u])) (hg : W.grownBy W' v.ownBlock) (hl : v'.ownBlock = v.ownBlock ∨ v'.ownBlock = some W.heap.size) : Gath B (n + 1) ll sites (rol rl 1 v') W0 W' v' (vs ++ [u]) := by
  have hs := stp_app hg (X := 1) (by omega) h.sets.role hl
  refine ⟨⟨ho, fun k hk => by unfold rol; rw [if_pos hk], by simp [h.sets.len], fun i hi => ?_⟩, rol_fr h.fr hg.size (fun k hk => (ho.lt k hk).2), fun i hi => ?_, h.bel.grown hg hB (fun k hk => (h.sets.own.lt k hk).1)⟩
  · rw [nth_append]
    by_cases e : i < vs.length
    · rw [if_pos e]
      exact (h.sets.mean i (by rw [← h.sets.len]; exact e)).step hs
    · rw [if_neg e]
      have hi' : i = n := by have := h.sets.len; omega
      subst hi'
      have : i - vs.length = 0 := by have := h.sets.len; omega
      rw [this]
      exact hu.step hs
  · by_cases e : i < n
    · exact h.ok i e
    · have : i = n := by omega
      subst this; exact hok

def posn (a1 a2 : List (List Int)) : Nat → Nat
  | 0 => 0
  | 1 => a1.length
  | _ => a1.length + a2.length
end Go.Proofs.Ytkfhopnolflchaa
