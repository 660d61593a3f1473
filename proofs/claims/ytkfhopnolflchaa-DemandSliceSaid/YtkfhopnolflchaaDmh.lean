/- Memory of a demand query's first pass: the constraints by what they lead into. -/
import Derived.Test.YtkfhopnolflchaaDmm
namespace Go.Proofs.Ytkfhopnolflchaa
open Go.RowKit Go.Dfl Go.And

theorem put2 {w w' : World} {base : Nat} {e : TypeId} {a : Option Addr} {n c : Nat} {v2 u : Value} {vs vs2 : List Value} {ll ll2 : List (List Int)} {l : List Int} (h : OwnN IInt w base e (.slice a n c) vs ll) (h2 : OwnN IInt w base e v2 vs2 ll2) (dis : ∀ k, Foot (.slice a n c) vs k → ¬ Foot v2 vs2 k) {i : Nat} (hi : i < ll.length)
    (hg : w.grownBy w' (nth vs i).ownBlock) (hu : IInt w' base u l) (hl : u.ownBlock = (nth vs i).ownBlock ∨ u.ownBlock = some w.heap.size) :
    OwnN IInt (w'.setCell ⟨blk a, ofs a + i, none⟩ u) base e (.slice a n c) (vs.set i u) (ll.set i l) ∧ OwnN IInt (w'.setCell ⟨blk a, ofs a + i, none⟩ u) base e v2 vs2 ll2 ∧ ∀ k, Foot (.slice a n c) (vs.set i u) k → ¬ Foot v2 vs2 k := by
  have hvl : i < vs.length := by rw [h.len]; exact hi
  have hob : (Value.slice a n c).ownBlock = some (blk a) := own_block h.out hvl
  refine ⟨OwnN.put kInt h hi hg hu fun k hk => ?_, (h2.grown kInt hg fun k e => dis k (.inr ⟨i, hvl, e⟩)).grown kInt (grownBy_setCell _ _ _) fun k e => ?_, fun k hk hf => ?_⟩
  · rcases hl with e1 | e1
    · left; rw [← e1]; exact hk
    · right; rw [e1] at hk; simp at hk; omega
  · refine dis k (.inl ?_)
    rw [hob, ← e]
  · rcases hk with hk | ⟨j, hj, hk⟩
    · exact dis k (.inl hk) hf
    · rw [nth_set] at hk
      simp at hj
      by_cases e1 : i = j
      · rw [if_pos ⟨e1, hvl⟩] at hk
        rcases hl with e2 | e2
        · rw [e2] at hk; exact dis k (.inr ⟨i, hvl, hk⟩) hf
        · rw [e2] at hk; simp at hk
          have := (h2.foot kInt k hf).2
          omega
      · rw [if_neg (by omega)] at hk
        exact dis k (.inr ⟨j, hj, hk⟩) hf

structure PH (S : Syst) (Bi k : Nat) (ia : Option Addr) (ic : Nat) (ja : Option Addr) (jc : Nat) (us ws : List Value) (ll ss : List (List Int)) (W0 W : World) : Prop where
  o1 : OwnN IInt W Bi 27 (.slice ia S.vars ic) us ll
  o2 : OwnN IInt W Bi 27 (.slice ja S.fields jc) ws ss
  dis : ∀ k, Foot (.slice ia S.vars ic) us k → ¬ Foot (.slice ja S.fields jc) ws k
  l1 : ll.length = S.vars
  l2 : ss.length = S.fields
  m1 : ∀ b, b < S.vars → nth ll b = (intoL S b k).map fun x : Nat => (x : Int)
  m2 : ∀ f, f < S.fields → nth ss f = (storL S f k).map fun x : Nat => (x : Int)
  bel : Below Bi W0 W
  sz : Bi ≤ W0.heap.size

section
variable {S : Syst} {Bi k : Nat} {ia : Option Addr} {ic : Nat} {ja : Option Addr} {jc : Nat} {us ws : List Value} {ll ss : List (List Int)} {W0 W W1 W2 : World}
theorem PH.keep (h : PH S Bi k ia ic ja jc us ws ll ss W0 W) (hg : W.grownBy W1 none) : PH S Bi k ia ic ja jc us ws ll ss W0 W1 :=
  ⟨h.o1.grown kInt hg (by simp), h.o2.grown kInt hg (by simp), h.dis, h.l1, h.l2, h.m1, h.m2, h.bel.grown hg (Nat.le_trans h.sz h.bel.size) (by simp), h.sz⟩
theorem PH.skip (h : PH S Bi k ia ic ja jc us ws ll ss W0 W) (hk : (nth S.cons k).k = 1) : PH S Bi (k + 1) ia ic ja jc us ws ll ss W0 W :=
  ⟨h.o1, h.o2, h.dis, h.l1, h.l2, fun b hb => by rw [intoL_succ, if_neg (by unfold Flw; omega), List.append_nil]; exact h.m1 b hb, fun f hf => by rw [storL_succ, if_neg (by omega), List.append_nil]; exact h.m2 f hf, h.bel, h.sz⟩
theorem PH.into (h : PH S Bi k ia ic ja jc us ws ll ss W0 W) {b : Nat} (hF : Flw (nth S.cons k)) (hb : (nth S.cons k).b = b) (hbv : b < S.vars) {u : Value} (g1 : W.grownBy W1 none) (ho : OwnI W2 Bi 3 u (nth ll b ++ [(k : Int)])) (g2 : W1.grownBy W2 (nth us b).ownBlock) (hl : u.ownBlock = (nth us b).ownBlock ∨ u.ownBlock = some W1.heap.size) :
    PH S Bi (k + 1) ia ic ja jc (us.set b u) ws (ll.set b (nth ll b ++ [(k : Int)])) ss W0 (W2.setCell ⟨blk ia, ofs ia + b, none⟩ u) := by
  have hk := h.keep g1
  have hbl : b < ll.length := by rw [h.l1]; exact hbv
  obtain ⟨r1, r2, r3⟩ := put2 hk.o1 hk.o2 hk.dis hbl g2 ho hl
  refine ⟨r1, r2, r3, by simp [h.l1], h.l2, fun b2 hb2 => ?_, fun f hf => ?_, ?_, h.sz⟩
  · rw [nth_set, intoL_succ]
    by_cases e : b = b2
    · subst e
      rw [if_pos ⟨rfl, hbl⟩, if_pos ⟨hF, hb⟩, h.m1 _ hbv, List.map_append]; rfl
    · rw [if_neg (by omega), if_neg (by omega), List.append_nil]; exact h.m1 b2 hb2
  · rw [storL_succ, if_neg (by unfold Flw at hF; omega), List.append_nil]; exact h.m2 f hf
  · have hsz := Nat.le_trans h.sz hk.bel.size
    have b1 := hk.bel.grown g2 hsz fun m hm => (hk.o1.foot kInt m (.inr ⟨b, by rw [hk.o1.len]; exact hbl, hm⟩)).1
    exact b1.setCell (show Bi ≤ (⟨blk ia, ofs ia + b, none⟩ : Addr).block from (hk.o1.out.lt _ (own_block hk.o1.out (x := b) (by rw [hk.o1.len]; exact hbl))).1) _
theorem PH.stor (h : PH S Bi k ia ic ja jc us ws ll ss W0 W) {f : Nat} (h4 : (nth S.cons k).k = 4) (hf : (nth S.cons k).f = f) (hfv : f < S.fields) {u : Value} (g1 : W.grownBy W1 none) (ho : OwnI W2 Bi 3 u (nth ss f ++ [(k : Int)])) (g2 : W1.grownBy W2 (nth ws f).ownBlock) (hl : u.ownBlock = (nth ws f).ownBlock ∨ u.ownBlock = some W1.heap.size) :
    PH S Bi (k + 1) ia ic ja jc us (ws.set f u) ll (ss.set f (nth ss f ++ [(k : Int)])) W0 (W2.setCell ⟨blk ja, ofs ja + f, none⟩ u) := by
  have hk := h.keep g1
  have hbl : f < ss.length := by rw [h.l2]; exact hfv
  obtain ⟨r1, r2, r3⟩ := put2 hk.o2 hk.o1 (fun k a b => hk.dis k b a) hbl g2 ho hl
  refine ⟨r2, r1, fun k a b => r3 k b a, h.l1, by simp [h.l2], fun b hb => ?_, fun f2 hf2 => ?_, ?_, h.sz⟩
  · rw [intoL_succ, if_neg (by unfold Flw; omega), List.append_nil]; exact h.m1 b hb
  · rw [nth_set, storL_succ]
    by_cases e : f = f2
    · subst e
      rw [if_pos ⟨rfl, hbl⟩, if_pos ⟨h4, hf⟩, h.m2 _ hfv, List.map_append]; rfl
    · rw [if_neg (by omega), if_neg (by omega), List.append_nil]; exact h.m2 f2 hf2
  · have hsz := Nat.le_trans h.sz hk.bel.size
    have b1 := hk.bel.grown g2 hsz fun m hm => (hk.o2.foot kInt m (.inr ⟨f, by rw [hk.o2.len]; exact hbl, hm⟩)).1
    exact b1.setCell (show Bi ≤ (⟨blk ja, ofs ja + f, none⟩ : Addr).block from (hk.o2.out.lt _ (own_block hk.o2.out (x := f) (by rw [hk.o2.len]; exact hbl))).1) _
theorem PH.start {W3 W4 : World} (o3 : Own (fun x : Value => x) W3 W0.heap.size 27 (.slice ia S.vars ic) (List.replicate S.vars (.slice none 0 0))) (q3 : Below W0.heap.size W0 W3) (o4 : Own (fun x : Value => x) W4 W3.heap.size 27 (.slice ja S.fields jc) (List.replicate S.fields (.slice none 0 0))) (q4 : Below W3.heap.size W3 W4) :
    PH S W0.heap.size 0 ia ic ja jc (List.replicate S.vars (.slice none 0 0)) (List.replicate S.fields (.slice none 0 0)) (List.replicate S.vars []) (List.replicate S.fields []) W0 W4 := by
  have a1 : OwnN IInt W3 W0.heap.size 27 (.slice ia S.vars ic) (List.replicate S.vars (.slice none 0 0)) (List.replicate S.vars []) := OwnN.made o3 (Own.nil _ _ _ _)
  have a2 : OwnN IInt W4 W3.heap.size 27 (.slice ja S.fields jc) (List.replicate S.fields (.slice none 0 0)) (List.replicate S.fields []) := OwnN.made o4 (Own.nil _ _ _ _)
  have a3 : OwnN IInt W4 W0.heap.size 27 (.slice ja S.fields jc) (List.replicate S.fields (.slice none 0 0)) (List.replicate S.fields []) := OwnN.made (o4.mono q3.size) (Own.nil _ _ _ _)
  refine ⟨a1.below kInt q4, a3, fun k h1 h2 => ?_, by simp, by simp, fun b hb => ?_, fun f hf => ?_, q3.grown (grownBy_below q4) q3.size (by simp), Nat.le_refl _⟩
  · have := (a1.foot kInt k h1).2
    have := (a2.foot kInt k h2).1
    omega
  · simp [nth, hb, intoL]
  · simp [nth, hf, storL]
end
end Go.Proofs.Ytkfhopnolflchaa
