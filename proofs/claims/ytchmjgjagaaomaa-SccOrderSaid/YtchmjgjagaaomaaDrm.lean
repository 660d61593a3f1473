/- The memory of Reducible: the counts, the rows of edges, the list of open nodes. -/
import Derived.Test.YtchmjgjagaaomaaGls
import Derived.Test.YtchmjgjagaaomaaGh
namespace Go.Proofs.Ytchmjgjagaaomaa
open Go.RowKit Go.Dfl Go.Gra
/-- What a walk needs of a row of numbers of the call's own. -/
theorem own_int {w : World} {base n : Nat} {s : Option Addr} {cap : Nat} {l : List Int} (h : OwnI w base 3 (.slice s n cap) l) (hl : l.length = n) {x : Nat} (hx : x < n) :
    w.cell? ⟨blk s, ofs s + x, none⟩ = some (.int .i64 (nth l x)) ∧ (∀ Y, (Instr.indexAt 32 (.slice s n cap) (.int .i64 (x : Int))).run Try.prog Y = .ok (.pointer (some ⟨blk s, ofs s + x, none⟩)) Y) ∧ w.frozen? ⟨blk s, ofs s + x, none⟩ = false := by
  obtain ⟨a9, c9, he, hm9, hidx, hcell, -⟩ := h.lst.out1 sIntG
  rw [hl] at he hm9 hidx hcell
  simp only [Value.slice.injEq] at he
  obtain ⟨rfl, -, rfl⟩ := he
  exact ⟨hcell x hx, fun Y => by have := hidx .i64 (x : Int) (by omega) (by omega) Y; rw [Int.toNat_natCast] at this; exact this, h.frozen (by omega) _⟩
theorem own_blk {w : World} {base n : Nat} {s : Option Addr} {cap : Nat} {l : List Int} (h : OwnI w base 3 (.slice s n cap) l) (hl : l.length = n) (hn : 0 < n) : (Value.slice s n cap).ownBlock = some (blk s) := by
  obtain ⟨-, ⟨h2, h3⟩ | ⟨q, cap2, cur, hv, -⟩⟩ := h
  · rw [hl] at h3; omega
  · simp only [Value.slice.injEq] at hv
    obtain ⟨rfl, -, -⟩ := hv; rfl
/-- The counts and the rows. -/
structure KhP (W3 : World) (B4 n pc nc : Nat) (ps ns : Option Addr) (P : List Int) (vs : List Value) (ll : List (List Int)) (W : World) : Prop where
  pend : OwnI W W3.heap.size 3 (.slice ps n pc) P
  plen : P.length = n
  pb : ∀ q, (Value.slice ps n pc).ownBlock = some q → q < B4
  rows : OwnN IIg W B4 32 (.slice ns n nc) vs ll
  llen : ll.length = n
  bel : Below W3.heap.size W3 W
  siz : W3.heap.size ≤ B4
section
variable {W3 : World} {B4 n pc nc : Nat} {ps ns : Option Addr} {P : List Int} {vs : List Value} {ll : List (List Int)} {W W' w3 : World}
theorem KhP.below (h : KhP W3 B4 n pc nc ps ns P vs ll W) (hb : Below W.heap.size W W') : KhP W3 B4 n pc nc ps ns P vs ll W' := ⟨h.pend.below hb, h.plen, h.pb, h.rows.below kIIg hb, h.llen, h.bel.trans (hb.mono h.bel.size), h.siz⟩
theorem KhP.set (h : KhP W3 B4 n pc nc ps ns P vs ll W) {b : Nat} (hb : b < n) (x : Int) : KhP W3 B4 n pc nc ps ns (P.set b x) vs ll (W.setCell ⟨blk ps, ofs ps + b, none⟩ (.int .i64 x)) := by
  have hob := own_blk h.pend h.plen (by omega)
  have h1 := h.pb _ hob
  have h2 := h.pend.lt _ hob
  refine ⟨h.pend.set b x, by rw [List.length_set]; exact h.plen, h.pb, h.rows.grown kIIg (grownBy_setCell W ⟨blk ps, ofs ps + b, none⟩ _) (fun k e hf => ?_), h.llen, h.bel.setCell (p := ⟨blk ps, ofs ps + b, none⟩) h2.1 _, h.siz⟩
  have h3 := (h.rows.foot kIIg k hf).1
  have := Option.some.inj e
  dsimp only at this
  omega
theorem KhP.push (h : KhP W3 B4 n pc nc ps ns P vs ll W) {c : Nat} (hc : c < n) {o : Obj} {v' : Value} {l' : List Int} (hown : OwnI w3 B4 3 v' l')
    (hgr : (W.alloc o).grownBy w3 (nth vs c).ownBlock) (hat : v'.ownBlock = (nth vs c).ownBlock ∨ v'.ownBlock = some (W.alloc o).heap.size) (hcell : W.cell? ⟨blk ns, ofs ns + c, none⟩ = some (nth vs c)) :
    w3.cell? ⟨blk ns, ofs ns + c, none⟩ = some (nth vs c) ∧ w3.frozen? ⟨blk ns, ofs ns + c, none⟩ = false ∧ KhP W3 B4 n pc nc ps ns P (vs.set c v') (ll.set c l') (w3.setCell ⟨blk ns, ofs ns + c, none⟩ v') := by
  have hcl : c < ll.length := by rw [h.llen]; exact hc
  obtain ⟨a1, a2, a3, a4⟩ := h.rows.app hcl hown hgr hat hcell
  obtain ⟨b1, b2, b3⟩ := h.rows.at' hcl
  have hpne : ∀ q, (nth vs c).ownBlock = some q → B4 ≤ q := fun q e => (kIIg.lt (h.rows.inn c hcl) q e).1
  refine ⟨a1, a2, ⟨?_, h.plen, h.pb, a3, by rw [List.length_set]; exact h.llen, ?_, h.siz⟩⟩
  · refine Go.Dfl.Own.setOther ?_ (fun e => by have := h.pb _ e; dsimp only at this; omega) _
    refine Go.Dfl.Own.grown (h.pend.alloc o) hgr ?_
    cases e1 : (Value.slice ps n pc).ownBlock with
    | none => exact .inl rfl
    | some q =>
      refine .inr fun e2 => ?_
      have := h.pb q e1
      have := hpne q e2.symm
      omega
  · have hs := h.bel.size
    have h0 := h.bel.alloc hs o
    have h1 := h0.grown hgr (by rw [World.size_alloc]; omega) (fun q e => by have := hpne q e; have := h.siz; omega)
    exact h1.setCell (p := ⟨blk ns, ofs ns + c, none⟩) (by have := h.siz; show W3.heap.size ≤ blk ns; omega) v'
end
/-- And the list of open nodes. -/
structure KhS (W3 : World) (B4 B6 n pc nc : Nat) (ps ns : Option Addr) (P : List Int) (vs : List Value) (ll : List (List Int)) (o : List Nat) (ov : Value) (W : World) : Prop where
  p : KhP W3 B4 n pc nc ps ns P vs ll W
  rb : ∀ q, Foot (.slice ns n nc) vs q → q < B6
  lst : OwnI W B6 3 ov (o.map fun x : Nat => (x : Int))
  siz : B4 ≤ B6
  top : B6 ≤ W.heap.size
section
variable {W3 : World} {B4 B6 n pc nc : Nat} {ps ns : Option Addr} {P : List Int} {vs : List Value} {ll : List (List Int)} {o : List Nat} {ov : Value} {W W' w3 : World}
theorem KhS.below (h : KhS W3 B4 B6 n pc nc ps ns P vs ll o ov W) (hb : Below W.heap.size W W') : KhS W3 B4 B6 n pc nc ps ns P vs ll o ov W' := ⟨h.p.below hb, h.rb, h.lst.below hb, h.siz, Nat.le_trans h.top hb.size⟩
theorem KhS.set (h : KhS W3 B4 B6 n pc nc ps ns P vs ll o ov W) {b : Nat} (hb : b < n) (x : Int) : KhS W3 B4 B6 n pc nc ps ns (P.set b x) vs ll o ov (W.setCell ⟨blk ps, ofs ps + b, none⟩ (.int .i64 x)) := by
  have hob := own_blk h.p.pend h.p.plen (by omega)
  have h1 := h.p.pb _ hob
  exact ⟨h.p.set hb x, h.rb, h.lst.setOther (p := ⟨blk ps, ofs ps + b, none⟩) (fun e => by have h9 : B6 ≤ blk ps := (h.lst.lt _ e).1; have := h.siz; omega) _, h.siz, by rw [World.size_setCell]; exact h.top⟩
theorem KhS.add (h : KhS W3 B4 B6 n pc nc ps ns P vs ll o ov W) {ob : Obj} {v' : Value} {x : Nat} (hown : OwnI w3 B6 3 v' ((o.map fun x : Nat => (x : Int)) ++ [(x : Int)])) (hgr : (W.alloc ob).grownBy w3 ov.ownBlock) : KhS W3 B4 B6 n pc nc ps ns P vs ll (o ++ [x]) v' w3 := by
  have hA : KhP W3 B4 n pc nc ps ns P vs ll (W.alloc ob) := h.p.below ((Below.refl _ _).alloc (Nat.le_refl _) ob)
  have hq : ∀ q, ov.ownBlock = some q → B6 ≤ q := fun q e => (h.lst.lt q e).1
  refine ⟨⟨hA.pend.grown hgr ?_, hA.plen, hA.pb, hA.rows.grown kIIg hgr (fun k e hf => by have := hq k e; have := h.rb k hf; omega), hA.llen, hA.bel.grown hgr hA.bel.size (fun q e => by have := hq q e; have := h.siz; have := hA.siz; omega), hA.siz⟩, h.rb, by rw [List.map_append]; exact hown, h.siz, by have h1 := hgr.size; rw [World.size_alloc] at h1; have := h.top; omega⟩
  cases e1 : (Value.slice ps n pc).ownBlock with
  | none => exact .inl rfl
  | some q =>
    refine .inr fun e2 => ?_
    have := hA.pb q e1
    have := hq q e2.symm
    have := h.siz
    omega
end
end Go.Proofs.Ytchmjgjagaaomaa
