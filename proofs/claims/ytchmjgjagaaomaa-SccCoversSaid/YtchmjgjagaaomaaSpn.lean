/- Memory of split behind loop 2: the heap, the counts, the rows and the index. -/
import Derived.Test.YtchmjgjagaaomaaSpm
import Derived.Test.YtchmjgjagaaomaaGh
namespace Go.Proofs.Ytchmjgjagaaomaa
open Go.RowKit Go.Dfl Go.Gra Go.Tj
theorem hpF_set (W : World) (p : Addr) (u : Value) : HpF (fun q => q ≠ p.block ∧ q < W.heap.size) W (W.setCell p u) :=
  ⟨rfl, rfl, rfl, by rw [World.size_setCell]; exact Nat.le_refl _, fun q hq => by rw [Below.heap_setCell _ _ _ _ hq.1]⟩
/-- What the heap keeps. -/
def kpX (B6 : Nat) (xv : Value) (q : Nat) : Prop := q < B6 ∨ xv.ownBlock = some q
structure LpM (W1 : World) (B4 B6 Bx n pc nc xc : Nat) (ps ns xs : Option Addr) (us : List Value) (ll : List (List Int)) (R : List Nat) (P X : List Int) (Z : World) : Prop where
  hp : HpO (kpX B6 (.slice xs n xc)) (B6 + 1) B6 R Z
  kh : KhP W1 B4 n pc nc ps ns P us ll Z
  ix : OwnI Z Bx 3 (.slice xs n xc) X
  xl : X.length = n
  w1 : W1.heap.size ≤ B6
  pB : ∀ q, (Value.slice ps n pc).ownBlock = some q → q < B6
  fB : ∀ q, Foot (.slice ns n nc) us q → q < B6
  xB : B6 ≤ Bx
section
variable {W1 : World} {B4 B6 Bx n pc nc xc : Nat} {ps ns xs : Option Addr} {us : List Value} {ll : List (List Int)} {R R' : List Nat} {P X : List Int} {Z Z' : World}
theorem LpM.op (h : LpM W1 B4 B6 Bx n pc nc xc ps ns xs us ll R P X Z) (hf : HpF (kpX B6 (.slice xs n xc)) Z Z') (hO : HpO (kpX B6 (.slice xs n xc)) (B6 + 1) B6 R' Z') : LpM W1 B4 B6 Bx n pc nc xc ps ns xs us ll R' P X Z' :=
  ⟨hO, h.kh.hpf hf (fun _ hq => .inl (Nat.lt_of_lt_of_le hq h.w1)) (fun q hq => .inl (h.pB q hq)) (fun q hq => .inl (h.fB q hq)), own_hpf hf h.ix (fun _ hq => .inr hq), h.xl, h.w1, h.pB, h.fB, h.xB⟩
theorem LpM.below (h : LpM W1 B4 B6 Bx n pc nc xc ps ns xs us ll R P X Z) (hb : Below Z.heap.size Z Z') : LpM W1 B4 B6 Bx n pc nc xc ps ns xs us ll R P X Z' := h.op (h.hp.below hb).2 (h.hp.below hb).1
theorem LpM.setP (h : LpM W1 B4 B6 Bx n pc nc xc ps ns xs us ll R P X Z) {b : Nat} (hb : b < n) (x : Int) : LpM W1 B4 B6 Bx n pc nc xc ps ns xs us ll R (P.set b x) X (Z.setCell ⟨blk ps, ofs ps + b, none⟩ (.int .i64 x)) := by
  have hob := own_blk h.kh.pend h.kh.plen (by omega)
  have h1 := h.pB _ hob
  refine ⟨h.hp.setCell (p := ⟨blk ps, ofs ps + b, none⟩) (.inl h1) _, h.kh.set hb x, h.ix.setOther (p := ⟨blk ps, ofs ps + b, none⟩) (fun e => ?_) _, h.xl, h.w1, h.pB, h.fB, h.xB⟩
  have h2 : Bx ≤ blk ps := (h.ix.lt _ e).1
  have h3 := h.xB
  omega
theorem LpM.setX (h : LpM W1 B4 B6 Bx n pc nc xc ps ns xs us ll R P X Z) {b : Nat} (hb : b < n) (x : Int) : LpM W1 B4 B6 Bx n pc nc xc ps ns xs us ll R P (X.set b x) (Z.setCell ⟨blk xs, ofs xs + b, none⟩ (.int .i64 x)) := by
  have hob := own_blk h.ix h.xl (by omega)
  have h1 := (h.ix.lt _ hob).1
  have h2 := h.xB
  have hk : ∀ q, q < B6 → q ≠ blk xs := fun q hq e => by omega
  refine ⟨h.hp.setCell (p := ⟨blk xs, ofs xs + b, none⟩) (.inr hob) _, h.kh.hpf (hpF_set Z ⟨blk xs, ofs xs + b, none⟩ (.int .i64 x)) (fun q hq => ⟨hk q (Nat.lt_of_lt_of_le hq h.w1), Nat.lt_of_lt_of_le hq h.kh.bel.size⟩) (fun q hq => ⟨hk q (h.pB q hq), (h.kh.pend.lt q hq).2⟩) (fun q hq => ⟨hk q (h.fB q hq), (h.kh.rows.foot kIIg q hq).2⟩), h.ix.set b x, by rw [List.length_set]; exact h.xl, h.w1, h.pB, h.fB, h.xB⟩
theorem LpM.start (hO : HpO (fun q => q < B6) (B6 + 1) B6 R Z) (hk : KhP W1 B4 n pc nc ps ns P us ll Z) (hx : OwnI Z' Z.heap.size 3 (.slice xs n xc) X) (hb : Below Z.heap.size Z Z') (xl : X.length = n) (w1 : W1.heap.size ≤ B6) (pB : ∀ q, (Value.slice ps n pc).ownBlock = some q → q < B6) (fB : ∀ q, Foot (.slice ns n nc) us q → q < B6) : LpM W1 B4 B6 Z.heap.size n pc nc xc ps ns xs us ll R P X Z' := by
  obtain ⟨⟨s, m, c, hv⟩, hh⟩ := hO
  have hv' := hv.below hb
  have hb6 : B6 ≤ Z.heap.size := hv.top
  have hin := hv.in
  refine ⟨⟨⟨s, m, c, hv'.1.wider fun q hq => ?_⟩, hh⟩, hk.below hb, hx, xl, w1, pB, fB, hb6⟩
  rcases hq with hq | hq
  · exact ⟨fun e => by omega, fun e => hv.rk q e hq, by have := hb.size; omega⟩
  · obtain ⟨h1, h2⟩ := hx.lt q hq
    exact ⟨fun e => by omega, fun e => by have := (hv.own.lt q e).2; omega, h2⟩
end
end Go.Proofs.Ytchmjgjagaaomaa
