/- Memory of split: what is kept when the heap works. -/
import Derived.Test.YtchmjgjagaaomaaScp
import Derived.Test.YtchmjgjagaaomaaSpl
namespace Go.Dfl
open Go.RowKit
theorem Own.same {α : Type} {f : α → Value} {w w' : World} {base : Nat} {e : TypeId} {v : Value} {l : List α} (h : Own f w base e v l) (hk : ∀ q, v.ownBlock = some q → w'.heap[q]? = w.heap[q]?) : Own f w' base e v l := by
  obtain ⟨h1, h2 | ⟨g, cap, cur, rfl, hg, hh, r⟩⟩ := h
  · exact ⟨h1, .inl h2⟩
  · exact ⟨h1, .inr ⟨g, cap, cur, rfl, hg, (hk g rfl).trans hh, r⟩⟩
end Go.Dfl
namespace Go.Proofs.Ytchmjgjagaaomaa
open Go.RowKit Go.Dfl Go.Gra Go.Tj
theorem HpV.wider {keep keep' : Nat → Prop} {bq B n c : Nat} {s : Option Addr} {l : List Nat} {W : World} (h : HpV keep bq B s n c l W) (hk : ∀ q, keep' q → q ≠ bq ∧ (Value.slice s n c).ownBlock ≠ some q ∧ q < W.heap.size) : HpV keep' bq B s n c l W :=
  ⟨h.cell, h.own, h.len, h.frz, h.nb, fun e => (hk _ e).1 rfl, fun q hq e => (hk q e).2.1 hq, fun q hq => (hk q hq).2.2, h.top⟩
theorem HpO.wider {keep keep' : Nat → Prop} {bq B : Nat} {l : List Nat} {W : World} (h : HpO keep bq B l W) (hk : ∀ s n c, HpV keep bq B s n c l W → ∀ q, keep' q → q ≠ bq ∧ (Value.slice s n c).ownBlock ≠ some q ∧ q < W.heap.size) : HpO keep' bq B l W := by
  obtain ⟨⟨s, n, c, hv⟩, hh⟩ := h
  exact ⟨⟨s, n, c, hv.wider (hk s n c hv)⟩, hh⟩
theorem HpO.below {keep : Nat → Prop} {bq B : Nat} {l : List Nat} {W W' : World} (h : HpO keep bq B l W) (hb : Below W.heap.size W W') : HpO keep bq B l W' ∧ HpF keep W W' := by
  obtain ⟨⟨s, n, c, hv⟩, hh⟩ := h
  have := hv.below hb
  exact ⟨⟨⟨s, n, c, this.1⟩, hh⟩, this.2⟩
/-- A store into a block that the heap keeps. -/
theorem HpO.setCell {keep : Nat → Prop} {bq B : Nat} {l : List Nat} {W : World} (h : HpO keep bq B l W) {p : Addr} (hp : keep p.block) (u : Value) : HpO keep bq B l (W.setCell p u) := by
  obtain ⟨⟨s, n, c, hv⟩, hh⟩ := h
  refine ⟨⟨s, n, c, ?_, hv.own.setOther (fun e => hv.rk _ e hp) u, hv.len, by rw [World.frozen?_setCell]; exact hv.frz, hv.nb, hv.nk, hv.rk, fun q hq => by rw [World.size_setCell]; exact hv.kb q hq, by rw [World.size_setCell]; exact hv.top⟩, hh⟩
  rw [World.cell?_setCell_other _ _ _ _ (by intro e; first | exact hv.nk (by have e9 := congrArg Addr.block e; simp only at e9; rw [e9]; exact hp) | exact hv.nk (by have e9 := congrArg Addr.block e; simp only at e9; rw [← e9]; exact hp))]
  exact hv.cell
/-- What an own row keeps under a heap operation. -/
theorem own_hpf {keep : Nat → Prop} {W W' : World} (hf : HpF keep W W') {base : Nat} {e : TypeId} {v : Value} {l : List Int} (h : OwnI W base e v l) (hk : ∀ q, v.ownBlock = some q → keep q) : OwnI W' base e v l := h.same fun q hq => hf.blk q (hk q hq)
theorem HpF.below {keep : Nat → Prop} {W W' W3 : World} (hf : HpF keep W W') {A : Nat} (hb : Below A W3 W) (hk : ∀ q, q < A → keep q) : Below A W3 W' :=
  ⟨hf.os.trans hb.os, hf.tape.trans hb.tape, hf.out.trans hb.output, Nat.le_trans hb.size hf.size, fun q hq => (hf.blk q (hk q hq)).trans (hb.block q hq)⟩
theorem ownN_same {w w' : World} {base : Nat} {eo : TypeId} {v : Value} {vs : List Value} {ll : List (List Int)} (h : OwnN IIg w base eo v vs ll) (hk : ∀ q, Foot v vs q → w'.heap[q]? = w.heap[q]?) : OwnN IIg w' base eo v vs ll :=
  ⟨h.out.same fun q e => hk q (.inl e), h.len, fun i hi => Go.Dfl.Own.same (h.inn i hi) fun q e => hk q (.inr ⟨i, by rw [h.len]; exact hi, e⟩), h.sep, h.apart⟩
/-- What the counts and the rows keep under a heap operation. -/
theorem KhP.hpf {keep : Nat → Prop} {W3 W W' : World} {B4 n pc nc : Nat} {ps ns : Option Addr} {P : List Int} {vs : List Value} {ll : List (List Int)} (h : KhP W3 B4 n pc nc ps ns P vs ll W) (hf : HpF keep W W') (h3 : ∀ q, q < W3.heap.size → keep q) (hp : ∀ q, (Value.slice ps n pc).ownBlock = some q → keep q) (hr : ∀ q, Foot (.slice ns n nc) vs q → keep q) : KhP W3 B4 n pc nc ps ns P vs ll W' :=
  ⟨own_hpf hf h.pend hp, h.plen, h.pb, ownN_same h.rows fun q hq => hf.blk q (hr q hq), h.llen, hf.below h.bel h3, h.siz⟩
/-- An empty row, just laid, and the box that holds it. -/
theorem hpO_new {keep : Nat → Prop} (W : World) (hk : ∀ q, keep q → q < W.heap.size) :
    HpO keep (W.heap.size + 1) W.heap.size [] ((W.alloc (.cells #[] 3)).alloc (.cells #[.slice (some ⟨W.heap.size, 0, none⟩) 0 0] 64)) := by
  have z1 : (W.alloc (.cells #[] 3)).heap.size = W.heap.size + 1 := World.size_alloc _ _
  have g2 := grownBy_alloc (W.alloc (.cells #[] 3)) (.cells #[.slice (some ⟨W.heap.size, 0, none⟩) 0 0] 64)
  have c1 := cell_alloc1 (W.alloc (.cells #[] 3)) (.slice (some ⟨W.heap.size, 0, none⟩) 0 0) 64
  have f1 := frozen_alloc1 (W.alloc (.cells #[] 3)) (.slice (some ⟨W.heap.size, 0, none⟩) 0 0) 64
  rw [z1] at c1 f1
  have ho : OwnI (W.alloc (.cells #[] 3)) W.heap.size 3 (.slice (some ⟨W.heap.size, 0, none⟩) 0 0) (castL []) :=
    ⟨by simp [castL], .inr ⟨W.heap.size, 0, #[], rfl, Nat.le_refl _, (by show (W.heap.push _)[W.heap.size]? = some _; simp), by simp [castL], by unfold maxLen; omega, by simp, by simp [castL]⟩⟩
  refine ⟨⟨some ⟨W.heap.size, 0, none⟩, 0, 0, c1, ho.alloc _, rfl, f1, ?_, fun e => ?_, fun q hq e => ?_, fun q hq => ?_, ?_⟩, fun c c0 c1 => by simp at c1⟩
  · intro e
    have e9 : some W.heap.size = some (W.heap.size + 1) := e
    simp at e9
  · have := hk _ e; omega
  · have e9 : some W.heap.size = some q := hq
    have := Option.some.inj e9
    have := hk _ e; omega
  · have := hk _ hq; rw [World.size_alloc, z1]; omega
  · rw [World.size_alloc, z1]; omega
end Go.Proofs.Ytchmjgjagaaomaa
