/- Memory of the reference's Postorder. -/
import Derived.Test.YtjapnkhgijhakaaGpx
import Derived.Test.YtjapnkhgijhakaaGls
namespace Go.Dfl
open Go.RowKit
/-- 'x[:k]', kept as a row of the call's own. -/
theorem Own.cutOwn {α : Type} {f : α → Value} {P : Program} {t e : TypeId} {z : Value} {by8 : Nat} {w : World} {base : Nat} {v : Value} {l : List α} (ht : SliceOf P t e z 1 by8) (h : Own f w base e v l) (k : Nat) (hk : k ≤ l.length) :
    ∃ a c, (∀ (ik : IntKind) (W : World), (Instr.slice t v none (some (.int ik (k : Int))) none).run P W = .ok (.slice a k c) W) ∧ Own f w base e (.slice a k c) (l.take k) ∧ (Value.slice a k c).ownBlock = v.ownBlock := by
  obtain ⟨i, hi, _, hs, _⟩ := ht.info
  have hlt : (l.take k).length = k := by simp; omega
  obtain ⟨h1, ⟨rfl, h2⟩ | ⟨g, cap, cur, rfl, hg, hh, hc, hm, hsz, htk⟩⟩ := h
  · obtain rfl : k = 0 := by omega
    refine ⟨none, 0, fun ik W => ?_, by simpa using Own.nil f w base e, rfl⟩
    simp [Instr.slice, run_underlying ht.und, Instr.sliceBounds, Instr.sliceBound, asIntOf, run_sizeOf _ hi]
  · refine ⟨some ⟨g, 0, none⟩, cap, fun ik W => ?_, ⟨by simp, .inr ⟨g, cap, cur, by rw [hlt], hg, hh, by omega, hm, hsz, ?_⟩⟩, rfl⟩
    · have h1' : k ≤ cap := by omega
      simp [Instr.slice, run_underlying ht.und, Instr.sliceBounds, Instr.sliceBound, asIntOf, h1', run_sizeOf _ hi, Addr.add]
    · rw [hlt, List.map_take, ← htk, List.take_take]
      congr 1
      omega
/-- Two rows are apart. -/
def Ap (a b : Value) : Prop := ∀ k, a.ownBlock = some k → b.ownBlock ≠ some k
theorem Ap.symm {a b : Value} (h : Ap a b) : Ap b a := fun k hk e => h k e hk
theorem Ap.nil (a : Value) (n c : Nat) : Ap a (.slice none n c) := fun k _ e => by simp [Value.ownBlock] at e
theorem Ap.fresh {a a' b : Value} {F : Nat} (h : Ap a b) (hat : a'.ownBlock = a.ownBlock ∨ a'.ownBlock = some F) (hb : ∀ k, b.ownBlock = some k → k < F) : Ap a' b := fun k hk e => by
  rcases hat with h1 | h1
  · exact h k (h1 ▸ hk) e
  · have h2 := hb k e
    have h3 := Option.some.inj (h1.symm.trans hk)
    omega
theorem Ap.row {a b : Value} (h : Ap a b) : a.ownBlock = none ∨ a.ownBlock ≠ b.ownBlock := by
  cases e : a.ownBlock with
  | none => exact .inl rfl
  | some k => exact .inr fun e2 => h k e e2.symm
theorem Ap.eq {a a' b : Value} (h : Ap a b) (e : a'.ownBlock = a.ownBlock) : Ap a' b := fun k hk => h k (e ▸ hk)
end Go.Dfl
namespace Go.Proofs.Ytjapnkhgijhakaa
open Go.RowKit Go.Dfl Go.Gra
abbrev cst (l : List Nat) : List Int := l.map fun x : Nat => (x : Int)
theorem cst_snoc (l : List Nat) (v : Nat) : cst l ++ [(v : Int)] = cst (l ++ [v]) := by unfold cst; rw [List.map_append]; rfl
/-- The marks, the order, the two stacks. -/
structure PsW (z1 n cap : Nat) (s : Option Addr) (WL : World) (t : List Nat × List Nat) (ls ld : List Nat) (ov sv dv : Value) (W : World) : Prop where
  se : Go.Dfl.Own Value.bool W z1 4 (.slice s n cap) (visB n t.1)
  ou : OwnI W z1 3 ov (cst t.2)
  st : OwnI W z1 3 sv (cst ls)
  dn : OwnI W z1 3 dv (cst ld)
  a1 : Ap (.slice s n cap) ov
  a2 : Ap (.slice s n cap) sv
  a3 : Ap (.slice s n cap) dv
  a4 : Ap ov sv
  a5 : Ap ov dv
  a6 : Ap sv dv
  bel : Below z1 WL W
  hz : z1 ≤ W.heap.size
section
variable {z1 n cap : Nat} {s : Option Addr} {WL : World} {t : List Nat × List Nat} {ls ld : List Nat} {ov sv dv : Value} {W : World}
theorem ap_none (v : Value) : v.ownBlock = none ∨ v.ownBlock ≠ none := by cases v.ownBlock <;> simp
theorem PsW.grown {W' : World} (h : PsW z1 n cap s WL t ls ld ov sv dv W) (hg : W.grownBy W' none) : PsW z1 n cap s WL t ls ld ov sv dv W' :=
  ⟨h.se.grown hg (ap_none _), h.ou.grown hg (ap_none _), h.st.grown hg (ap_none _), h.dn.grown hg (ap_none _), h.a1, h.a2, h.a3, h.a4, h.a5, h.a6, h.bel.grown hg h.hz (fun k e => by simp at e), Nat.le_trans h.hz hg.size⟩
theorem PsW.out (h : PsW z1 n cap s WL t ls ld ov sv dv W) {v : Nat} {ov' : Value} {W' : World} (hown : OwnI W' z1 3 ov' (cst t.2 ++ [(v : Int)])) (hgr : W.grownBy W' ov.ownBlock) (hat : ov'.ownBlock = ov.ownBlock ∨ ov'.ownBlock = some W.heap.size) : PsW z1 n cap s WL (t.1, t.2 ++ [v]) ls ld ov' sv dv W' :=
  ⟨h.se.grown hgr h.a1.row, by rw [cst_snoc] at hown; exact hown, h.st.grown hgr h.a4.symm.row, h.dn.grown hgr h.a5.symm.row, (h.a1.symm.fresh hat fun k e => (h.se.lt k e).2).symm, h.a2, h.a3, h.a4.fresh hat fun k e => (h.st.lt k e).2, h.a5.fresh hat fun k e => (h.dn.lt k e).2, h.a6, h.bel.grown hgr h.hz (fun k e => (h.ou.lt k e).1), Nat.le_trans h.hz hgr.size⟩
theorem PsW.push (h : PsW z1 n cap s WL t ls ld ov sv dv W) {v : Nat} {sv' : Value} {W' : World} (hown : OwnI W' z1 3 sv' (cst ls ++ [(v : Int)])) (hgr : W.grownBy W' sv.ownBlock) (hat : sv'.ownBlock = sv.ownBlock ∨ sv'.ownBlock = some W.heap.size) : PsW z1 n cap s WL t (ls ++ [v]) ld ov sv' dv W' :=
  ⟨h.se.grown hgr h.a2.row, h.ou.grown hgr h.a4.row, by rw [cst_snoc] at hown; exact hown, h.dn.grown hgr h.a6.symm.row, h.a1, (h.a2.symm.fresh hat fun k e => (h.se.lt k e).2).symm, h.a3, (h.a4.symm.fresh hat fun k e => (h.ou.lt k e).2).symm, h.a5, h.a6.fresh hat fun k e => (h.dn.lt k e).2, h.bel.grown hgr h.hz (fun k e => (h.st.lt k e).1), Nat.le_trans h.hz hgr.size⟩
theorem PsW.pushD (h : PsW z1 n cap s WL t ls ld ov sv dv W) {v : Nat} {dv' : Value} {W' : World} (hown : OwnI W' z1 3 dv' (cst ld ++ [(v : Int)])) (hgr : W.grownBy W' dv.ownBlock) (hat : dv'.ownBlock = dv.ownBlock ∨ dv'.ownBlock = some W.heap.size) : PsW z1 n cap s WL t ls (ld ++ [v]) ov sv dv' W' :=
  ⟨h.se.grown hgr h.a3.row, h.ou.grown hgr h.a5.row, h.st.grown hgr h.a6.row, by rw [cst_snoc] at hown; exact hown, h.a1, h.a2, (h.a3.symm.fresh hat fun k e => (h.se.lt k e).2).symm, h.a4, (h.a5.symm.fresh hat fun k e => (h.ou.lt k e).2).symm, (h.a6.symm.fresh hat fun k e => (h.st.lt k e).2).symm, h.bel.grown hgr h.hz (fun k e => (h.dn.lt k e).1), Nat.le_trans h.hz hgr.size⟩
theorem cst_cut (l : List Nat) (v : Nat) : (cst (l ++ [v])).take l.length = cst l := by
  unfold cst; rw [← List.map_take, List.take_left']; rfl
theorem PsW.pop {v k : Nat} (h : PsW z1 n cap s WL t (ls ++ [v]) (ld ++ [k]) ov sv dv W) (hl : ld.length = ls.length) : ∃ sa sc da dc,
    (∀ (ik : IntKind) (W : World), (Instr.slice 33 sv none (some (.int ik (ls.length : Int))) none).run Try.prog W = .ok (.slice sa ls.length sc) W) ∧
    (∀ (ik : IntKind) (W : World), (Instr.slice 33 dv none (some (.int ik (ls.length : Int))) none).run Try.prog W = .ok (.slice da ls.length dc) W) ∧
    ∀ (W' : World) (ov' : Value) (t' : List Nat × List Nat), PsW z1 n cap s WL t' (ls ++ [v]) (ld ++ [k]) ov' sv dv W' → PsW z1 n cap s WL t' ls ld ov' (.slice sa ls.length sc) (.slice da ls.length dc) W' := by
  obtain ⟨sa, sc, r1, -, e1⟩ := Own.cutOwn sIntG h.st ls.length (by simp)
  obtain ⟨da, dc, r2, -, e2⟩ := Own.cutOwn sIntG h.dn ls.length (by simp; omega)
  refine ⟨sa, sc, da, dc, r1, r2, fun W' ov' t' h' => ?_⟩
  obtain ⟨sa', sc', r1', o1, -⟩ := Own.cutOwn sIntG h'.st ls.length (by simp)
  obtain ⟨da', dc', r2', o2, -⟩ := Own.cutOwn sIntG h'.dn ls.length (by simp; omega)
  have q1 := (r1 .i64 W).symm.trans (r1' .i64 W)
  have q2 := (r2 .i64 W).symm.trans (r2' .i64 W)
  simp only [Result.ok.injEq, Value.slice.injEq, true_and, and_true] at q1 q2
  obtain ⟨rfl, rfl⟩ := q1
  obtain ⟨rfl, rfl⟩ := q2
  rw [cst_cut] at o1
  rw [← hl, cst_cut, hl] at o2
  exact ⟨h'.se, h'.ou, o1, o2, h'.a1, (h'.a2.symm.eq e1).symm, (h'.a3.symm.eq e2).symm, (h'.a4.symm.eq e1).symm, (h'.a5.symm.eq e2).symm, ((h'.a6.eq e1).symm.eq e2).symm, h'.bel, h'.hz⟩
theorem PsW.inc {v k : Nat} {da : Option Addr} {m dc : Nat} (h : PsW z1 n cap s WL t ls (ld ++ [k]) ov sv (.slice da m dc) W) : PsW z1 n cap s WL t ls (ld ++ [v]) ov sv (.slice da m dc) (W.setCell ⟨blk da, ofs da + ld.length, none⟩ (.int .i64 (v : Int))) := by
  obtain ⟨ho, -⟩ := own_at h.dn (by simp)
  have gS := grownBy_setCell W ⟨blk da, ofs da + ld.length, none⟩ (.int .i64 (v : Int))
  have hk : ∀ u : Value, Ap u (.slice da m dc) → u.ownBlock = none ∨ u.ownBlock ≠ some (blk da) := fun u hu => by
    have := hu.row; rw [ho] at this; exact this
  have hd := h.dn.set ld.length (v : Int)
  have e : (cst (ld ++ [k])).set ld.length (v : Int) = cst (ld ++ [v]) := by unfold cst; simp
  rw [e] at hd
  exact ⟨h.se.grown gS (hk _ h.a3), h.ou.grown gS (hk _ h.a5), h.st.grown gS (hk _ h.a6), hd, h.a1, h.a2, h.a3, h.a4, h.a5, h.a6, h.bel.setCell (p := ⟨blk da, ofs da + ld.length, none⟩) (h.dn.lt _ ho).1 _, by rw [World.size_setCell]; exact h.hz⟩
theorem PsW.mark {v : Nat} (h : PsW z1 n cap s WL t ls ld ov sv dv W) (hv : v < n) : PsW z1 n cap s WL (t.1 ++ [v], t.2) ls ld ov sv dv (W.setCell ⟨blk s, ofs s + v, none⟩ (.bool true)) := by
  obtain ⟨ho, -⟩ := own_at h.se (by rw [visB_len]; omega)
  have gS := grownBy_setCell W ⟨blk s, ofs s + v, none⟩ (.bool true)
  have hk : ∀ u : Value, Ap u (.slice s n cap) → u.ownBlock = none ∨ u.ownBlock ≠ some (blk s) := fun u hu => by
    have := hu.row; rw [ho] at this; exact this
  have hd := h.se.set v true
  rw [visB_set hv] at hd
  exact ⟨hd, h.ou.grown gS (hk _ h.a1.symm), h.st.grown gS (hk _ h.a2.symm), h.dn.grown gS (hk _ h.a3.symm), h.a1, h.a2, h.a3, h.a4, h.a5, h.a6, h.bel.setCell (p := ⟨blk s, ofs s + v, none⟩) (h.se.lt _ ho).1 _, by rw [World.size_setCell]; exact h.hz⟩
/-- The topmost element. -/
theorem top_rd {base v : Nat} {sv : Value} {ls : List Nat} (h : OwnI W base 3 sv (cst (ls ++ [v]))) : ∃ sa sc, sv = .slice sa (ls.length + 1) sc ∧ ls.length < 9223372036854775807 ∧ W.cell? ⟨blk sa, ofs sa + ls.length, none⟩ = some (.int .i64 (v : Int)) ∧ (∀ Y', (Instr.indexAt 33 (.slice sa (ls.length + 1) sc) (.int .i64 (ls.length : Int))).run Try.prog Y' = .ok (.pointer (some ⟨blk sa, ofs sa + ls.length, none⟩)) Y') ∧ W.frozen? ⟨blk sa, ofs sa + ls.length, none⟩ = false := by
  have hl : (cst (ls ++ [v])).length = ls.length + 1 := by unfold cst; simp
  obtain ⟨a9, c9, rfl, hm9, hidx, hcell, -⟩ := h.lst.out1 sIntG
  rw [hl] at hm9 hidx hcell h
  have h2 : (Value.slice a9 (cst (ls ++ [v])).length c9) = .slice a9 (ls.length + 1) c9 := by rw [hl]
  refine ⟨a9, c9, h2, by omega, ?_, fun Y' => ?_, ?_⟩
  · have h1 := hcell ls.length (by omega)
    rw [h1, nth_eq _ _ (by rw [hl]; omega)]
    unfold cst
    simp
  · have := hidx .i64 (ls.length : Int) (by omega) (by omega) Y'; rw [Int.toNat_natCast] at this; exact this
  · exact h.frozen (by rw [hl]; omega) _
end
end Go.Proofs.Ytjapnkhgijhakaa
