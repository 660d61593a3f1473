/- Sets of the solver: the functions of package bits on them; put, join. -/
import Derived.Test.YtkfhopnolflchaaAndN
namespace Go.Proofs.Ytkfhopnolflchaa
open Go.RowKit Go.Dfl Go.And

section
variable {rl : Nat → Nat} {W : World} {v u : Value} {s p : Nat → Bool}

/-- What a function returns that makes a set. -/
def MakesS (rl : Nat → Nat) (s : Nat → Bool) (W : World) (e : Ending) (W' : World) : Prop := ∃ a n c, e = .returned (.slice a n c) ∧ IsS rl W' (.slice a n c) s ∧ Below W.heap.size W W'
theorem makesS {q : Nat → Bool} {n : Nat} {e : Ending} {W' : World} (h : SetPost q n W e W') (hn : n ≤ 1024) (hfr : ∀ k, W.heap.size ≤ k → rl k = 0) (hq : ∀ x, q x = s x) : MakesS rl s W e W' := by
  obtain ⟨v, r, rfl, ⟨h1, h2⟩, h3, h4, h5, h6, h7⟩ := h
  obtain ⟨a, c, rfl, -⟩ := h1.out1 sBits
  refine ⟨a, _, c, rfl, ⟨r, h1, h3, by omega, fun x => (h6 x).trans (hq x), fun k hk h0 => hfr k ?_⟩, h7⟩
  obtain ⟨g1, -⟩ := h2 a _ c rfl h0
  cases a with
  | none => simp [Value.ownBlock] at hk
  | some ad => simp [Value.ownBlock] at hk; simp [blk] at g1; omega
theorem Within_S (h : IsS rl W v s) (h' : IsS rl W u p) : Calls Try.prog 62 #[v, u] W (fun e W' => ∃ b, e = .returned (.bool b) ∧ (b = true ↔ ∀ x, s x = true → p x = true) ∧ Qt W W') := by
  obtain ⟨r, a1, a2, a3, a4, a5⟩ := h
  obtain ⟨r', b1, b2, b3, b4, b5⟩ := h'
  refine (Within_any v u r r' W a1 b1 a2 b2).mono fun e W' ⟨he, hq⟩ => ⟨_, he, ?_, hq⟩
  rw [within_iff]
  simp only [a4, b4]
theorem Union_S (h : IsS rl W v s) (h' : IsS rl W u p) (hfr : ∀ k, W.heap.size ≤ k → rl k = 0) : Calls Try.prog 64 #[v, u] W (MakesS rl (fun x => s x || p x) W) := by
  obtain ⟨r, a1, a2, a3, a4, a5⟩ := h
  obtain ⟨r', b1, b2, b3, b4, b5⟩ := h'
  refine (Union_any v u r r' W a1 b1 a2 b2 1024 (by omega) a3 b3).mono fun e W' hh => makesS hh (by omega) hfr fun x => ?_
  simp only [a4, b4]
theorem Minus_S (h : IsS rl W v s) (h' : IsS rl W u p) (hfr : ∀ k, W.heap.size ≤ k → rl k = 0) : Calls Try.prog 63 #[v, u] W (MakesS rl (fun x => s x && !p x) W) := by
  obtain ⟨r, a1, a2, a3, a4, a5⟩ := h
  obtain ⟨r', b1, b2, b3, b4, b5⟩ := h'
  refine (Minus_any v u r r' W a1 b1 a2 b2 (by omega)).mono fun e W' hh => makesS hh a3 hfr fun x => ?_
  simp only [a4, b4]
theorem Both_S (h : IsS rl W v s) (h' : IsS rl W u p) (hfr : ∀ k, W.heap.size ≤ k → rl k = 0) : Calls Try.prog 57 #[v, u] W (MakesS rl (fun x => s x && p x) W) := by
  obtain ⟨r, a1, a2, a3, a4, a5⟩ := h
  obtain ⟨r', b1, b2, b3, b4, b5⟩ := h'
  refine (Both_any v u r r' W a1 b1 a2 b2 1024 (by omega) a3).mono fun e W' hh => makesS hh (by omega) hfr fun x => ?_
  simp only [a4, b4]
end

section
variable {S : Syst} {w0 : World} {sv : Nat} {rl : Nat → Nat} {V : Vals} {st : St} {W : World}
theorem Mem.fld (h : Mem S w0 sv rl V st W) (j : Nat) {v : Value} (hj : (V.cells S)[j]? = some v) : W.cell? ⟨sv, j, none⟩ = some v ∧ W.frozen? ⟨sv, j, none⟩ = false := by
  have := h.box (by omega)
  exact ⟨by simp [World.cell?, this, hj], by simp [World.frozen?, this]⟩
theorem Mem.todoBox (h : Mem S w0 sv rl V st W) {W1 : World} (hg : W.grownBy W1 V.todo.ownBlock) : W1.cell? ⟨sv, 11, none⟩ = some V.todo ∧ W1.frozen? ⟨sv, 11, none⟩ = false := by
  have hb := hg.block sv h.lbox.2 fun e => by have := (h.todo (by omega)).role sv e.symm; rw [h.rbox] at this; omega
  obtain ⟨q1, q2⟩ := h.fld 11 (v := V.todo) rfl
  exact ⟨by rw [World.cell?_of_block (a := ⟨sv, 11, none⟩) hb]; exact q1, by rw [World.frozen?_of_block (a := ⟨sv, 11, none⟩) hb]; exact q2⟩
theorem Mem.svNe (h : Mem S w0 sv rl V st W) {k : Nat} {X : Nat} (hk : rl k = X) (hX : X ≠ 1) : sv ≠ k := fun e => hX (by rw [← hk, ← e, h.rbox])
theorem Mem.qBlk {a : Option Addr} {c : Nat} (h : Mem S w0 sv rl V st W) (ha : V.q = .slice a S.N c) {i : Nat} (hi : i < S.N) : sv ≠ blk a := by
  have hS := h.q (by omega)
  rw [ha] at hS
  exact h.svNe (hS.role _ (ownB_blk hS.own (i := i) (by rw [hS.len]; exact hi))) (by omega)
theorem Mem.setsV (h : Mem S w0 sv rl V st W) : ∃ a c, V.sets = .slice a S.N c := (h.sets (by omega)).own.shape (h.sets (by omega)).len
theorem Mem.setsIx {a : Option Addr} {c : Nat} (h : Mem S w0 sv rl V st W) (ha : V.sets = .slice a S.N c) {i : Nat} (hi : i < S.N) (W' : World) : (Instr.indexAt 57 (.slice a S.N c) (.int .i64 (i : Int))).run Try.prog W' = .ok (.pointer (some ⟨blk a, ofs a + i, none⟩)) W' := by
  have hS := h.sets (by omega)
  rw [ha] at hS
  obtain ⟨a2, c2, he, -, hidx, -⟩ := hS.own.lst.out1 sBits2
  simp at he
  obtain ⟨rfl, hlen, rfl⟩ := he
  rw [← hlen] at hidx
  have := hidx .i64 (i : Int) (by omega) (by omega) W'
  simpa using this
theorem Mem.setsAt {a : Option Addr} {c : Nat} (h : Mem S w0 sv rl V st W) (ha : V.sets = .slice a S.N c) {i : Nat} (hi : i < S.N) : W.cell? ⟨sv, 4, none⟩ = some (.slice a S.N c) ∧ W.cell? ⟨blk a, ofs a + i, none⟩ = some (nth V.xs i) ∧ W.frozen? ⟨blk a, ofs a + i, none⟩ = false := by
  have hS := h.sets (by omega)
  refine ⟨(h.fld 4 (by rw [← ha]; rfl)).1, ?_⟩
  rw [ha] at hS
  have hl := hS.len
  obtain ⟨a2, c2, he, -, -, hcell, -⟩ := hS.own.lst.out1 sBits2
  simp at he
  obtain ⟨rfl, hlen, rfl⟩ := he
  exact ⟨hcell i (by omega), hS.own.frozen (by omega) _⟩
theorem Mem.freshV (h : Mem S w0 sv rl V st W) : ∃ a c, V.fresh = .slice a S.N c := (h.fresh (by omega)).own.shape (h.fresh (by omega)).len
theorem Mem.freshIx {a : Option Addr} {c : Nat} (h : Mem S w0 sv rl V st W) (ha : V.fresh = .slice a S.N c) {i : Nat} (hi : i < S.N) (W' : World) : (Instr.indexAt 57 (.slice a S.N c) (.int .i64 (i : Int))).run Try.prog W' = .ok (.pointer (some ⟨blk a, ofs a + i, none⟩)) W' := by
  have hS := h.fresh (by omega)
  rw [ha] at hS
  obtain ⟨a2, c2, he, -, hidx, -⟩ := hS.own.lst.out1 sBits2
  simp at he
  obtain ⟨rfl, hlen, rfl⟩ := he
  rw [← hlen] at hidx
  have := hidx .i64 (i : Int) (by omega) (by omega) W'
  simpa using this
theorem Mem.freshAt {a : Option Addr} {c : Nat} (h : Mem S w0 sv rl V st W) (ha : V.fresh = .slice a S.N c) {i : Nat} (hi : i < S.N) : W.cell? ⟨sv, 5, none⟩ = some (.slice a S.N c) ∧ W.cell? ⟨blk a, ofs a + i, none⟩ = some (nth V.ys i) ∧ W.frozen? ⟨blk a, ofs a + i, none⟩ = false := by
  have hS := h.fresh (by omega)
  refine ⟨(h.fld 5 (by rw [← ha]; rfl)).1, ?_⟩
  rw [ha] at hS
  have hl := hS.len
  obtain ⟨a2, c2, he, -, -, hcell, -⟩ := hS.own.lst.out1 sBits2
  simp at he
  obtain ⟨rfl, hlen, rfl⟩ := he
  exact ⟨hcell i (by omega), hS.own.frozen (by omega) _⟩
theorem Mem.qV (h : Mem S w0 sv rl V st W) : ∃ a c, V.q = .slice a S.N c := (h.q (by omega)).own.shape (h.q (by omega)).len
theorem Mem.qIx {a : Option Addr} {c : Nat} (h : Mem S w0 sv rl V st W) (ha : V.q = .slice a S.N c) {i : Nat} (hi : i < S.N) (W' : World) : (Instr.indexAt 49 (.slice a S.N c) (.int .i64 (i : Int))).run Try.prog W' = .ok (.pointer (some ⟨blk a, ofs a + i, none⟩)) W' := by
  have hS := h.q (by omega)
  rw [ha] at hS
  obtain ⟨a2, c2, he, -, hidx, -⟩ := hS.own.lst.out1 sBool
  simp at he
  obtain ⟨rfl, hlen, rfl⟩ := he
  rw [← hlen] at hidx
  have := hidx .i64 (i : Int) (by omega) (by omega) W'
  simpa using this
theorem Mem.qAt {a : Option Addr} {c : Nat} (h : Mem S w0 sv rl V st W) (ha : V.q = .slice a S.N c) {i : Nat} (hi : i < S.N) : W.cell? ⟨sv, 10, none⟩ = some (.slice a S.N c) ∧ W.cell? ⟨blk a, ofs a + i, none⟩ = some (.bool (nth V.ql i)) ∧ W.frozen? ⟨blk a, ofs a + i, none⟩ = false := by
  have hS := h.q (by omega)
  refine ⟨(h.fld 10 (by rw [← ha]; rfl)).1, ?_⟩
  rw [ha] at hS
  have hl := hS.len
  obtain ⟨a2, c2, he, -, -, hcell, -⟩ := hS.own.lst.out1 sBool
  simp at he
  obtain ⟨rfl, hlen, rfl⟩ := he
  exact ⟨hcell i (by omega), hS.own.frozen (by omega) _⟩
theorem Mem.cpV (h : Mem S w0 sv rl V st W) : ∃ a c, V.cp = .slice a S.N c := (h.cp (by omega)).own.out.shape ((h.cp (by omega)).own.len.trans (h.cp (by omega)).len)
theorem Mem.cpIx {a : Option Addr} {c : Nat} (h : Mem S w0 sv rl V st W) (ha : V.cp = .slice a S.N c) {i : Nat} (hi : i < S.N) (W' : World) : (Instr.indexAt 39 (.slice a S.N c) (.int .i64 (i : Int))).run Try.prog W' = .ok (.pointer (some ⟨blk a, ofs a + i, none⟩)) W' := by
  have hS := h.cp (by omega)
  rw [ha] at hS
  obtain ⟨a2, c2, he, -, hidx, -⟩ := hS.own.out.lst.out1 sInt2
  simp at he
  obtain ⟨rfl, hlen, rfl⟩ := he
  rw [← hlen] at hidx
  have := hidx .i64 (i : Int) (by omega) (by omega) W'
  simpa using this
theorem Mem.cpAt {a : Option Addr} {c : Nat} (h : Mem S w0 sv rl V st W) (ha : V.cp = .slice a S.N c) {i : Nat} (hi : i < S.N) : W.cell? ⟨sv, 6, none⟩ = some (.slice a S.N c) ∧ W.cell? ⟨blk a, ofs a + i, none⟩ = some (nth V.cvs i) ∧ W.frozen? ⟨blk a, ofs a + i, none⟩ = false := by
  have hS := h.cp (by omega)
  refine ⟨(h.fld 6 (by rw [← ha]; rfl)).1, ?_⟩
  rw [ha] at hS
  have hl := hS.own.len.trans hS.len
  obtain ⟨a2, c2, he, -, -, hcell, -⟩ := hS.own.out.lst.out1 sInt2
  simp at he
  obtain ⟨rfl, hlen, rfl⟩ := he
  exact ⟨hcell i (by omega), hS.own.out.frozen (by omega) _⟩
theorem Mem.ptV (h : Mem S w0 sv rl V st W) : ∃ a c, V.pt = .slice a S.vars c := (h.pt (by omega)).own.out.shape ((h.pt (by omega)).own.len.trans (h.pt (by omega)).len)
theorem Mem.ptIx {a : Option Addr} {c : Nat} (h : Mem S w0 sv rl V st W) (ha : V.pt = .slice a S.vars c) {i : Nat} (hi : i < S.vars) (W' : World) : (Instr.indexAt 75 (.slice a S.vars c) (.int .i64 (i : Int))).run Try.prog W' = .ok (.pointer (some ⟨blk a, ofs a + i, none⟩)) W' := by
  have hS := h.pt (by omega)
  rw [ha] at hS
  obtain ⟨a2, c2, he, -, hidx, -⟩ := hS.own.out.lst.out1 sPart2
  simp at he
  obtain ⟨rfl, hlen, rfl⟩ := he
  rw [← hlen] at hidx
  have := hidx .i64 (i : Int) (by omega) (by omega) W'
  simpa using this
theorem Mem.ptAt {a : Option Addr} {c : Nat} (h : Mem S w0 sv rl V st W) (ha : V.pt = .slice a S.vars c) {i : Nat} (hi : i < S.vars) : W.cell? ⟨sv, 7, none⟩ = some (.slice a S.vars c) ∧ W.cell? ⟨blk a, ofs a + i, none⟩ = some (nth V.pvs i) ∧ W.frozen? ⟨blk a, ofs a + i, none⟩ = false := by
  have hS := h.pt (by omega)
  refine ⟨(h.fld 7 (by rw [← ha]; rfl)).1, ?_⟩
  rw [ha] at hS
  have hl := hS.own.len.trans hS.len
  obtain ⟨a2, c2, he, -, -, hcell, -⟩ := hS.own.out.lst.out1 sPart2
  simp at he
  obtain ⟨rfl, hlen, rfl⟩ := he
  exact ⟨hcell i (by omega), hS.own.out.frozen (by omega) _⟩
theorem Mem.ldV (h : Mem S w0 sv rl V st W) : ∃ a c, V.ld = .slice a S.vars c := (h.ld (by omega)).own.out.shape ((h.ld (by omega)).own.len.trans (h.ld (by omega)).len)
theorem Mem.ldIx {a : Option Addr} {c : Nat} (h : Mem S w0 sv rl V st W) (ha : V.ld = .slice a S.vars c) {i : Nat} (hi : i < S.vars) (W' : World) : (Instr.indexAt 76 (.slice a S.vars c) (.int .i64 (i : Int))).run Try.prog W' = .ok (.pointer (some ⟨blk a, ofs a + i, none⟩)) W' := by
  have hS := h.ld (by omega)
  rw [ha] at hS
  obtain ⟨a2, c2, he, -, hidx, -⟩ := hS.own.out.lst.out1 sCon2
  simp at he
  obtain ⟨rfl, hlen, rfl⟩ := he
  rw [← hlen] at hidx
  have := hidx .i64 (i : Int) (by omega) (by omega) W'
  simpa using this
theorem Mem.ldAt {a : Option Addr} {c : Nat} (h : Mem S w0 sv rl V st W) (ha : V.ld = .slice a S.vars c) {i : Nat} (hi : i < S.vars) : W.cell? ⟨sv, 8, none⟩ = some (.slice a S.vars c) ∧ W.cell? ⟨blk a, ofs a + i, none⟩ = some (nth V.lvs i) ∧ W.frozen? ⟨blk a, ofs a + i, none⟩ = false := by
  have hS := h.ld (by omega)
  refine ⟨(h.fld 8 (by rw [← ha]; rfl)).1, ?_⟩
  rw [ha] at hS
  have hl := hS.own.len.trans hS.len
  obtain ⟨a2, c2, he, -, -, hcell, -⟩ := hS.own.out.lst.out1 sCon2
  simp at he
  obtain ⟨rfl, hlen, rfl⟩ := he
  exact ⟨hcell i (by omega), hS.own.out.frozen (by omega) _⟩
theorem Mem.srV (h : Mem S w0 sv rl V st W) : ∃ a c, V.sr = .slice a S.vars c := (h.sr (by omega)).own.out.shape ((h.sr (by omega)).own.len.trans (h.sr (by omega)).len)
theorem Mem.srIx {a : Option Addr} {c : Nat} (h : Mem S w0 sv rl V st W) (ha : V.sr = .slice a S.vars c) {i : Nat} (hi : i < S.vars) (W' : World) : (Instr.indexAt 76 (.slice a S.vars c) (.int .i64 (i : Int))).run Try.prog W' = .ok (.pointer (some ⟨blk a, ofs a + i, none⟩)) W' := by
  have hS := h.sr (by omega)
  rw [ha] at hS
  obtain ⟨a2, c2, he, -, hidx, -⟩ := hS.own.out.lst.out1 sCon2
  simp at he
  obtain ⟨rfl, hlen, rfl⟩ := he
  rw [← hlen] at hidx
  have := hidx .i64 (i : Int) (by omega) (by omega) W'
  simpa using this
theorem Mem.srAt {a : Option Addr} {c : Nat} (h : Mem S w0 sv rl V st W) (ha : V.sr = .slice a S.vars c) {i : Nat} (hi : i < S.vars) : W.cell? ⟨sv, 9, none⟩ = some (.slice a S.vars c) ∧ W.cell? ⟨blk a, ofs a + i, none⟩ = some (nth V.svs i) ∧ W.frozen? ⟨blk a, ofs a + i, none⟩ = false := by
  have hS := h.sr (by omega)
  refine ⟨(h.fld 9 (by rw [← ha]; rfl)).1, ?_⟩
  rw [ha] at hS
  have hl := hS.own.len.trans hS.len
  obtain ⟨a2, c2, he, -, -, hcell, -⟩ := hS.own.out.lst.out1 sCon2
  simp at he
  obtain ⟨rfl, hlen, rfl⟩ := he
  exact ⟨hcell i (by omega), hS.own.out.frozen (by omega) _⟩
end

/-- What put, join and the like do. -/
def DoesP (R : St → St → Prop) (S : Syst) (w0 : World) (sv : Nat) (rl : Nat → Nat) (st : St) (W : World) (e : Ending) (W' : World) : Prop :=
  ∃ v rl' V' st', e = .returned v ∧ R st st' ∧ Mem S w0 sv rl' V' st' W' ∧ Ext rl rl' W W'

/-- .. with what they leave of the values. -/
def DoesV (K : Vals → Vals → Prop) (R : St → St → Prop) (S : Syst) (w0 : World) (sv : Nat) (rl : Nat → Nat) (V : Vals) (st : St) (W : World) (e : Ending) (W' : World) : Prop :=
  ∃ v rl' V' st', e = .returned v ∧ R st st' ∧ Mem S w0 sv rl' V' st' W' ∧ Ext rl rl' W W' ∧ K V V'
theorem DoesV.weak {K : Vals → Vals → Prop} {R : St → St → Prop} {S : Syst} {w0 : World} {sv : Nat} {rl : Nat → Nat} {V : Vals} {st : St} {W : World} {e : Ending} {W' : World} (h : DoesV K R S w0 sv rl V st W e W') : DoesP R S w0 sv rl st W e W' := by
  obtain ⟨v, rl', V', st', h1, h2, h3, h4, -⟩ := h
  exact ⟨v, rl', V', st', h1, h2, h3, h4⟩
def KJ (V V' : Vals) : Prop := V'.pvs = V.pvs ∧ V'.lvs = V.lvs ∧ V'.svs = V.svs
def KP (V V' : Vals) : Prop := V'.cvs = V.cvs ∧ KJ V V'
theorem KP.refl (V : Vals) : KP V V := ⟨rfl, rfl, rfl, rfl⟩
theorem KJ.refl (V : Vals) : KJ V V := ⟨rfl, rfl, rfl⟩
theorem KJ.trans {V1 V2 V3 : Vals} (h : KJ V1 V2) (k : KJ V2 V3) : KJ V1 V3 := ⟨k.1.trans h.1, k.2.1.trans h.2.1, k.2.2.trans h.2.2⟩
theorem KP.trans {V1 V2 V3 : Vals} (h : KP V1 V2) (k : KP V2 V3) : KP V1 V3 := ⟨k.1.trans h.1, h.2.trans k.2⟩

theorem cells2_keep {W1 W2 : World} {row : Option Nat} {a b : Addr} {x y : Value} (h : W1.cell? a = some x ∧ W1.cell? b = some y) (hg : W1.grownBy W2 row) (ha : some a.block ≠ row) (hb : some b.block ≠ row) :
    W2.cell? a = some x ∧ W2.cell? b = some y := ⟨hg.cell h.1 ha, hg.cell h.2 hb⟩


set_option maxHeartbeats 3200000 in
set_option maxRecDepth 100000 in
theorem put_anyV {S : Syst} {w0 : World} {sv : Nat} {rl : Nat → Nat} {V : Vals} {st : St} {W : World} (h : Mem S w0 sv rl V st W) (node : Nat) (hn : node < S.N) (_hN : S.N ≤ 1000000) (ht : st.todo.length ≤ 1000000) {a : Option Addr} {n c : Nat} {s : Nat → Bool} (hv : IsS rl W (.slice a n c) s) :
    Calls Try.prog 54 #[.pointer (some ⟨sv, 0, none⟩), .int .i64 node, .slice a n c] W (DoesV KP (Put node s) S w0 sv rl V st W) := by
  obtain ⟨ra, rc, hra⟩ := h.setsV
  obtain ⟨fa, fc, hfa⟩ := h.freshV
  obtain ⟨qa, qc, hqa⟩ := h.qV
  have i1 := h.setsIx hra hn
  have i2 := h.freshIx hfa hn
  have i3 := h.qIx hqa hn
  obtain ⟨c4, cS, -⟩ := h.setsAt hra hn
  have HM := Lib.hid (And.intro h (And.intro hv (And.intro hra (And.intro hfa hqa))))
  clear h hv hra hfa hqa
  go_enter Try.func54, Try.ntmps54
  go_wp2_with fail
  refine (Within_S HM.out.2.1 ((HM.out.1.sets (by omega)).mean node hn)).mono ?_
  rintro e W1 ⟨b, rfl, hb, q1⟩
  have m1 := HM.out.1.keep (grownBy_qt q1)
  have e1 : Ext rl rl W W1 := Ext.grown (grownBy_qt q1)
  cases b
  · have hno : ¬ ∀ x, s x = true → st.p node x = true := fun hh => by have := hb.2 hh; cases this
    clear c4 cS
    obtain ⟨c4, cS, -⟩ := m1.setsAt HM.out.2.2.1 hn
    have H1 := Lib.hid (And.intro m1 (And.intro e1 hno))
    clear m1 e1 hno hb q1
    go_wp2_with fail
    refine (Minus_S (HM.out.2.1.ex H1.out.2.1) ((H1.out.1.sets (by omega)).mean node hn) H1.out.1.fr).mono ?_
    rintro e W2 ⟨a2, n2, c2, rfl, s2, q2⟩
    have m2 := H1.out.1.keep (grownBy_below q2)
    have e2 := H1.out.2.1.trans (Ext.grown (grownBy_below q2))
    clear c4 cS q2
    obtain ⟨c4, cS, fS⟩ := m2.setsAt HM.out.2.2.1 hn
    have H2 := Lib.hid (And.intro m2 (And.intro e2 s2))
    clear m2 e2 s2
    go_wp2_with fail
    refine wp_region_mix [0, 1, 2, 3, 4, 5, 6, 7, 8, 9, 10, 11, 12] [13, 14, 15] (fun w' => w'.cell? ⟨sv, 4, none⟩ = some (.slice ra S.N rc) ∧ w'.cell? ⟨blk ra, ofs ra + node, none⟩ = some (nth V.xs node)) (by kernel_rfl) (by kernel_rfl) (by kernel_rfl) ⟨c4, cS⟩ ?_
    repeat (
      refine wpHeads_cons (v := ?_) rfl (Or.inl ⟨by rfl, ?_⟩) ?_
      rotate_left
      · (intro W hW; go_simp; try with_reducible rfl)
      simp only [Act.put, List.setIfInBounds_toArray])
    refine wpHeads_nil ?_
    refine wpTails_cons rfl ?_
    go_wp2_with fail
    have m3 := H2.out.1.keep (grownBy_drew0 _)
    refine (Union_S (rl := rl) ((m3.sets (by omega)).mean node hn) (H2.out.2.2.ex (Ext.grown (grownBy_drew0 _))) m3.fr).mono ?_
    rintro e W3 ⟨a3, n3, c3, rfl, s3, q3⟩
    have m4 := m3.keep (grownBy_below q3)
    have e4 := H2.out.2.1.trans ((Ext.grown (rl := rl) (grownBy_drew0 _)).trans (Ext.grown (grownBy_below q3)))
    have s4 := (H2.out.2.2.ex (Ext.grown (rl := rl) (grownBy_drew0 _))).ex (Ext.grown (grownBy_below q3))
    obtain ⟨k4, kS, kF⟩ := m4.setsAt HM.out.2.2.1 hn
    clear c4 cS fS q3 m3
    go_wp2_with fail
    refine tail_mk ⟨k4, kS⟩ ?_
    refine wpTails_cons rfl ?_
    go_wp2_with fail
    refine tail_mk ⟨k4, kS⟩ ?_
    refine wpTails_one rfl ?_
    have m5 := m4.setSets HM.out.2.2.1 hn s3
    have HQ := Lib.hid (And.intro m5.1 (And.intro (e4.trans m5.2) (s4.ex m5.2)))
    clear m5 m4 e4 s3 s4
    go_wp2_with fail
    refine thenQ_mk ?_
    refine K_gen (fun Z => Mem S w0 sv rl { V with xs := V.xs.set node (.slice a3 n3 c3) } { st with p := upd st.p node (fun x => st.p node x || (s x && !st.p node x)) } Z ∧ Ext rl rl W Z ∧ IsS rl Z (.slice a2 n2 c2) (fun x => s x && !st.p node x)) HQ.out ?_
    intro W5 h5
    clear H2 HQ k4 kS kF
    have H2 := Lib.hid h5
    obtain ⟨c4, cS, fS⟩ := h5.1.freshAt (i := node) HM.out.2.2.2.1 hn
    obtain ⟨v3, hv3⟩ : ∃ v3, v3 = Value.slice a3 n3 c3 := ⟨_, rfl⟩
    clear h5
    go_wp2_with fail
    rw [← hv3] at H2
    clear hv3 W3
    refine wp_region_mix [0, 1, 2, 3, 4, 5, 6, 7, 8, 9, 10, 11, 12] [13, 14, 15] (fun w' => w'.cell? ⟨sv, 5, none⟩ = some (.slice fa S.N fc) ∧ w'.cell? ⟨blk fa, ofs fa + node, none⟩ = some (nth V.ys node)) (by kernel_rfl) (by kernel_rfl) (by kernel_rfl) ⟨c4, cS⟩ ?_
    repeat (
      refine wpHeads_cons (v := ?_) rfl (Or.inl ⟨by rfl, ?_⟩) ?_
      rotate_left
      · (intro W hW; go_simp; try with_reducible rfl)
      simp only [Act.put, List.setIfInBounds_toArray])
    refine wpHeads_nil ?_
    refine wpTails_cons rfl ?_
    go_wp2_with fail
    have m3 := H2.out.1.keep (grownBy_drew0 _)
    refine (Union_S (rl := rl) ((m3.fresh (by omega)).mean node hn) (H2.out.2.2.ex (Ext.grown (grownBy_drew0 _))) m3.fr).mono ?_
    rintro e W3 ⟨a3, n3, c3, rfl, s3, q3⟩
    have m4 := m3.keep (grownBy_below q3)
    have e4 := H2.out.2.1.trans ((Ext.grown (rl := rl) (grownBy_drew0 _)).trans (Ext.grown (grownBy_below q3)))
    have s4 := (H2.out.2.2.ex (Ext.grown (rl := rl) (grownBy_drew0 _))).ex (Ext.grown (grownBy_below q3))
    obtain ⟨k4, kS, kF⟩ := m4.freshAt HM.out.2.2.2.1 hn
    clear c4 cS fS q3 m3
    go_wp2_with fail
    refine tail_mk ⟨k4, kS⟩ ?_
    refine wpTails_cons rfl ?_
    go_wp2_with fail
    refine tail_mk ⟨k4, kS⟩ ?_
    refine wpTails_one rfl ?_
    have m5 := m4.setFresh HM.out.2.2.2.1 hn s3
    have HQ := Lib.hid (And.intro m5.1 (And.intro (e4.trans m5.2) (s4.ex m5.2)))
    clear m5 m4 e4 s3 s4
    go_wp2_with fail
    refine thenQ_mk ?_
    refine K_gen (fun Z => Mem S w0 sv rl { V with xs := V.xs.set node v3, ys := V.ys.set node (.slice a3 n3 c3) } { st with p := upd st.p node (fun x => st.p node x || (s x && !st.p node x)), f := upd st.f node (fun x => st.f node x || (s x && !st.p node x)) } Z ∧ Ext rl rl W Z ∧ IsS rl Z (.slice a2 n2 c2) (fun x => s x && !st.p node x)) HQ.out ?_
    intro W6 h6
    clear H2 HQ k4 kS kF
    obtain ⟨c5, cQ, fQ⟩ := h6.1.qAt (i := node) HM.out.2.2.2.2 hn
    have hqm := ((h6.1.q (by omega)).mean node hn)
    have H6 := Lib.hid h6
    clear h6
    obtain ⟨ta, tc, hta⟩ := (H6.out.1.todo (by omega)).own.shape (n := st.todo.length) (by simp)
    have hta' : V.todo = .slice ta st.todo.length tc := hta
    have c11 := (H6.out.1.fld 11 (v := .slice ta st.todo.length tc) (by rw [← hta]; rfl)).1
    have hne := H6.out.1.qBlk (i := node) HM.out.2.2.2.2 hn
    have hne2 := Ne.symm hne
    have hno : ∃ x, s x = true ∧ st.p node x = false := by
      have := H1.out.2.2
      false_or_by_contra
      rename_i hh
      apply this
      intro x hx
      cases hp : st.p node x
      · exact absurd ⟨x, hx, hp⟩ hh
      · rfl
    have HT := Lib.hid (And.intro hta' hno)
    clear hta hta' hno
    cases hq : nth V.ql node
    · rw [hq] at cQ
      have hqq : st.q node = false := by rw [← hq]; exact hqm.symm
      have HQQ := Lib.hid hqq
      have m7 := H6.out.1.setQ (i := node) HM.out.2.2.2.2 hn true
      have m8 := m7.1.keep (grownBy_alloc _ (.cells #[.int .i64 (node : Int)] 3))
      have e8 := H6.out.2.1.trans (m7.2.trans (Ext.grown (rl := rl) (grownBy_alloc _ (.cells #[.int .i64 (node : Int)] 3))))
      have hsz := m7.1.bel.size
      have H8 := Lib.hid (And.intro m8 e8)
      have hsz9 : w0.heap.size ≤ W6.heap.size := H6.out.1.bel.size
      clear m7 m8 e8 hqm hqq hsz
      go_wp2_with (at_builtin; refine wp_appendS (f := Value.int .i64) sInt rfl rfl _ _ rfl w0.heap.size (.slice ta st.todo.length tc) (st.todo.map fun x : Nat => (x : Int)) rfl (.slice (some ⟨W6.heap.size, 0, none⟩) 1 1) [(node : Int)] rfl (by have := (H8.out.1.todo (by omega)).own; dsimp only at this; rw [HT.out.1] at this; exact this) (src_one _ (cell_at1 (by simp))) (fun _ _ => rfl) (by simp; omega) (by omega) (by simp; omega) ?_; intro v76 W8 o76 g76 l76; obtain ⟨s76, c76, rfl⟩ := o76.shape (n := st.todo.length + 1) (by simp); have g76' : World.grownBy _ W8 V.todo.ownBlock := (by rw [HT.out.1]; exact g76); obtain ⟨b11, f11⟩ := H8.out.1.todoBox g76')
      have m9 := H8.out.1.pushTodo g76' o76 (by dsimp only; rw [HT.out.1]; exact l76)
      go_end0
      obtain ⟨rl', m10, e10⟩ := m9
      refine ⟨_, rl', _, _, rfl, .inr ⟨HT.out.2, ?_⟩, m10, H8.out.2.trans e10, rfl, rfl, rfl, rfl⟩
      simp only [HQQ.out]
      rfl
    · rw [hq] at cQ
      have hqq : st.q node = true := by rw [← hq]; exact hqm.symm
      have HQQ := Lib.hid hqq
      clear hqm hqq
      go_wp2_with fail
      go_end0
      refine ⟨_, rl, _, _, rfl, .inr ⟨HT.out.2, ?_⟩, H6.out.1, H6.out.2.1, rfl, rfl, rfl, rfl⟩
      have : upd st.q node true = st.q := by
        funext j
        by_cases e : j = node
        · subst e; rw [upd_same, HQQ.out]
        · rw [upd_other _ _ _ e]
      simp only [HQQ.out, this, if_true]
  · have hyes := hb.1 rfl
    have H1 := Lib.hid (And.intro m1 (And.intro e1 hyes))
    clear m1 e1 hyes hb
    go_wp2_with fail
    go_end0
    exact ⟨_, rl, V, st, rfl, .inl ⟨H1.out.2.2, rfl⟩, H1.out.1, H1.out.2.1, KP.refl _⟩
theorem put_any {S : Syst} {w0 : World} {sv : Nat} {rl : Nat → Nat} {V : Vals} {st : St} {W : World} (h : Mem S w0 sv rl V st W) (node : Nat) (hn : node < S.N) (hN : S.N ≤ 1000000) (ht : st.todo.length ≤ 1000000) {a : Option Addr} {n c : Nat} {s : Nat → Bool} (hv : IsS rl W (.slice a n c) s) :
    Calls Try.prog 54 #[.pointer (some ⟨sv, 0, none⟩), .int .i64 node, .slice a n c] W (DoesP (Put node s) S w0 sv rl st W) :=
  (put_anyV h node hn hN ht hv).mono fun _ _ hh => hh.weak
end Go.Proofs.Ytkfhopnolflchaa
