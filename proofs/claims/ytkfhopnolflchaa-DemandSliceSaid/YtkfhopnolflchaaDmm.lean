/- Memory of a demand query; contract of its 'add'. -/
import Derived.Test.YtkfhopnolflchaaDmi
import Derived.Test.YtkfhopnolflchaaSysM
namespace Go.Proofs.Ytkfhopnolflchaa
open Go.RowKit Go.Dfl Go.And

theorem sBoolD : SliceOf Try.prog 49 4 (.bool false) 1 1 := ⟨Try.underlying49, info_parts (P := Try.prog) (e := 4) (by kernel_rfl)⟩
theorem sIntD : SliceOf Try.prog 27 3 (.int .i64 0) 1 8 := ⟨Try.underlying27, info_parts (P := Try.prog) (e := 3) (by kernel_rfl)⟩

/-- Blocks that a search writes. -/
def WrD (bq bt : Nat) (vv fv : Value) (k : Nat) : Prop := k = bq ∨ k = bt ∨ vv.ownBlock = some k ∨ fv.ownBlock = some k
structure KD (bq bt Bt : Nat) (vv fv : Value) (W W' : World) : Prop where
  os : W'.os = W.os
  tape : W'.tape = W.tape
  output : W'.output = W.output
  size : W.heap.size ≤ W'.heap.size
  block : ∀ k, k < Bt → ¬ WrD bq bt vv fv k → k < W.heap.size → W'.heap[k]? = W.heap[k]?
section
variable {bq bt Bt : Nat} {vv fv : Value} {W W' W'' : World}
theorem KD.refl : KD bq bt Bt vv fv W W := ⟨rfl, rfl, rfl, Nat.le_refl _, fun _ _ _ _ => rfl⟩
theorem KD.trans (h : KD bq bt Bt vv fv W W') (k : KD bq bt Bt vv fv W' W'') : KD bq bt Bt vv fv W W'' :=
  ⟨k.os.trans h.os, k.tape.trans h.tape, k.output.trans h.output, Nat.le_trans h.size k.size, fun i hi hn hl => (k.block i hi hn (Nat.lt_of_lt_of_le hl h.size)).trans (h.block i hi hn hl)⟩
theorem KD.grown {row : Option Nat} (h : W.grownBy W' row) (hr : ∀ k, row = some k → WrD bq bt vv fv k ∨ Bt ≤ k) : KD bq bt Bt vv fv W W' :=
  ⟨h.os, h.tape, h.output, h.size, fun k hk hn hl => h.block k hl fun e => by rcases hr k e.symm with h1 | h1; exact hn h1; omega⟩
theorem KD.cell (h : KD bq bt Bt vv fv W W') {p : Addr} {x : Value} (hc : W.cell? p = some x) (h1 : p.block < Bt) (h2 : ¬ WrD bq bt vv fv p.block) : W'.cell? p = some x := by
  rw [World.cell?_of_block (h.block p.block h1 h2 (World.block_lt_of_cell? W p hc))]; exact hc
theorem KD.below (h : KD bq bt Bt vv fv W W') {B : Nat} (hB : B ≤ Bt) (hw : ∀ k, WrD bq bt vv fv k → B ≤ k) (hs : B ≤ W.heap.size) : Below B W W' :=
  ⟨h.os, h.tape, h.output, h.size, fun k hk => h.block k (by omega) (fun hn => by have := hw k hn; omega) (by omega)⟩
end

theorem own_block {α : Type} {f : α → Value} {w : World} {base : Nat} {e : TypeId} {a : Option Addr} {n c : Nat} {l : List α} [Inhabited α] (h : Own f w base e (.slice a n c) l) {x : Nat} (hx : x < l.length) : (Value.slice a n c).ownBlock = some (blk a) := by
  obtain ⟨a2, c2, he, -, -, h3⟩ := h.lst
  simp at he
  obtain ⟨rfl, -, -⟩ := he
  rw [(h3 x hx).1]; rfl

structure DM (S : Syst) (B0 bq bt Bt : Nat) (va : Option Addr) (vc : Nat) (fa : Option Addr) (fc : Nat) (ta : Option Addr) (tc : Nat) (vl fl : List Bool) (todo : List Nat) (cnt : Nat) (W : World) : Prop where
  q0 : W.cell? ⟨bq, 0, none⟩ = some (.slice va S.vars vc)
  q1 : W.cell? ⟨bq, 1, none⟩ = some (.slice fa S.fields fc)
  q2 : W.cell? ⟨bq, 2, none⟩ = some (.int .i64 (cnt : Int))
  t0 : W.cell? ⟨bt, 0, none⟩ = some (.slice ta todo.length tc)
  fq : ∀ j, W.frozen? ⟨bq, j, none⟩ = false
  ft : ∀ j, W.frozen? ⟨bt, j, none⟩ = false
  ov : Own Value.bool W B0 4 (.slice va S.vars vc) vl
  of : Own Value.bool W B0 4 (.slice fa S.fields fc) fl
  ot : OwnI W Bt 3 (.slice ta todo.length tc) (todo.map fun x : Nat => (x : Int))
  hv : ∀ k, (Value.slice va S.vars vc).ownBlock = some k → k < Bt ∧ k ≠ bq ∧ k ≠ bt ∧ (Value.slice fa S.fields fc).ownBlock ≠ some k
  hf : ∀ k, (Value.slice fa S.fields fc).ownBlock = some k → k < Bt ∧ k ≠ bq ∧ k ≠ bt
  hq : B0 ≤ bq ∧ bq < Bt ∧ B0 ≤ bt ∧ bt < Bt ∧ bq ≠ bt
  lv : vl.length = S.vars
  lf : fl.length = S.fields

section
variable {S : Syst} {B0 bq bt Bt : Nat} {va : Option Addr} {vc : Nat} {fa : Option Addr} {fc : Nat} {ta : Option Addr} {tc : Nat} {vl fl : List Bool} {todo : List Nat} {cnt : Nat} {W W' : World}

theorem none_or {o : Option Nat} {k : Nat} (h : o ≠ some k) : o = none ∨ o ≠ some k := .inr h
theorem DM.wr (h : DM S B0 bq bt Bt va vc fa fc ta tc vl fl todo cnt W) (k : Nat) (hk : WrD bq bt (.slice va S.vars vc) (.slice fa S.fields fc) k) : B0 ≤ k ∧ k < Bt := by
  rcases hk with rfl | rfl | hk | hk
  · exact ⟨h.hq.1, h.hq.2.1⟩
  · exact ⟨h.hq.2.2.1, h.hq.2.2.2.1⟩
  · exact ⟨(h.ov.lt k hk).1, (h.hv k hk).1⟩
  · exact ⟨(h.of.lt k hk).1, (h.hf k hk).1⟩
theorem DM.grown (h : DM S B0 bq bt Bt va vc fa fc ta tc vl fl todo cnt W) {row : Option Nat} (hg : W.grownBy W' row) (hr : ∀ k, row = some k → ¬ WrD bq bt (.slice va S.vars vc) (.slice fa S.fields fc) k ∧ (Value.slice ta todo.length tc).ownBlock ≠ some k) : DM S B0 bq bt Bt va vc fa fc ta tc vl fl todo cnt W' := by
  have nq : some bq ≠ row := fun e => (hr bq e.symm).1 (.inl rfl)
  have nt : some bt ≠ row := fun e => (hr bt e.symm).1 (.inr (.inl rfl))
  have ne : ∀ {v : Value}, (∀ k, row = some k → v.ownBlock ≠ some k) → v.ownBlock = none ∨ v.ownBlock ≠ row := fun {v} hv => by
    cases e : v.ownBlock with
    | none => exact .inl rfl
    | some k => exact .inr fun e2 => hv k e2.symm e
  have lq := World.block_lt_of_cell? W _ h.q0
  have lt := World.block_lt_of_cell? W _ h.t0
  refine ⟨hg.cell h.q0 nq, hg.cell h.q1 nq, hg.cell h.q2 nq, hg.cell h.t0 nt, fun j => ?_, fun j => ?_, h.ov.grown hg (ne fun k e e2 => (hr k e).1 (.inr (.inr (.inl e2)))), h.of.grown hg (ne fun k e e2 => (hr k e).1 (.inr (.inr (.inr e2)))), h.ot.grown hg (ne fun k e => (hr k e).2), h.hv, h.hf, h.hq, h.lv, h.lf⟩
  · rw [World.frozen?_of_block (a := ⟨bq, j, none⟩) (hg.block bq lq nq)]; exact h.fq j
  · rw [World.frozen?_of_block (a := ⟨bt, j, none⟩) (hg.block bt lt nt)]; exact h.ft j
theorem DM.keep (h : DM S B0 bq bt Bt va vc fa fc ta tc vl fl todo cnt W) (hg : W.grownBy W' none) : DM S B0 bq bt Bt va vc fa fc ta tc vl fl todo cnt W' := h.grown hg (by simp)
theorem DM.tge (h : DM S B0 bq bt Bt va vc fa fc ta tc vl fl todo cnt W) {k : Nat} (hk : k < Bt) : (Value.slice ta todo.length tc).ownBlock ≠ some k := fun e => by
  have := (h.ot.lt k e).1; omega
theorem own_ne {v : Value} {k : Nat} (h : v.ownBlock ≠ some k) : v.ownBlock = none ∨ v.ownBlock ≠ some k := .inr h
theorem DM.setV (h : DM S B0 bq bt Bt va vc fa fc ta tc vl fl todo cnt W) {x : Nat} (hx : x < S.vars) : DM S B0 bq bt Bt va vc fa fc ta tc (vl.set x true) fl todo cnt (W.setCell ⟨blk va, ofs va + x, none⟩ (.bool true)) := by
  have hob := own_block h.ov (x := x) (by rw [h.lv]; exact hx)
  obtain ⟨b1, b2, b3, b4⟩ := h.hv _ hob
  have hg := grownBy_setCell W ⟨blk va, ofs va + x, none⟩ (.bool true)
  have nq : some bq ≠ some (blk va) := fun e => b2 (by simpa using e.symm)
  have nt : some bt ≠ some (blk va) := fun e => b3 (by simpa using e.symm)
  refine ⟨hg.cell h.q0 nq, hg.cell h.q1 nq, hg.cell h.q2 nq, hg.cell h.t0 nt, fun j => ?_, fun j => ?_, h.ov.set x true, h.of.grown hg (.inr b4), h.ot.grown hg (.inr (h.tge b1)), h.hv, h.hf, h.hq, by simp [h.lv], h.lf⟩
  · rw [World.frozen?_setCell]; exact h.fq j
  · rw [World.frozen?_setCell]; exact h.ft j
theorem DM.setF (h : DM S B0 bq bt Bt va vc fa fc ta tc vl fl todo cnt W) {x : Nat} (hx : x < S.fields) : DM S B0 bq bt Bt va vc fa fc ta tc vl (fl.set x true) todo cnt (W.setCell ⟨blk fa, ofs fa + x, none⟩ (.bool true)) := by
  have hob := own_block h.of (x := x) (by rw [h.lf]; exact hx)
  obtain ⟨b1, b2, b3⟩ := h.hf _ hob
  have b4 : (Value.slice va S.vars vc).ownBlock ≠ some (blk fa) := fun e => (h.hv _ e).2.2.2 hob
  have hg := grownBy_setCell W ⟨blk fa, ofs fa + x, none⟩ (.bool true)
  have nq : some bq ≠ some (blk fa) := fun e => b2 (by simpa using e.symm)
  have nt : some bt ≠ some (blk fa) := fun e => b3 (by simpa using e.symm)
  refine ⟨hg.cell h.q0 nq, hg.cell h.q1 nq, hg.cell h.q2 nq, hg.cell h.t0 nt, fun j => ?_, fun j => ?_, h.ov.grown hg (.inr b4), h.of.set x true, h.ot.grown hg (.inr (h.tge b1)), h.hv, h.hf, h.hq, h.lv, by simp [h.lf]⟩
  · rw [World.frozen?_setCell]; exact h.fq j
  · rw [World.frozen?_setCell]; exact h.ft j
theorem DM.setN (h : DM S B0 bq bt Bt va vc fa fc ta tc vl fl todo cnt W) (n : Nat) : DM S B0 bq bt Bt va vc fa fc ta tc vl fl todo n (W.setCell ⟨bq, 2, none⟩ (.int .i64 (n : Int))) := by
  have hg := grownBy_setCell W ⟨bq, 2, none⟩ (.int .i64 (n : Int))
  have nt : some bt ≠ some bq := fun e => h.hq.2.2.2.2 (by simpa using e.symm)
  have ho : ∀ j, j ≠ 2 → (W.setCell ⟨bq, 2, none⟩ (.int .i64 (n : Int))).cell? ⟨bq, j, none⟩ = W.cell? ⟨bq, j, none⟩ := fun j hj => World.cell?_setCell_other _ _ _ _ (by intro e; simp at e; try omega)
  refine ⟨by rw [ho _ (by omega)]; exact h.q0, by rw [ho _ (by omega)]; exact h.q1, World.cell?_setCell_same W _ _ h.q2, hg.cell h.t0 nt, fun j => ?_, fun j => ?_, h.ov.grown hg (.inr fun e => (h.hv _ e).2.1 rfl), h.of.grown hg (.inr fun e => (h.hf _ e).2.1 rfl), h.ot.grown hg (.inr (h.tge h.hq.2.1)), h.hv, h.hf, h.hq, h.lv, h.lf⟩
  · rw [World.frozen?_setCell]; exact h.fq j
  · rw [World.frozen?_setCell]; exact h.ft j
/-- The list of what is to be done, replaced. -/
theorem DM.setT (h : DM S B0 bq bt Bt va vc fa fc ta tc vl fl todo cnt W) {t2 : List Nat} {ta2 : Option Addr} {tc2 : Nat} (hg : W.grownBy W' (Value.slice ta todo.length tc).ownBlock) (ho : OwnI W' Bt 3 (.slice ta2 t2.length tc2) (t2.map fun x : Nat => (x : Int))) :
    W'.cell? ⟨bt, 0, none⟩ = some (.slice ta todo.length tc) ∧ W'.frozen? ⟨bt, 0, none⟩ = false ∧ DM S B0 bq bt Bt va vc fa fc ta2 tc2 vl fl t2 cnt (W'.setCell ⟨bt, 0, none⟩ (.slice ta2 t2.length tc2)) := by
  have nrow : ∀ k, k < Bt → some k ≠ (Value.slice ta todo.length tc).ownBlock := fun k hk e => h.tge hk e.symm
  have nq := nrow bq h.hq.2.1
  have nt := nrow bt h.hq.2.2.2.1
  have lq := World.block_lt_of_cell? W _ h.q0
  have lt := World.block_lt_of_cell? W _ h.t0
  have ne : ∀ {v : Value}, (∀ k, v.ownBlock = some k → k < Bt) → v.ownBlock = none ∨ v.ownBlock ≠ (Value.slice ta todo.length tc).ownBlock := fun {v} hv => by
    cases e : v.ownBlock with
    | none => exact .inl rfl
    | some k => exact .inr fun e2 => nrow k (hv k e) e2
  have t1 : W'.cell? ⟨bt, 0, none⟩ = some (.slice ta todo.length tc) := hg.cell h.t0 nt
  have f1 : ∀ j, W'.frozen? ⟨bt, j, none⟩ = false := fun j => by rw [World.frozen?_of_block (a := ⟨bt, j, none⟩) (hg.block bt lt nt)]; exact h.ft j
  have g2 := grownBy_setCell W' ⟨bt, 0, none⟩ (.slice ta2 t2.length tc2)
  have nqt : some bq ≠ some bt := fun e => h.hq.2.2.2.2 (by simpa using e)
  refine ⟨t1, f1 0, g2.cell (hg.cell h.q0 nq) nqt, g2.cell (hg.cell h.q1 nq) nqt, g2.cell (hg.cell h.q2 nq) nqt, World.cell?_setCell_same W' _ _ t1, fun j => ?_, fun j => ?_, (h.ov.grown hg (ne fun k e => (h.hv k e).1)).grown g2 (.inr fun e => (h.hv _ e).2.2.1 rfl), (h.of.grown hg (ne fun k e => (h.hf k e).1)).grown g2 (.inr fun e => (h.hf _ e).2.2 rfl), ho.grown g2 (.inr fun e => ?_), h.hv, h.hf, h.hq, h.lv, h.lf⟩
  · rw [World.frozen?_setCell, World.frozen?_of_block (a := ⟨bq, j, none⟩) (hg.block bq lq nq)]; exact h.fq j
  · rw [World.frozen?_setCell]; exact f1 j
  · have h1 := (ho.lt _ e).1
    have h2 := h.hq.2.2.2.1
    have h3 : bt = (⟨bt, 0, none⟩ : Addr).block := rfl
    omega
/-- What a walk needs to read. -/
theorem DM.rdV (h : DM S B0 bq bt Bt va vc fa fc ta tc vl fl todo cnt W) : (∀ (k : IntKind) (x : Int), 0 ≤ x → x < S.vars → ∀ Z, (Instr.indexAt 49 (.slice va S.vars vc) (.int k x)).run Try.prog Z = .ok (.pointer (some ⟨blk va, ofs va + x.toNat, none⟩)) Z) ∧
    ∀ x, x < S.vars → W.cell? ⟨blk va, ofs va + x, none⟩ = some (.bool (nth vl x)) ∧ W.frozen? ⟨blk va, ofs va + x, none⟩ = false := by
  obtain ⟨a, c, e, -, i1, d1, -⟩ := h.ov.lst.out1 sBoolD
  simp only [Value.slice.injEq] at e
  obtain ⟨rfl, -, rfl⟩ := e
  rw [h.lv] at i1 d1
  exact ⟨i1, fun x hx => ⟨d1 x hx, h.ov.frozen (by rw [h.lv]; omega) _⟩⟩
theorem DM.rdF (h : DM S B0 bq bt Bt va vc fa fc ta tc vl fl todo cnt W) : (∀ (k : IntKind) (x : Int), 0 ≤ x → x < S.fields → ∀ Z, (Instr.indexAt 49 (.slice fa S.fields fc) (.int k x)).run Try.prog Z = .ok (.pointer (some ⟨blk fa, ofs fa + x.toNat, none⟩)) Z) ∧
    ∀ x, x < S.fields → W.cell? ⟨blk fa, ofs fa + x, none⟩ = some (.bool (nth fl x)) ∧ W.frozen? ⟨blk fa, ofs fa + x, none⟩ = false := by
  obtain ⟨a, c, e, -, i1, d1, -⟩ := h.of.lst.out1 sBoolD
  simp only [Value.slice.injEq] at e
  obtain ⟨rfl, -, rfl⟩ := e
  rw [h.lf] at i1 d1
  exact ⟨i1, fun x hx => ⟨d1 x hx, h.of.frozen (by rw [h.lf]; omega) _⟩⟩
end

/-- What 'add' does. -/
def AddR (S : Syst) (B0 bq bt Bt : Nat) (va : Option Addr) (vc : Nat) (fa : Option Addr) (fc : Nat) (tv : Value) (vl fl : List Bool) (todo : List Nat) (x : Nat) (W : World) (e : Ending) (W' : World) : Prop :=
  (∃ v, e = .returned v) ∧ ∃ ta tc, DM S B0 bq bt Bt va vc fa fc ta tc (addV vl x) fl (addT vl todo x) ((addV vl x).count true) W' ∧ KD bq bt Bt (.slice va S.vars vc) (.slice fa S.fields fc) W W' ∧ ∀ k, k < W.heap.size → ¬ WrD bq bt (.slice va S.vars vc) (.slice fa S.fields fc) k → tv.ownBlock ≠ some k → W'.heap[k]? = W.heap[k]?

set_option maxHeartbeats 1600000 in
theorem add_any {S : Syst} {B0 bq bt Bt : Nat} {va : Option Addr} {vc : Nat} {fa : Option Addr} {fc : Nat} {ta : Option Addr} {tc : Nat} {vl fl : List Bool} {todo : List Nat} {W : World} (h : DM S B0 bq bt Bt va vc fa fc ta tc vl fl todo (vl.count true) W) (x : Nat) (hx : x < S.vars) (hs : S.vars ≤ 1000000) (ht : todo.length ≤ 1000000) (hBt : Bt ≤ W.heap.size) :
    Calls Try.prog 35 #[.int .i64 (x : Int), .pointer (some ⟨bq, 0, none⟩), .pointer (some ⟨bt, 0, none⟩)] W (AddR S B0 bq bt Bt va vc fa fc (.slice ta todo.length tc) vl fl todo x W) := by
  obtain ⟨i1, hd⟩ := h.rdV
  obtain ⟨d1, f1⟩ := hd x hx
  have q0 := h.q0
  have hcb : vl.count true ≤ 1000000 := by have h1 : vl.count true ≤ vl.length := List.count_le_length; rw [h.lv] at h1; omega
  have hob := own_block h.ov (x := x) (by rw [h.lv]; exact hx)
  have H := Lib.hid h
  clear hd
  by_cases hn : nth vl x = true
  · rw [hn] at d1
    have HN := Lib.hid hn
    clear hn h hob
    go_enter Try.func35, Try.ntmps35
    go_wp2_with fail
    go_end0
    have e1 : addV vl x = vl := by unfold addV; rw [if_pos HN.out]
    have e2 : addT vl todo x = todo := by unfold addT; rw [if_pos HN.out]
    refine ⟨⟨_, rfl⟩, ta, tc, ?_, KD.refl, fun _ _ _ _ => rfl⟩
    rw [e1, e2]; exact H.out
  · have hn' : nth vl x = false := by simpa using hn
    rw [hn'] at d1
    have hcs := count_set (by rw [h.lv]; exact hx) hn'
    obtain ⟨n, hnn⟩ : ∃ n, n = vl.count true := ⟨_, rfl⟩
    rw [← hnn] at hcs hcb h
    have h1 := h.setV hx
    have h2 := h1.setN (n + 1)
    have e3 : ((n + 1 : Nat) : Int) = (n : Int) + 1 := by simp
    rw [e3] at h2
    have q2 : (W.setCell ⟨blk va, ofs va + x, none⟩ (.bool true)).cell? ⟨bq, 2, none⟩ = some (.int .i64 (n : Int)) := h1.q2
    have q0' : (W.setCell ⟨blk va, ofs va + x, none⟩ (.bool true)).cell? ⟨bq, 0, none⟩ = some (.slice va S.vars vc) := h1.q0
    have fq2 : (W.setCell ⟨blk va, ofs va + x, none⟩ (.bool true)).frozen? ⟨bq, 2, none⟩ = false := h1.fq 2
    have t0 := h2.t0
    have hsz : Bt ≤ W.heap.size := hBt
    have KDw : KD bq bt Bt (.slice va S.vars vc) (.slice fa S.fields fc) W ((W.setCell ⟨blk va, ofs va + x, none⟩ (.bool true)).setCell ⟨bq, 2, none⟩ (.int .i64 ((n : Int) + 1))) :=
      (KD.grown (grownBy_setCell _ _ _) (fun k e => by simp at e; subst e; exact .inl (.inr (.inr (.inl hob))))).trans (KD.grown (grownBy_setCell _ _ _) (fun k e => by simp at e; exact .inl (.inl e.symm)))
    have HQ := Lib.hid (And.intro h2 (And.intro hn' (And.intro KDw (And.intro hcs hnn))))
    have HOB := Lib.hid hob
    clear h h1 h2 hn hn' hcs e3 KDw H hob hnn
    go_enter Try.func35, Try.ntmps35
    have e9 : (todo ++ [x]).length = todo.length + 1 := by simp
    have E9 := Lib.hid e9
    clear e9
    go_wp2_with (at_builtin; refine wp_append1 (f := Value.int .i64) sIntD rfl _ rfl _ _ rfl Bt _ (todo.map fun x : Nat => (x : Int)) rfl (HQ.out.1.ot.alloc _) (x : Int) ⟨W.heap.size, 0, none⟩ rfl (cell_at1 (by simp)) rfl (by simp; omega) (by omega) (by simp; omega) ?_; intro v' W3 hown hgr hb3; obtain ⟨s9, c9, rfl⟩ := hown.shape (n := todo.length + 1) (by simp); have hset := HQ.out.1.setT (t2 := todo ++ [x]) (ta2 := s9) (tc2 := c9) (grownBy_trans (grownBy_widen (grownBy_alloc _ _)) hgr) (by rw [E9.out]; simpa using hown); rw [E9.out] at hset; obtain ⟨t1, ft1, hDM⟩ := hset; have HD := Lib.hid (And.intro hDM (And.intro hgr hown)); clear hDM hgr hown hb3)
    go_end0
    have ob := HQ.out.1.ot.lt
    have kd2 : KD bq bt Bt (.slice va S.vars vc) (.slice fa S.fields fc) ((W.setCell ⟨blk va, ofs va + x, none⟩ (.bool true)).setCell ⟨bq, 2, none⟩ (.int .i64 ((n : Int) + 1))) W3 :=
      (KD.grown (grownBy_alloc _ _) (by simp)).trans (KD.grown HD.out.2.1 (fun k e => .inr (ob k e).1))
    have e1 : addV vl x = vl.set x true := by unfold addV; rw [if_neg (by rw [HQ.out.2.1]; simp)]
    have e2 : addT vl todo x = todo ++ [x] := by unfold addT; rw [if_neg (by rw [HQ.out.2.1]; simp)]
    refine ⟨⟨_, rfl⟩, s9, c9, ?_, HQ.out.2.2.1.trans (kd2.trans (KD.grown (grownBy_setCell _ _ _) (fun k e => by simp at e; exact .inl (.inr (.inl e.symm))))), fun k hk hw ht => ?_⟩
    rotate_left
    · have n1 : some k ≠ some (blk va) := fun e => hw (.inr (.inr (.inl (by rw [HOB.out]; exact e.symm))))
      have n2 : some k ≠ some bq := fun e => hw (.inl (by simpa using e))
      have n3 : some k ≠ some bt := fun e => hw (.inr (.inl (by simpa using e)))
      have b1 := (grownBy_setCell W ⟨blk va, ofs va + x, none⟩ (.bool true)).block k hk n1
      have b2 := (grownBy_setCell (W.setCell ⟨blk va, ofs va + x, none⟩ (.bool true)) ⟨bq, 2, none⟩ (.int .i64 ((n : Int) + 1))).block k (by simpa using hk) n2
      have b3 := (grownBy_alloc ((W.setCell ⟨blk va, ofs va + x, none⟩ (.bool true)).setCell ⟨bq, 2, none⟩ (.int .i64 ((n : Int) + 1))) (.cells #[.int .i64 (x : Int)] 3)).block k (by simpa using hk) (by simp)
      have b4 := HD.out.2.1.block k (by simp; omega) (fun e => ht e.symm)
      have b5 := (grownBy_setCell W3 ⟨bt, 0, none⟩ (.slice s9 (todo.length + 1) c9)).block k (Nat.lt_of_lt_of_le (by simp; omega) HD.out.2.1.size) n3
      exact b5.trans (b4.trans (b3.trans (b2.trans b1)))
    rw [e1, e2, HQ.out.2.2.2.1]
    exact HD.out.1
end Go.Proofs.Ytkfhopnolflchaa
