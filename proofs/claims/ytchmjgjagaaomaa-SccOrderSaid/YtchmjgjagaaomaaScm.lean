/- The memory of scc's search: boxes, three arrays, the stack, the rows of successors. -/
import Derived.Test.YtchmjgjagaaomaaDrm
import Derived.Test.YtchmjgjagaaomaaGy
namespace Go.Dfl
open Go.RowKit
/-- 'x[k:]' of an own row, k below its length. -/
theorem Own.cutRest {α : Type} [Inhabited α] {f : α → Value} {P : Program} {t e : TypeId} {z : Value} {by8 : Nat} {w : World} {base : Nat} {v : Value} {l : List α} (ht : SliceOf P t e z 1 by8) (h : Own f w base e v l) {k : Nat} (hk : k < l.length) :
    ∃ a c, (∀ (ik : IntKind) (W : World), (Instr.slice t v (some (.int ik (k : Int))) none none).run P W = .ok (.slice a (l.length - k) c) W) ∧ v.ownBlock = some (blk a) ∧ ∀ Z, Own f Z base e v l → Lst f Z (.slice a (l.length - k) c) (l.drop k) := by
  obtain ⟨i, hi, _, hs, _⟩ := ht.info
  have hlt : (l.drop k).length = l.length - k := by simp
  obtain ⟨h1, ⟨rfl, h2⟩ | ⟨g, cap, cur, rfl, hg, hh, hc, hm, hsz, htk⟩⟩ := h
  · omega
  · refine ⟨some ⟨g, k, none⟩, cap - k, fun ik W => ?_, rfl, fun Z ho => ?_⟩
    · have h1' : k ≤ l.length := by omega
      have hck : ¬ cap = k := by omega
      have hce : P.cellsOf e = 1 := by simp [Program.cellsOf, hi, hs]
      simp [Instr.slice, run_underlying ht.und, Instr.sliceBounds, Instr.sliceBound, asIntOf, h1', run_sizeOf _ hi, Addr.add, hck, hce]
      intro h0; simp [h0]
    · obtain ⟨a2, cap2, he, h3, h4, h5⟩ := ho.lst
      simp only [Value.slice.injEq] at he
      obtain ⟨rfl, -, rfl⟩ := he
      refine ⟨some ⟨g, k, none⟩, cap - k, by rw [hlt], by omega, by omega, fun j hj => ?_⟩
      rw [hlt] at hj
      obtain ⟨-, h6, h7⟩ := h5 (k + j) (by omega)
      refine ⟨rfl, h6, fun q hq => ?_⟩
      have h8 := h7 q hq
      rw [show blk (some (⟨g, k, none⟩ : Addr)) = g from rfl, show ofs (some (⟨g, k, none⟩ : Addr)) = k from rfl]
      rw [show blk (some (⟨g, 0, none⟩ : Addr)) = g from rfl, show ofs (some (⟨g, 0, none⟩ : Addr)) = 0 from rfl, Nat.zero_add] at h8
      rw [show k + j * 1 + q = (k + j) * 1 + q by omega, h8]
      show some (f (nth l (k + j))) = some (f (nth (l.drop k) j))
      rw [nth_eq _ _ (show k + j < l.length by omega), nth_eq _ _ (show j < (l.drop k).length by rw [hlt]; exact hj), List.getElem_drop]
/-- 'x[:k]' of an own row, in each world in which it lies so. -/
theorem Own.cutBoth {α : Type} {f : α → Value} {P : Program} {t e : TypeId} {z : Value} {by8 : Nat} {w : World} {base : Nat} {v : Value} {l : List α} (ht : SliceOf P t e z 1 by8) (h : Own f w base e v l) {k : Nat} (hk : k ≤ l.length) :
    ∃ a c, (∀ (ik : IntKind) (W : World), (Instr.slice t v none (some (.int ik (k : Int))) none).run P W = .ok (.slice a k c) W) ∧ ∀ Z, Own f Z base e v l → Own f Z base e (.slice a k c) (l.take k) := by
  obtain ⟨i, hi, _, hs, _⟩ := ht.info
  have hlt : (l.take k).length = k := by simp; omega
  obtain ⟨h1, ⟨rfl, h2⟩ | ⟨g, cap, cur, rfl, hg, hh, hc, hm, hsz, htk⟩⟩ := h
  · obtain rfl : k = 0 := by omega
    refine ⟨none, 0, fun ik W => ?_, fun Z _ => by simpa using Own.nil f Z base e⟩
    simp [Instr.slice, run_underlying ht.und, Instr.sliceBounds, Instr.sliceBound, asIntOf, run_sizeOf _ hi]
  · refine ⟨some ⟨g, 0, none⟩, cap, fun ik W => ?_, fun Z hZ => ?_⟩
    · have h1' : k ≤ cap := by omega
      simp [Instr.slice, run_underlying ht.und, Instr.sliceBounds, Instr.sliceBound, asIntOf, h1', run_sizeOf _ hi, Addr.add]
    · obtain ⟨h1, ⟨h2, h3⟩ | ⟨g', cap', cur', hv, hg', hh', hc', hm', hsz', htk'⟩⟩ := hZ
      · simp at h2
      · simp only [Value.slice.injEq, Option.some.injEq, Addr.mk.injEq] at hv
        obtain ⟨⟨rfl, -⟩, -, rfl⟩ := hv
        refine ⟨by simp, .inr ⟨g, cap, cur', by rw [hlt], hg', hh', by omega, hm', hsz', ?_⟩⟩
        rw [hlt, List.map_take, ← htk', List.take_take]
        congr 1
        omega
end Go.Dfl
namespace Go.Proofs.Ytchmjgjagaaomaa
open Go.RowKit Go.Dfl Go.Gra Go.Tj
/-- Where things lie: the boxes of count, number, low, stack, succ, visit, head; the three arrays; the rows; what each block below B is for. -/
structure SeL where
  bc : Nat
  bn : Nat
  bl : Nat
  bs : Nat
  bu : Nat
  bf : Nat
  bh : Nat
  sn : Option Addr
  sl : Option Addr
  sh : Option Addr
  cn : Nat
  cl : Nat
  ch : Nat
  su : Option Addr
  cu : Nat
  us : List Value
  B0 : Nat
  B : Nat
  rl : Nat → Nat
  W0 : World
  n : Nat
  ll : List (List Int)
  fv : Value
def castL (l : List Nat) : List Int := l.map fun x : Nat => (x : Int)
theorem castL_len (l : List Nat) : (castL l).length = l.length := List.length_map ..
theorem castL_nth {l : List Nat} {i : Nat} (h : i < l.length) : nth (castL l) i = ((nth l i : Nat) : Int) := by
  unfold castL; rw [nth_eq _ _ (by simpa using h), nth_eq _ _ h]; simp
theorem castL_set (l : List Nat) (i x : Nat) : (castL l).set i (x : Int) = castL (l.set i x) := by
  unfold castL; rw [List.map_set]
/-- What stays. -/
structure SeS (L : SeL) : Prop where
  kc : L.rl L.bc = 1 ∧ L.bc < L.B ∧ L.B0 ≤ L.bc
  kn : ∀ q, (Value.slice L.sn L.n L.cn).ownBlock = some q → L.rl q = 2 ∧ q < L.B
  kl : ∀ q, (Value.slice L.sl L.n L.cl).ownBlock = some q → L.rl q = 3 ∧ q < L.B
  kh : ∀ q, (Value.slice L.sh L.n L.ch).ownBlock = some q → L.rl q = 4 ∧ q < L.B
  ks : L.rl L.bs = 5 ∧ L.bs < L.B ∧ L.B0 ≤ L.bs
  xn : L.W0.cell? ⟨L.bn, 0, none⟩ = some (.slice L.sn L.n L.cn) ∧ L.rl L.bn = 0 ∧ L.bn < L.B
  xl : L.W0.cell? ⟨L.bl, 0, none⟩ = some (.slice L.sl L.n L.cl) ∧ L.rl L.bl = 0 ∧ L.bl < L.B
  xh : L.W0.cell? ⟨L.bh, 0, none⟩ = some (.slice L.sh L.n L.ch) ∧ L.rl L.bh = 0 ∧ L.bh < L.B
  xu : L.W0.cell? ⟨L.bu, 0, none⟩ = some (.slice L.su L.n L.cu) ∧ L.rl L.bu = 0 ∧ L.bu < L.B
  xf : L.W0.cell? ⟨L.bf, 0, none⟩ = some L.fv ∧ L.rl L.bf = 0 ∧ L.bf < L.B
  gr : OwnN IIg L.W0 L.B0 32 (.slice L.su L.n L.cu) L.us L.ll
  gl : L.ll.length = L.n
  gf : ∀ q, Foot (.slice L.su L.n L.cu) L.us q → L.rl q = 0 ∧ q < L.B
  n8 : L.n ≤ 8192
  bb : L.B0 ≤ L.B
/-- What changes. -/
structure SeW (L : SeL) (cnt : Nat) (num low : List Nat) (hd : List Int) (stk : List Nat) (W : World) : Prop where
  c : W.cell? ⟨L.bc, 0, none⟩ = some (.int .i64 (cnt : Int))
  cf : W.frozen? ⟨L.bc, 0, none⟩ = false
  num : OwnI W L.B0 3 (.slice L.sn L.n L.cn) (castL num)
  low : OwnI W L.B0 3 (.slice L.sl L.n L.cl) (castL low)
  hd : OwnI W L.B0 3 (.slice L.sh L.n L.ch) hd
  stk : Fld (Value.int .i64) 3 L.bs 0 L.B (castL stk) W
  imm : ∀ q, q < L.B → L.rl q = 0 → W.heap[q]? = L.W0.heap[q]?
  bel : Below L.B0 L.W0 W
  top : L.B ≤ W.heap.size
section
variable {L : SeL} {cnt : Nat} {num low : List Nat} {hd : List Int} {stk : List Nat} {W W' w3 : World} {row : Option Nat}
theorem kArr {v : Value} {l : List Int} {r : Nat} (hv : ∀ q, v.ownBlock = some q → L.rl q = r ∧ q < L.B) (h : OwnI W L.B0 3 v l) (hg : W.grownBy W' row) (hr : ∀ k, row = some k → k < L.B → L.rl k ≠ r) : OwnI W' L.B0 3 v l := by
  refine Go.Dfl.Own.grown h hg ?_
  cases e : v.ownBlock with
  | none => exact .inl rfl
  | some q => exact .inr fun e2 => hr q e2.symm (hv q e).2 (hv q e).1
theorem kCell {b j r : Nat} {v : Value} (hb : L.rl b = r ∧ b < L.B) (h : W.cell? ⟨b, j, none⟩ = some v) (hg : W.grownBy W' row) (hr : ∀ k, row = some k → k < L.B → L.rl k ≠ r) : W'.cell? ⟨b, j, none⟩ = some v :=
  hg.cell h fun e => hr b e.symm hb.2 hb.1
theorem kFrz {b j r : Nat} (hb : L.rl b = r ∧ b < L.B) (ht : b < W.heap.size) (h : W.frozen? ⟨b, j, none⟩ = false) (hg : W.grownBy W' row) (hr : ∀ k, row = some k → k < L.B → L.rl k ≠ r) : W'.frozen? ⟨b, j, none⟩ = false := by
  rw [World.frozen?_of_block (a := ⟨b, j, none⟩) (hg.block b ht fun e => hr b e.symm hb.2 hb.1)]; exact h
theorem kImm (h : ∀ q, q < L.B → L.rl q = 0 → W.heap[q]? = L.W0.heap[q]?) (ht : L.B ≤ W.heap.size) (hg : W.grownBy W' row) (hr : ∀ k, row = some k → k < L.B → L.rl k ≠ 0) : ∀ q, q < L.B → L.rl q = 0 → W'.heap[q]? = L.W0.heap[q]? := fun q hq h0 => by
  rw [hg.block q (by omega) fun e => hr q e.symm hq h0]; exact h q hq h0
/-- A write into a block with a role. -/
theorem SeW.write (h : SeW L cnt num low hd stk W) (hS : SeS L) {r : Nat} {p : Addr} {x : Value} (hp : p.block < L.B) (hb : L.B0 ≤ p.block) (hr : L.rl p.block = r) (h0 : r ≠ 0) (h5 : r ≠ 5) :
    (r ≠ 1 → (W.setCell p x).cell? ⟨L.bc, 0, none⟩ = some (.int .i64 (cnt : Int))) ∧ (W.setCell p x).frozen? ⟨L.bc, 0, none⟩ = false ∧ (r ≠ 2 → OwnI (W.setCell p x) L.B0 3 (.slice L.sn L.n L.cn) (castL num)) ∧ (r ≠ 3 → OwnI (W.setCell p x) L.B0 3 (.slice L.sl L.n L.cl) (castL low)) ∧
      (r ≠ 4 → OwnI (W.setCell p x) L.B0 3 (.slice L.sh L.n L.ch) hd) ∧ Fld (Value.int .i64) 3 L.bs 0 L.B (castL stk) (W.setCell p x) ∧ (∀ q, q < L.B → L.rl q = 0 → (W.setCell p x).heap[q]? = L.W0.heap[q]?) ∧ Below L.B0 L.W0 (W.setCell p x) ∧ L.B ≤ (W.setCell p x).heap.size := by
  have hg := grownBy_setCell W p x
  have hne : ∀ r', r ≠ r' → ∀ k, some p.block = some k → k < L.B → L.rl k ≠ r' := fun r' hh k e _ e2 => by
    obtain rfl := Option.some.inj e
    exact hh (hr.symm.trans e2)
  refine ⟨fun h1 => kCell ⟨hS.kc.1, hS.kc.2.1⟩ h.c hg (hne 1 h1), by rw [World.frozen?_setCell]; exact h.cf, fun h1 => kArr hS.kn h.num hg (hne 2 h1), fun h1 => kArr hS.kl h.low hg (hne 3 h1), fun h1 => kArr hS.kh h.hd hg (hne 4 h1), h.stk.grown hg (fun k e => ?_), kImm h.imm h.top hg (hne 0 h0), h.bel.setCell hb x, by rw [World.size_setCell]; exact h.top⟩
  obtain rfl := Option.some.inj e
  refine ⟨fun e2 => h5 ?_, fun v hv e2 => ?_⟩
  · rw [← hr, e2]; exact hS.ks.1
  · obtain ⟨v0, h1, h2⟩ := h.stk.ex
    obtain rfl : v0 = v := Option.some.inj (h1.symm.trans hv)
    have := (h2.lt _ e2).1
    omega
theorem SeW.setC (h : SeW L cnt num low hd stk W) (hS : SeS L) (c : Nat) : SeW L c num low hd stk (W.setCell ⟨L.bc, 0, none⟩ (.int .i64 (c : Int))) := by
  obtain ⟨a1, a2, a3, a4, a5, a6, a7, a8, a9⟩ := h.write hS (p := ⟨L.bc, 0, none⟩) (x := .int .i64 (c : Int)) hS.kc.2.1 hS.kc.2.2 hS.kc.1 (by decide) (by decide)
  exact ⟨World.cell?_setCell_same _ _ _ h.c, a2, a3 (by decide), a4 (by decide), a5 (by decide), a6, a7, a8, a9⟩
theorem SeW.setN (h : SeW L cnt num low hd stk W) (hS : SeS L) (hl : num.length = L.n) {v : Nat} (hv : v < L.n) (x : Nat) : SeW L cnt (num.set v x) low hd stk (W.setCell ⟨blk L.sn, ofs L.sn + v, none⟩ (.int .i64 (x : Int))) := by
  have ho := own_blk h.num (by rw [castL_len]; exact hl) (by omega)
  have hk := hS.kn _ ho
  obtain ⟨a1, a2, a3, a4, a5, a6, a7, a8, a9⟩ := h.write hS (p := ⟨blk L.sn, ofs L.sn + v, none⟩) (x := .int .i64 (x : Int)) hk.2 (h.num.lt _ ho).1 hk.1 (by decide) (by decide)
  exact ⟨a1 (by decide), a2, by rw [← castL_set]; exact h.num.set v (x : Int), a4 (by decide), a5 (by decide), a6, a7, a8, a9⟩
theorem SeW.setL (h : SeW L cnt num low hd stk W) (hS : SeS L) (hl : low.length = L.n) {v : Nat} (hv : v < L.n) (x : Nat) : SeW L cnt num (low.set v x) hd stk (W.setCell ⟨blk L.sl, ofs L.sl + v, none⟩ (.int .i64 (x : Int))) := by
  have ho := own_blk h.low (by rw [castL_len]; exact hl) (by omega)
  have hk := hS.kl _ ho
  obtain ⟨a1, a2, a3, a4, a5, a6, a7, a8, a9⟩ := h.write hS (p := ⟨blk L.sl, ofs L.sl + v, none⟩) (x := .int .i64 (x : Int)) hk.2 (h.low.lt _ ho).1 hk.1 (by decide) (by decide)
  exact ⟨a1 (by decide), a2, a3 (by decide), by rw [← castL_set]; exact h.low.set v (x : Int), a5 (by decide), a6, a7, a8, a9⟩
theorem SeW.setH (h : SeW L cnt num low hd stk W) (hS : SeS L) (hl : hd.length = L.n) {v : Nat} (hv : v < L.n) (x : Int) : SeW L cnt num low (hd.set v x) stk (W.setCell ⟨blk L.sh, ofs L.sh + v, none⟩ (.int .i64 x)) := by
  have ho := own_blk h.hd hl (by omega)
  have hk := hS.kh _ ho
  obtain ⟨a1, a2, a3, a4, a5, a6, a7, a8, a9⟩ := h.write hS (p := ⟨blk L.sh, ofs L.sh + v, none⟩) (x := .int .i64 x) hk.2 (h.hd.lt _ ho).1 hk.1 (by decide) (by decide)
  exact ⟨a1 (by decide), a2, a3 (by decide), a4 (by decide), h.hd.set v x, a6, a7, a8, a9⟩
/-- Growth beside all of it. -/
theorem SeW.grow (h : SeW L cnt num low hd stk W) (hS : SeS L) (hg : W.grownBy W' none) : SeW L cnt num low hd stk W' := by
  have hn : ∀ r', ∀ k, (none : Option Nat) = some k → k < L.B → L.rl k ≠ r' := fun r' k e => by cases e
  exact ⟨hg.cell h.c (by simp), kFrz ⟨hS.kc.1, hS.kc.2.1⟩ (by have := hS.kc.2.1; have := h.top; omega) h.cf hg (hn 1), kArr hS.kn h.num hg (hn 2), kArr hS.kl h.low hg (hn 3), kArr hS.kh h.hd hg (hn 4), h.stk.grown hg (fun k e => by cases e), kImm h.imm h.top hg (hn 0), h.bel.grown hg (by have := hS.bb; have := h.top; omega) (fun k e => by cases e), Nat.le_trans h.top hg.size⟩
theorem SeW.below (h : SeW L cnt num low hd stk W) (hS : SeS L) (hb : Below W.heap.size W W') : SeW L cnt num low hd stk W' := h.grow hS (grownBy_below hb)
/-- The stack's box gets another slice. -/
theorem SeW.box (h : SeW L cnt num low hd stk W) (hS : SeS L) {stk' : List Nat} {v' : Value} (hown : OwnI W L.B 3 v' (castL stk')) : SeW L cnt num low hd stk' (W.setCell ⟨L.bs, 0, none⟩ v') := by
  have hg := grownBy_setCell W ⟨L.bs, 0, none⟩ v'
  have hne : ∀ r', (5 : Nat) ≠ r' → ∀ k, some L.bs = some k → k < L.B → L.rl k ≠ r' := fun r' hh k e _ e2 => by
    obtain rfl := Option.some.inj e
    exact hh (hS.ks.1.symm.trans e2)
  obtain ⟨v0, h1, h2⟩ := h.stk.ex
  refine ⟨kCell ⟨hS.kc.1, hS.kc.2.1⟩ h.c hg (hne 1 (by decide)), by rw [World.frozen?_setCell]; exact h.cf, kArr hS.kn h.num hg (hne 2 (by decide)), kArr hS.kl h.low hg (hne 3 (by decide)), kArr hS.kh h.hd hg (hne 4 (by decide)), ⟨⟨v', World.cell?_setCell_same _ _ _ h1, hown.setOther (fun e => ?_) _⟩, by rw [World.frozen?_setCell]; exact h.stk.frz, h.stk.lt⟩, kImm h.imm h.top hg (hne 0 (by decide)), h.bel.setCell hS.ks.2.2 v', by rw [World.size_setCell]; exact h.top⟩
  have h3 : L.B ≤ L.bs := (hown.lt _ e).1
  have := hS.ks.2.1
  omega
/-- The stack's row grows. -/
theorem SeW.grown (h : SeW L cnt num low hd stk W) (hS : SeS L) {v : Value} {o : Obj} (hv : W.cell? ⟨L.bs, 0, none⟩ = some v) {stk' : List Nat} {v' : Value} (hown : OwnI w3 L.B 3 v' (castL stk')) (hgr : (W.alloc o).grownBy w3 v.ownBlock) :
    w3.cell? ⟨L.bs, 0, none⟩ = some v ∧ w3.frozen? ⟨L.bs, 0, none⟩ = false ∧ SeW L cnt num low hd stk' (w3.setCell ⟨L.bs, 0, none⟩ v') := by
  obtain ⟨b1, b2, b3, b4, b5⟩ := h.stk.app hv hown hgr
  obtain ⟨v0, h1, h2⟩ := h.stk.ex
  obtain rfl : v0 = v := Option.some.inj (h1.symm.trans hv)
  have hA := h.grow hS (grownBy_alloc W o)
  have hq : ∀ k, v0.ownBlock = some k → L.B ≤ k := fun k e => (h2.lt k e).1
  have hn : ∀ r', ∀ k, v0.ownBlock = some k → k < L.B → L.rl k ≠ r' := fun r' k e hk => by have := hq k e; omega
  have hg := grownBy_setCell w3 ⟨L.bs, 0, none⟩ v'
  have hne : ∀ r', (5 : Nat) ≠ r' → ∀ k, some L.bs = some k → k < L.B → L.rl k ≠ r' := fun r' hh k e _ e2 => by
    obtain rfl := Option.some.inj e
    exact hh (hS.ks.1.symm.trans e2)
  have ht3 : L.B ≤ w3.heap.size := Nat.le_trans hA.top hgr.size
  refine ⟨b1, b2, ⟨kCell ⟨hS.kc.1, hS.kc.2.1⟩ (kCell ⟨hS.kc.1, hS.kc.2.1⟩ hA.c hgr (hn 1)) hg (hne 1 (by decide)), ?_, kArr hS.kn (kArr hS.kn hA.num hgr (hn 2)) hg (hne 2 (by decide)), kArr hS.kl (kArr hS.kl hA.low hgr (hn 3)) hg (hne 3 (by decide)), kArr hS.kh (kArr hS.kh hA.hd hgr (hn 4)) hg (hne 4 (by decide)), b3, kImm (kImm hA.imm hA.top hgr (hn 0)) ht3 hg (hne 0 (by decide)), b5 _ _ h.bel hS.ks.2.2, by rw [World.size_setCell]; exact ht3⟩⟩
  rw [World.frozen?_setCell]
  exact kFrz ⟨hS.kc.1, hS.kc.2.1⟩ (by have := hS.kc.2.1; have := hA.top; omega) hA.cf hgr (hn 1)
/-- A box that stays. -/
theorem SeW.stays (h : SeW L cnt num low hd stk W) {b j : Nat} {v : Value} (hb : L.rl b = 0 ∧ b < L.B) (hv : L.W0.cell? ⟨b, j, none⟩ = some v) : W.cell? ⟨b, j, none⟩ = some v := by
  rw [World.cell?_of_block (a := ⟨b, j, none⟩) (h.imm b hb.2 hb.1)]; exact hv
/-- The rows of successors. -/
theorem SeW.succ (h : SeW L cnt num low hd stk W) (hS : SeS L) : OwnN IIg W L.B0 32 (.slice L.su L.n L.cu) L.us L.ll := by
  have hown : ∀ (v : Value), (∀ q, v.ownBlock = some q → L.rl q = 0 ∧ q < L.B) → ∀ {α : Type} (f : α → Value) (e : TypeId) (l : List α), Go.Dfl.Own f L.W0 L.B0 e v l → Go.Dfl.Own f W L.B0 e v l := fun v hv α f e l ho => by
    obtain ⟨h1, ⟨h2, h3⟩ | ⟨g, cap, cur, hv9, hg, hh, hc, hm, hsz, htk⟩⟩ := ho
    · exact ⟨h1, .inl ⟨h2, h3⟩⟩
    · refine ⟨h1, .inr ⟨g, cap, cur, hv9, hg, ?_, hc, hm, hsz, htk⟩⟩
      have hb := hv g (by rw [hv9]; rfl)
      rw [h.imm g hb.2 hb.1]; exact hh
  refine ⟨hown _ (fun q hq => hS.gf q (.inl hq)) _ _ _ hS.gr.out, hS.gr.len, fun i hi => hown _ (fun q hq => hS.gf q (.inr ⟨i, by rw [hS.gr.len]; exact hi, hq⟩)) _ _ _ (hS.gr.inn i hi), hS.gr.sep, hS.gr.apart⟩
end
end Go.Proofs.Ytchmjgjagaaomaa
