/- Memory of a demand query's search. -/
import Derived.Test.YtkfhopnolflchaaDmh
import Derived.Test.YtkfhopnolflchaaAndU
namespace Go.Proofs.Ytkfhopnolflchaa
open Go.RowKit Go.Dfl Go.And

/-- The new visit. -/
structure VN (S : Syst) (B0 bq : Nat) (va : Option Addr) (vc : Nat) (fa : Option Addr) (fc : Nat) (W0 W : World) : Prop where
  q0 : W.cell? ⟨bq, 0, none⟩ = some (.slice va S.vars vc)
  q1 : W.cell? ⟨bq, 1, none⟩ = some (.slice fa S.fields fc)
  q2 : W.cell? ⟨bq, 2, none⟩ = some (.int .i64 0)
  fq : ∀ j, W.frozen? ⟨bq, j, none⟩ = false
  ov : Own Value.bool W B0 4 (.slice va S.vars vc) (List.replicate S.vars false)
  of : Own Value.bool W B0 4 (.slice fa S.fields fc) (List.replicate S.fields false)
  hv : ∀ k, (Value.slice va S.vars vc).ownBlock = some k → k ≠ bq ∧ (Value.slice fa S.fields fc).ownBlock ≠ some k
  hf : ∀ k, (Value.slice fa S.fields fc).ownBlock = some k → k ≠ bq
  hq : B0 ≤ bq
  gr : W0.grownBy W none
  lq : W0.heap.size ≤ bq
  lv : ∀ k, (Value.slice va S.vars vc).ownBlock = some k → W0.heap.size ≤ k
  lf : ∀ k, (Value.slice fa S.fields fc).ownBlock = some k → W0.heap.size ≤ k

/-- While it is made. -/
def VQ (W : World) (bq : Nat) : Prop := W.heap[bq]? = some (.cells #[.slice none 0 0, .slice none 0 0, .int .i64 0] 51)
theorem VQ.grown {W W' : World} {bq : Nat} (h : VQ W bq) (hg : W.grownBy W' none) : VQ W' bq := by
  have hl : bq < W.heap.size := (Array.getElem?_eq_some_iff.1 h).1
  exact (hg.block bq hl (by simp)).trans h
theorem VN.mk2 {S : Syst} {B0 bq : Nat} {va : Option Addr} {vc : Nat} {fa : Option Addr} {fc : Nat} {W0 W : World} (hB : B0 ≤ W0.heap.size) (g : W0.grownBy W none) (hq : VQ W bq) (lq : W0.heap.size ≤ bq)
    (ov : Own Value.bool W W0.heap.size 4 (.slice va S.vars vc) (List.replicate S.vars false)) (of : Own Value.bool W W0.heap.size 4 (.slice fa S.fields fc) (List.replicate S.fields false))
    (h1 : ∀ k, (Value.slice va S.vars vc).ownBlock = some k → k ≠ bq ∧ (Value.slice fa S.fields fc).ownBlock ≠ some k) (h2 : ∀ k, (Value.slice fa S.fields fc).ownBlock = some k → k ≠ bq) :
    VN S B0 bq va vc fa fc W0 (((W.setCell ⟨bq, 0, none⟩ (.slice va S.vars vc)).setCell ⟨bq, 1, none⟩ (.slice fa S.fields fc)).setCell ⟨bq, 2, none⟩ (.int .i64 0)) := by
  have hl : bq < W.heap.size := (Array.getElem?_eq_some_iff.1 hq).1
  have hb : (((W.setCell ⟨bq, 0, none⟩ (.slice va S.vars vc)).setCell ⟨bq, 1, none⟩ (.slice fa S.fields fc)).setCell ⟨bq, 2, none⟩ (.int .i64 0)).heap[bq]? = some (.cells #[.slice va S.vars vc, .slice fa S.fields fc, .int .i64 0] 51) := by
    have hq' : W.heap[bq]? = some (.cells #[.slice none 0 0, .slice none 0 0, .int .i64 0] 51) := hq
    simp [World.setCell, Array.getElem?_modify, hq']
  have hg := grownBy_trans (grownBy_trans (grownBy_setCell W ⟨bq, 0, none⟩ (.slice va S.vars vc)) (grownBy_setCell _ ⟨bq, 1, none⟩ (.slice fa S.fields fc))) (grownBy_setCell _ ⟨bq, 2, none⟩ (.int .i64 0))
  refine ⟨by simp [World.cell?, hb], by simp [World.cell?, hb], by simp [World.cell?, hb], fun j => by simp [World.frozen?, hb], (ov.mono hB).grown hg (.inr fun e => (h1 _ e).1 rfl), (of.mono hB).grown hg (.inr fun e => h2 _ e rfl), h1, h2, Nat.le_trans hB lq, ?_, lq, fun k hk => (ov.lt k hk).1, fun k hk => (of.lt k hk).1⟩
  exact ⟨hg.os.trans g.os, hg.tape.trans g.tape, hg.output.trans g.output, Nat.le_trans g.size hg.size, fun k hk _ => (hg.block k (Nat.lt_of_lt_of_le hk g.size) (by show some k ≠ some bq; simp; omega)).trans (g.block k hk (by simp))⟩


theorem Sliced.same {w w' : World} {v : Value} {n s : Nat} {c : Nat → Nat → Value} (h : Sliced w v n s c) (hb : ∀ k, v.ownBlock = some k → k < w.heap.size → w'.heap[k]? = w.heap[k]?) (hs : w.heap.size ≤ w'.heap.size) : Sliced w' v n s c := by
  obtain ⟨a, cap, rfl, h1, h2, h3⟩ := h
  refine ⟨a, cap, rfl, h1, h2, fun i hi => ?_⟩
  obtain ⟨g1, g2, g3⟩ := h3 i hi
  refine ⟨g1, Nat.lt_of_lt_of_le g2 hs, fun j hj => ?_⟩
  rw [World.cell?_of_block (a := ⟨blk a, ofs a + i * s + j, none⟩) (hb (blk a) (by rw [g1]; rfl) g2)]
  exact g3 j hj
theorem Grid.same {w w' : World} {v : Value} {vs : List Value} {ll : List (List Int)} (h : Grid (Value.int .i64) w v vs ll) (hb : ∀ k, Foot v vs k → k < w.heap.size → w'.heap[k]? = w.heap[k]?) (hs : w.heap.size ≤ w'.heap.size) : Grid (Value.int .i64) w' v vs ll :=
  ⟨Sliced.same h.1 (fun k hk => hb k (.inl hk)) hs, h.2.1, fun i hi => Sliced.same (h.2.2 i hi) (fun k hk => hb k (.inr ⟨i, by rw [h.2.1]; exact hi, hk⟩)) hs⟩

/-- 'x[:k]', kept as a row of the call's own. -/
theorem Own.cutOwn {α : Type} {f : α → Value} {P : Program} {t e : TypeId} {z : Value} {by8 : Nat} {w : World} {base : Nat} {v : Value} {l : List α} (ht : SliceOf P t e z 1 by8) (h : Own f w base e v l) (k : Nat) (hk : k ≤ l.length) :
    ∃ a c, (∀ (ik : IntKind) (W : World), (Instr.slice t v none (some (.int ik (k : Int))) none).run P W = .ok (.slice a k c) W) ∧ Own f w base e (.slice a k c) (l.take k) := by
  obtain ⟨i, hi, _, hs, _⟩ := ht.info
  have hlt : (l.take k).length = k := by simp; omega
  obtain ⟨h1, ⟨rfl, h2⟩ | ⟨g, cap, cur, rfl, hg, hh, hc, hm, hsz, htk⟩⟩ := h
  · obtain rfl : k = 0 := by omega
    refine ⟨none, 0, fun ik W => ?_, by simpa using Own.nil f w base e⟩
    simp [Instr.slice, run_underlying ht.und, Instr.sliceBounds, Instr.sliceBound, asIntOf, run_sizeOf _ hi]
  · refine ⟨some ⟨g, 0, none⟩, cap, fun ik W => ?_, ⟨by simp, .inr ⟨g, cap, cur, by rw [hlt], hg, hh, by omega, hm, hsz, ?_⟩⟩⟩
    · have h1' : k ≤ cap := by omega
      simp [Instr.slice, run_underlying ht.und, Instr.sliceBounds, Instr.sliceBound, asIntOf, h1', run_sizeOf _ hi, Addr.add]
    · rw [hlt, List.map_take, ← htk, List.take_take]
      congr 1
      omega

/-- What the search reads and does not write. -/
structure RDI (S : Syst) (bs br : Nat) (cv : Value) (ia : Option Addr) (ic : Nat) (ja : Option Addr) (jc : Nat) (us ws : List Value) (ll ss : List (List Int)) (W Z : World) : Prop where
  b3 : Z.cell? ⟨bs, 3, none⟩ = some cv
  g1 : Grid (Value.int .i64) Z (.slice ia S.vars ic) us ll
  g2 : Grid (Value.int .i64) Z (.slice ja S.fields jc) ws ss
  bel : Below W.heap.size W Z
  vq : VQ Z br
def Rds (bs br : Nat) (iv jv : Value) (us ws : List Value) (B0 k : Nat) : Prop := k = bs ∨ Foot iv us k ∨ Foot jv ws k ∨ k < B0 ∨ k = br
theorem RDI.same {S : Syst} {bs br : Nat} {cv : Value} {ia : Option Addr} {ic : Nat} {ja : Option Addr} {jc : Nat} {us ws : List Value} {ll ss : List (List Int)} {W Z Z' : World} (h : RDI S bs br cv ia ic ja jc us ws ll ss W Z)
    (hb : ∀ k, Rds bs br (.slice ia S.vars ic) (.slice ja S.fields jc) us ws W.heap.size k → k < Z.heap.size → Z'.heap[k]? = Z.heap[k]?) (hos : Z'.os = Z.os) (htp : Z'.tape = Z.tape) (hou : Z'.output = Z.output) (hs : Z.heap.size ≤ Z'.heap.size) : RDI S bs br cv ia ic ja jc us ws ll ss W Z' := by
  refine ⟨?_, Grid.same h.g1 (fun k hk => hb k (.inr (.inl hk))) hs, Grid.same h.g2 (fun k hk => hb k (.inr (.inr (.inl hk)))) hs, ?_, ?_⟩
  · rw [World.cell?_of_block (a := ⟨bs, 3, none⟩) (hb bs (.inl rfl) (World.block_lt_of_cell? Z _ h.b3))]; exact h.b3
  · exact ⟨hos.trans h.bel.os, htp.trans h.bel.tape, hou.trans h.bel.output, Nat.le_trans h.bel.size hs, fun k hk => (hb k (.inr (.inr (.inr (.inl hk)))) (Nat.lt_of_lt_of_le hk h.bel.size)).trans (h.bel.block k hk)⟩
  · exact (hb br (.inr (.inr (.inr (.inr rfl)))) (Array.getElem?_eq_some_iff.1 h.vq).1).trans h.vq
theorem RDI.kd {S : Syst} {bs br : Nat} {cv : Value} {ia : Option Addr} {ic : Nat} {ja : Option Addr} {jc : Nat} {us ws : List Value} {ll ss : List (List Int)} {W Z Z' : World} (h : RDI S bs br cv ia ic ja jc us ws ll ss W Z) {bq bt Bt : Nat} {vv fv : Value} (hk : KD bq bt Bt vv fv Z Z')
    (hf : ∀ k, Rds bs br (.slice ia S.vars ic) (.slice ja S.fields jc) us ws W.heap.size k → k < Bt ∧ ¬ WrD bq bt vv fv k) : RDI S bs br cv ia ic ja jc us ws ll ss W Z' :=
  h.same (fun k hr hl => hk.block k (hf k hr).1 (hf k hr).2 hl) hk.os hk.tape hk.output hk.size
theorem RDI.keep {S : Syst} {bs br : Nat} {cv : Value} {ia : Option Addr} {ic : Nat} {ja : Option Addr} {jc : Nat} {us ws : List Value} {ll ss : List (List Int)} {W Z Z' : World} (h : RDI S bs br cv ia ic ja jc us ws ll ss W Z) (hg : Z.grownBy Z' none) : RDI S bs br cv ia ic ja jc us ws ll ss W Z' :=
  h.same (fun k _ hl => hg.block k hl (by simp)) hg.os hg.tape hg.output hg.size

theorem DM.start {S : Syst} {B0 bq : Nat} {va : Option Addr} {vc : Nat} {fa : Option Addr} {fc : Nat} {Wb wc wr : World} (hN : VN S B0 bq va vc fa fc Wb wc) (hb : Below wc.heap.size wc wr) :
    DM S B0 bq wr.heap.size (wr.heap.size + 1) va vc fa fc none 0 (List.replicate S.vars false) (List.replicate S.fields false) [] ((List.replicate S.vars false).count true) (wr.alloc (.cells #[.slice none 0 0] 27)) := by
  have g := grownBy_trans (grownBy_below hb) (grownBy_alloc wr (.cells #[.slice none 0 0] 27))
  have lq : bq < wc.heap.size := World.block_lt_of_cell? wc _ hN.q0
  have hz := hb.size
  have hn := heap_alloc_new wr (.cells #[.slice none 0 0] 27)
  have hc0 : (List.replicate S.vars false).count true = 0 := by simp [List.count_replicate]
  refine ⟨g.cell hN.q0 (by simp), g.cell hN.q1 (by simp), by rw [hc0]; exact g.cell hN.q2 (by simp), cell_alloc1 _ _ _, fun j => ?_, fun j => by simp only [World.frozen?, hn]; first | rfl | simp, hN.ov.grown g (by cases (Value.slice va S.vars vc).ownBlock <;> simp), hN.of.grown g (by cases (Value.slice fa S.fields fc).ownBlock <;> simp), Own.nil _ _ _ _, fun k hk => ?_, fun k hk => ?_, ⟨hN.hq, by omega, by have := hN.hq; omega, by omega, by omega⟩, by simp, by simp⟩
  · rw [World.frozen?_of_block (a := ⟨bq, j, none⟩) (g.block bq lq (by simp))]; exact hN.fq j
  · have h1 := (hN.ov.lt k hk).2
    have h2 := hN.hv k hk
    exact ⟨by omega, h2.1, by omega, h2.2⟩
  · have h1 := (hN.of.lt k hk).2
    exact ⟨by omega, hN.hf k hk, by omega⟩
theorem RDI.start {S : Syst} {B0 bq : Nat} {va : Option Addr} {vc : Nat} {fa : Option Addr} {fc : Nat} {Wb wc wr W : World} (hN : VN S B0 bq va vc fa fc Wb wc) {Bi k bs br : Nat} {cv : Value} {ia : Option Addr} {ic : Nat} {ja : Option Addr} {jc : Nat} {us ws : List Value} {ll ss : List (List Int)} (hP : PH S Bi k ia ic ja jc us ws ll ss wc wr) (hBi : Bi = wc.heap.size) (hB0 : B0 = W.heap.size)
    (hbs : bs < Wb.heap.size) (hbr : br < Wb.heap.size) (hvq : VQ Wb br) (hW : Below W.heap.size W wc) (b3 : wc.cell? ⟨bs, 3, none⟩ = some cv) :
    RDI S bs br cv ia ic ja jc us ws ll ss W (wr.alloc (.cells #[.slice none 0 0] 27)) ∧ ∀ k, Rds bs br (.slice ia S.vars ic) (.slice ja S.fields jc) us ws W.heap.size k → k < wr.heap.size + 1 ∧ ¬ WrD bq wr.heap.size (.slice va S.vars vc) (.slice fa S.fields fc) k := by
  subst hBi hB0
  have hz := hP.bel.size
  have lq : bq < wc.heap.size := World.block_lt_of_cell? wc _ hN.q0
  have hWz := hW.size
  have hsb := hN.gr.size
  have hold : ∀ k, k < Wb.heap.size → k < wr.heap.size + 1 ∧ ¬ WrD bq wr.heap.size (.slice va S.vars vc) (.slice fa S.fields fc) k := fun k hk => by
    refine ⟨by omega, fun h => ?_⟩
    rcases h with h | h | h | h
    · have := hN.lq; omega
    · omega
    · have := hN.lv _ h; omega
    · have := hN.lf _ h; omega
  have hbel : Below W.heap.size W wr := hW.trans (hP.bel.mono hW.size)
  have hw : ∀ k, wc.heap.size ≤ k → k < wr.heap.size → k < wr.heap.size + 1 ∧ ¬ WrD bq wr.heap.size (.slice va S.vars vc) (.slice fa S.fields fc) k := fun k h1 h2 => by
    refine ⟨by omega, fun h => ?_⟩
    rcases h with rfl | rfl | h | h
    · omega
    · omega
    · have := (hN.ov.lt k h).2; omega
    · have := (hN.of.lt k h).2; omega
  refine ⟨(RDI.mk (by rw [hP.bel.cell (p := ⟨bs, 3, none⟩) (Nat.lt_of_lt_of_le hbs hsb)]; exact b3) hP.o1.grid hP.o2.grid hbel ((hvq.grown hN.gr).grown (grownBy_below hP.bel)) : RDI S bs br cv ia ic ja jc us ws ll ss W wr).keep (grownBy_alloc _ _), fun k hk => ?_⟩
  rcases hk with rfl | hk | hk | hk | rfl
  · exact hold _ hbs
  · exact hw k (hP.o1.foot kInt k hk).1 (hP.o1.foot kInt k hk).2
  · exact hw k (hP.o2.foot kInt k hk).1 (hP.o2.foot kInt k hk).2
  · refine ⟨by omega, fun h => ?_⟩
    rcases h with rfl | rfl | h | h
    · have := hN.hq; omega
    · omega
    · have := (hN.ov.lt k h).1; omega
    · have := (hN.of.lt k h).1; omega
  · exact hold _ hbr
theorem results_cell1 {fn : Func} {p : Tmp} {ty : TypeId} (h : fn.results = #[.cell p ty]) (tmps : Array Value) (P : Program) (w : World) :
    (results fn tmps).run P w = ((asAddr (tmps.getD p undef)).run P w).andThen fun a w₁ => (loadVar ty a).run P w₁ := by
  simp only [results, h]
  simp [Sem.run_bind]
theorem nil_or_snoc {α : Type} (l : List α) : l = [] ∨ ∃ t b, l = t ++ [b] := by
  rcases List.eq_nil_or_concat l with h | ⟨t, b, h⟩
  · exact .inl h
  · exact .inr ⟨t, b, by rw [h, List.concat_eq_append]⟩
theorem calls_genD {P : Program} {f : FuncId} {args : Array Value} {w : World} {Q : Ending → World → Prop} (p : World → Prop) (hw : p w) (h : ∀ W, p W → Calls P f args W Q) : Calls P f args w Q := h w hw
/-- A row of a grid. -/
theorem grid_rd {Z : World} {ia : Option Addr} {n ic : Nat} {us : List Value} {ll : List (List Int)} (g : Grid (Value.int .i64) Z (.slice ia n ic) us ll) (hl : ll.length = n) {b : Nat} (hb : b < n) : ∃ ra rc, nth us b = .slice ra (nth ll b).length rc ∧
    (∀ x : Int, 0 ≤ x → x < n → ∀ Z', (Instr.indexAt 39 (.slice ia n ic) (.int .i64 x)).run Try.prog Z' = .ok (.pointer (some ⟨blk ia, ofs ia + x.toNat, none⟩)) Z') ∧
    (∀ x : Int, 0 ≤ x → x < (nth ll b).length → ∀ Z', (Instr.indexAt 27 (.slice ra (nth ll b).length rc) (.int .i64 x)).run Try.prog Z' = .ok (.pointer (some ⟨blk ra, ofs ra + x.toNat, none⟩)) Z') ∧ (nth ll b).length ≤ 9223372036854775807 ∧
    ∀ Z2, Grid (Value.int .i64) Z2 (.slice ia n ic) us ll → Z2.cell? ⟨blk ia, ofs ia + b, none⟩ = some (.slice ra (nth ll b).length rc) ∧ ∀ j, j < (nth ll b).length → Z2.cell? ⟨blk ra, ofs ra + j, none⟩ = some (.int .i64 (nth (nth ll b) j)) := by
  obtain ⟨va, vc, e, -, hi, -, -⟩ := g.1.out1 sInt2
  simp only [Value.slice.injEq] at e
  obtain ⟨rfl, he, rfl⟩ := e
  obtain ⟨ra, rc, e2, hm2, hi2, -, -⟩ := (g.2.2 b (by omega)).out1 sIntD
  rw [← he] at hi
  refine ⟨ra, rc, e2, fun x => hi .i64 x, fun x => hi2 .i64 x, hm2, fun Z2 g2 => ⟨?_, fun j hj => ?_⟩⟩
  · obtain ⟨va2, vc2, e3, -, -, hc3, -⟩ := g2.1.out1 sInt2
    simp only [Value.slice.injEq] at e3
    obtain ⟨rfl, -, rfl⟩ := e3
    rw [← e2]; exact hc3 b (by omega)
  · have h := g2.2.2 b (by omega)
    rw [e2] at h
    obtain ⟨va2, vc2, e3, -, -, hc3, -⟩ := h.out1 sIntD
    simp only [Value.slice.injEq] at e3
    obtain ⟨rfl, -, rfl⟩ := e3
    exact hc3 j hj
/-- The cells of a constraint. -/
theorem cons_cells {s : Sy} {W : World} {ca : Option Addr} {cc : Nat} (hc : ConsIn W (.slice ca s.cons.length cc) s.cons) (hv : Vld s) {k : Nat} (hlt : k < s.cons.length) : ∃ sa sc, ∀ Z, Below W.heap.size W Z →
    Z.cell? ⟨blk ca, ofs ca + k * 5, none⟩ = some (.int .i64 ((nth s.S.cons k).k : Int)) ∧ Z.cell? ⟨blk ca, ofs ca + k * 5 + 1, none⟩ = some (.int .i64 ((nth s.S.cons k).a : Int)) ∧ Z.cell? ⟨blk ca, ofs ca + k * 5 + 2, none⟩ = some (.int .i64 ((nth s.S.cons k).b : Int)) ∧
    Z.cell? ⟨blk ca, ofs ca + k * 5 + 3, none⟩ = some (.int .i64 ((nth s.S.cons k).f : Int)) ∧ Z.cell? ⟨blk ca, ofs ca + k * 5 + 4, none⟩ = some (.slice sa (nth s.S.cons k).s.length sc) ∧ Ints Z (.slice sa (nth s.S.cons k).s.length sc) ((nth s.S.cons k).s.map fun x : Nat => (x : Int)) := by
  obtain ⟨a, c, he, -, -, hcc⟩ := hc.out
  simp only [Value.slice.injEq] at he
  obtain ⟨rfl, -, rfl⟩ := he
  obtain ⟨sa, sn, sc, q0, q1, q2, q3, q4, hI, hblk⟩ := hcc k hlt
  have hvc := hv.cons _ (nth_mem _ _ hlt)
  have hcd : nth s.S.cons k = (nth s.cons k).C := nth_map' _ _ _ hlt
  have e0 : (nth s.cons k).k = ((nth s.S.cons k).k : Int) := by rw [hcd]; have := hvc.kind; show _ = ((nth s.cons k).k.toNat : Int); omega
  have e1 : (nth s.cons k).a = ((nth s.S.cons k).a : Int) := by rw [hcd]; have := hvc.a.1; show _ = ((nth s.cons k).a.toNat : Int); omega
  have e2 : (nth s.cons k).b = ((nth s.S.cons k).b : Int) := by rw [hcd]; have := hvc.b.1; show _ = ((nth s.cons k).b.toNat : Int); omega
  have e3 : (nth s.cons k).f = ((nth s.S.cons k).f : Int) := by rw [hcd]; have := hvc.f'; show _ = ((nth s.cons k).f.toNat : Int); omega
  have e4 : (nth s.cons k).s = (nth s.S.cons k).s.map fun x : Nat => (x : Int) := by rw [hcd]; exact (cast_toNat fun x hx => (hvc.s x hx).1).symm
  rw [e4] at hI
  obtain ⟨a8, c8, e8, -⟩ := id hI
  simp only [Value.slice.injEq, List.length_map] at e8
  obtain ⟨rfl, rfl, rfl⟩ := e8
  refine ⟨sa, sc, fun Z hb => ⟨?_, ?_, ?_, ?_, ?_, hI.below hb⟩⟩
  · rw [hb.cell (p := ⟨blk ca, ofs ca + k * 5, none⟩) hblk, q0, e0]
  · rw [hb.cell (p := ⟨blk ca, ofs ca + k * 5 + 1, none⟩) hblk, q1, e1]
  · rw [hb.cell (p := ⟨blk ca, ofs ca + k * 5 + 2, none⟩) hblk, q2, e2]
  · rw [hb.cell (p := ⟨blk ca, ofs ca + k * 5 + 3, none⟩) hblk, q3, e3]
  · rw [hb.cell (p := ⟨blk ca, ofs ca + k * 5 + 4, none⟩) hblk, q4]
theorem BoxC.same {W W' : World} {bw k a b f : Nat} {v : Value} (h : BoxC W bw k a b f v) (hb : W'.heap[bw]? = W.heap[bw]?) : BoxC W' bw k a b f v := by
  obtain ⟨h1, h2, h3, h4, h5⟩ := h
  have e : ∀ j, W'.cell? ⟨bw, j, none⟩ = W.cell? ⟨bw, j, none⟩ := fun j => World.cell?_of_block (a := ⟨bw, j, none⟩) hb
  exact ⟨by rw [e]; exact h1, by rw [e]; exact h2, by rw [e]; exact h3, by rw [e]; exact h4, by rw [e]; exact h5⟩
end Go.Proofs.Ytkfhopnolflchaa
