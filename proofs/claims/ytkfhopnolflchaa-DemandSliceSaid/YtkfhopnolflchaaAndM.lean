/- The solver in memory. -/
import Derived.Test.YtkfhopnolflchaaGb
import Derived.Test.YtkfhopnolflchaaGa
import Derived.Test.YtkfhopnolflchaaGc
import Derived.OneCell
namespace Go.Dfl
theorem wp_gen {P : Program} {c : Code} {Q : Exit → Act → World → Prop} {a : Act} {w : World} (p : World → Prop) (hw : p w) (h : ∀ W, p W → Code.wp P c Q a W) : Code.wp P c Q a w := h w hw
theorem Lst.grown {α : Type} [Inhabited α] {f : α → Value} {w w' : World} {v : Value} {l : List α} {row : Option Nat} (h : Lst f w v l) (hg : w.grownBy w' row) (hne : 0 < l.length → ∀ k, v.ownBlock = some k → row ≠ some k) : Lst f w' v l := by
  obtain ⟨a, cap, rfl, h1, h2, h3⟩ := h
  refine ⟨a, cap, rfl, h1, h2, fun i hi => ?_⟩
  obtain ⟨g1, g2, g3⟩ := h3 i hi
  have hr : row ≠ some (blk a) := hne (by omega) (blk a) (by rw [g1]; rfl)
  have hb := hg.block (blk a) g2 (Ne.symm hr)
  exact ⟨g1, Nat.lt_of_lt_of_le g2 hg.size, fun j hj => by rw [World.cell?_of_block (a := ⟨blk a, ofs a + i * 1 + j, none⟩) hb]; exact g3 j hj⟩
end Go.Dfl
namespace Go.Proofs.Ytkfhopnolflchaa
open Go.RowKit Go.Dfl Go.And

theorem sBits2 : SliceOf Try.prog 57 60 (.slice none 0 0) 1 24 := ⟨Try.underlying57, info_parts (P := Try.prog) (e := 60) (by kernel_rfl)⟩
theorem sInt2 : SliceOf Try.prog 39 27 (.slice none 0 0) 1 24 := ⟨Try.underlying39, info_parts (P := Try.prog) (e := 27) (by kernel_rfl)⟩
theorem sPart2 : SliceOf Try.prog 75 96 (.slice none 0 0) 1 24 := ⟨Try.underlying75, info_parts (P := Try.prog) (e := 96) (by kernel_rfl)⟩
theorem sPart : SliceOf Try.prog 96 98 (.agg #[.int .i64 0, .slice none 0 0]) 2 32 := ⟨Try.underlying96, info_parts (P := Try.prog) (e := 98) (by kernel_rfl)⟩
theorem sCon2 : SliceOf Try.prog 76 22 (.slice none 0 0) 1 24 := ⟨Try.underlying76, info_parts (P := Try.prog) (e := 22) (by kernel_rfl)⟩
theorem sCon : SliceOf Try.prog 22 37 (.agg #[.int .i64 0, .int .i64 0, .int .i64 0, .int .i64 0, .slice none 0 0]) 5 56 := ⟨Try.underlying22, info_parts (P := Try.prog) (e := 37) (by kernel_rfl)⟩
theorem sBool : SliceOf Try.prog 49 4 (.bool false) 1 1 := ⟨Try.underlying49, info_parts (P := Try.prog) (e := 4) (by kernel_rfl)⟩

/-- A constraint as it lies in memory. -/
structure RC where
  k : Int
  a : Int
  b : Int
  f : Int
  sa : Option Addr
  sn : Nat
  sc : Nat
instance : Inhabited RC := ⟨⟨0, 0, 0, 0, none, 0, 0⟩⟩
instance : Inhabited C := ⟨⟨0, 0, 0, 0, []⟩⟩
def RC.set (c : RC) : Value := .slice c.sa c.sn c.sc
def RC.vals (c : RC) : List Value := [.int .i64 c.k, .int .i64 c.a, .int .i64 c.b, .int .i64 c.f, .slice c.sa c.sn c.sc]
def elC : El RC := ⟨5, RC.vals, fun _ => rfl, fun x v hv => by simp [RC.vals] at hv; rcases hv with rfl | rfl | rfl | rfl | rfl <;> rfl, by omega⟩
/-- A part. -/
structure RP where
  to : Int
  sa : Option Addr
  sn : Nat
  sc : Nat
instance : Inhabited RP := ⟨⟨0, none, 0, 0⟩⟩
def RP.set (c : RP) : Value := .slice c.sa c.sn c.sc
def RP.vals (c : RP) : List Value := [.int .i64 c.to, .slice c.sa c.sn c.sc]
def elP : El RP := ⟨2, RP.vals, fun _ => rfl, fun x v hv => by simp [RP.vals] at hv; rcases hv with rfl | rfl <;> rfl, by omega⟩

abbrev IInt (w : World) (base : Nat) (v : Value) (l : List Int) : Prop := OwnI w base 3 v l
abbrev ICon (w : World) (base : Nat) (v : Value) (l : List RC) : Prop := OwnE elC w base 37 v l
abbrev IPart (w : World) (base : Nat) (v : Value) (l : List RP) : Prop := OwnE elP w base 98 v l
theorem kInt : Kind IInt := Kind.own _ _
theorem kCon : Kind ICon := Kind.ownE _ _
theorem kPart : Kind IPart := Kind.ownE _ _

/-- A set that nobody writes: its block plays no part. -/
def IsS (rl : Nat → Nat) (W : World) (v : Value) (p : Nat → Bool) : Prop :=
  ∃ r, Words W v r ∧ Wds r ∧ r.length ≤ 1024 ∧ (∀ x, hasN r x = p x) ∧ ∀ k, v.ownBlock = some k → 0 < r.length → rl k = 0

/-- A step: block 'row', which plays part X, may be written; new blocks may be made. -/
structure Stp (rl rl' : Nat → Nat) (X : Nat) (W W' : World) (row : Option Nat) : Prop where
  grown : W.grownBy W' row
  part : ∀ k, row = some k → rl k = X
  pos : X ≠ 0 ∨ row = none
  same : ∀ k, k < W.heap.size → rl' k = rl k

section
variable {rl rl' : Nat → Nat} {X : Nat} {W W' : World} {row : Option Nat}

theorem Stp.far (h : Stp rl rl' X W W' row) {v : Value} {Y : Nat} (hv : ∀ k, v.ownBlock = some k → rl k = Y) (hne : X ≠ Y) : v.ownBlock = none ∨ v.ownBlock ≠ row := by
  cases hk : v.ownBlock with
  | none => exact .inl rfl
  | some k => exact .inr fun e => hne (by rw [← h.part k e.symm, hv k hk])
theorem Words.lt {w : World} {v : Value} {r : List Nat} (h : Words w v r) (h0 : 0 < r.length) : ∀ k, v.ownBlock = some k → k < w.heap.size := by
  obtain ⟨a, cap, rfl, h1, h2, h3⟩ := h
  intro k hk
  obtain ⟨g1, g2, -⟩ := h3 0 h0
  rw [g1] at hk
  simp [Value.ownBlock] at hk
  omega
theorem IsS.step {v : Value} {p : Nat → Bool} (h : IsS rl W v p) (hs : Stp rl rl' X W W' row) : IsS rl' W' v p := by
  obtain ⟨r, h1, h2, h3, h4, h5⟩ := h
  refine ⟨r, h1.grown hs.grown fun h0 k hk e => ?_, h2, h3, h4, fun k hk h0 => ?_⟩
  · have := hs.part k e
    rw [h5 k hk h0] at this
    rcases hs.pos with q | q
    · exact q this.symm
    · rw [q] at e; cases e
  · rw [hs.same k (Words.lt h1 h0 k hk)]; exact h5 k hk h0
theorem IsS.ext {v : Value} {p q : Nat → Bool} (h : IsS rl W v p) (he : ∀ x, p x = q x) : IsS rl W v q := by
  have : p = q := funext he
  subst this; exact h
theorem IsS.nil (rl : Nat → Nat) (W : World) : IsS rl W (.slice none 0 0) (fun _ => false) :=
  ⟨[], Lst.nil _ _, fun i => by rw [nth_out _ _ (by simp)]; exact W64.zero, by simp, fun x => hasN_out _ _ (by simp), fun k hk => by simp [Value.ownBlock] at hk⟩

/-! ### The parts of the solver -/
structure SetsC (N : Nat) (rl : Nat → Nat) (B X : Nat) (W : World) (v : Value) (xs : List Value) (p : Nat → Nat → Bool) : Prop where
  own : Own (fun x : Value => x) W B 60 v xs
  role : ∀ k, v.ownBlock = some k → rl k = X
  len : xs.length = N
  mean : ∀ i, i < N → IsS rl W (nth xs i) (p i)
structure CpC (N : Nat) (rl : Nat → Nat) (B : Nat) (W : World) (v : Value) (vs : List Value) (ll : List (List Int)) (cp : Nat → List Nat) : Prop where
  own : OwnN IInt W B 27 v vs ll
  role : ∀ k, Foot v vs k → rl k = 4
  len : ll.length = N
  mean : ∀ i, i < N → nth ll i = (cp i).map fun x : Nat => (x : Int)
def PtRel (rl : Nat → Nat) (W : World) (l : List RP) (m : List (Nat × (Nat → Bool))) : Prop := l.length = m.length ∧ ∀ j, j < l.length → (nth l j).to = ((nth m j).1 : Int) ∧ IsS rl W (nth l j).set (nth m j).2
structure PtC (n : Nat) (rl : Nat → Nat) (B : Nat) (W : World) (v : Value) (vs : List Value) (ll : List (List RP)) (pt : Nat → List (Nat × (Nat → Bool))) : Prop where
  own : OwnN IPart W B 96 v vs ll
  role : ∀ k, Foot v vs k → rl k = 5
  len : ll.length = n
  mean : ∀ i, i < n → PtRel rl W (nth ll i) (pt i)
def LdRel (l : List RC) (m : List C) : Prop := l.length = m.length ∧ ∀ j, j < l.length → (nth l j).k = ((nth m j).k : Int) ∧ (nth l j).a = ((nth m j).a : Int) ∧ (nth l j).b = ((nth m j).b : Int) ∧ (nth l j).f = ((nth m j).f : Int)
structure LdC (n : Nat) (rl : Nat → Nat) (B X : Nat) (W : World) (v : Value) (vs : List Value) (ll : List (List RC)) (ld : Nat → List C) : Prop where
  own : OwnN ICon W B 22 v vs ll
  role : ∀ k, Foot v vs k → rl k = X
  len : ll.length = n
  mean : ∀ i, i < n → LdRel (nth ll i) (ld i)
structure QC (N : Nat) (rl : Nat → Nat) (B : Nat) (W : World) (v : Value) (ql : List Bool) (q : Nat → Bool) : Prop where
  own : Own Value.bool W B 4 v ql
  role : ∀ k, v.ownBlock = some k → rl k = 8
  len : ql.length = N
  mean : ∀ i, i < N → nth ql i = q i
structure TdC (rl : Nat → Nat) (B : Nat) (W : World) (v : Value) (todo : List Nat) : Prop where
  own : OwnI W B 3 v (todo.map fun x : Nat => (x : Int))
  role : ∀ k, v.ownBlock = some k → rl k = 9

theorem SetsC.step {N B Y : Nat} {v : Value} {xs : List Value} {p : Nat → Nat → Bool} (h : SetsC N rl B Y W v xs p) (hs : Stp rl rl' X W W' row) (hne : X ≠ Y) : SetsC N rl' B Y W' v xs p :=
  ⟨h.own.grown hs.grown (hs.far h.role hne), fun k hk => by rw [hs.same k (h.own.lt k hk).2]; exact h.role k hk, h.len, fun i hi => (h.mean i hi).step hs⟩
theorem nfoot {Y : Nat} {v : Value} {vs : List Value} (hr : ∀ k, Foot v vs k → rl k = Y) (hs : Stp rl rl' X W W' row) (hne : X ≠ Y) : ∀ k, row = some k → ¬ Foot v vs k :=
  fun k hk hf => hne (by rw [← hs.part k hk, hr k hf])
theorem CpC.step {N B : Nat} {v : Value} {vs : List Value} {ll : List (List Int)} {cp : Nat → List Nat} (h : CpC N rl B W v vs ll cp) (hs : Stp rl rl' X W W' row) (hne : X ≠ 4) : CpC N rl' B W' v vs ll cp :=
  ⟨h.own.grown kInt hs.grown (nfoot h.role hs hne), fun k hk => by rw [hs.same k (h.own.foot kInt k hk).2]; exact h.role k hk, h.len, h.mean⟩
theorem PtRel.step {l : List RP} {m : List (Nat × (Nat → Bool))} (h : PtRel rl W l m) (hs : Stp rl rl' X W W' row) : PtRel rl' W' l m := ⟨h.1, fun j hj => ⟨(h.2 j hj).1, (h.2 j hj).2.step hs⟩⟩
theorem PtC.step {n B : Nat} {v : Value} {vs : List Value} {ll : List (List RP)} {pt : Nat → List (Nat × (Nat → Bool))} (h : PtC n rl B W v vs ll pt) (hs : Stp rl rl' X W W' row) (hne : X ≠ 5) : PtC n rl' B W' v vs ll pt :=
  ⟨h.own.grown kPart hs.grown (nfoot h.role hs hne), fun k hk => by rw [hs.same k (h.own.foot kPart k hk).2]; exact h.role k hk, h.len, fun i hi => (h.mean i hi).step hs⟩
theorem LdC.step {n B Y : Nat} {v : Value} {vs : List Value} {ll : List (List RC)} {ld : Nat → List C} (h : LdC n rl B Y W v vs ll ld) (hs : Stp rl rl' X W W' row) (hne : X ≠ Y) : LdC n rl' B Y W' v vs ll ld :=
  ⟨h.own.grown kCon hs.grown (nfoot h.role hs hne), fun k hk => by rw [hs.same k (h.own.foot kCon k hk).2]; exact h.role k hk, h.len, h.mean⟩
theorem QC.step {N B : Nat} {v : Value} {ql : List Bool} {q : Nat → Bool} (h : QC N rl B W v ql q) (hs : Stp rl rl' X W W' row) (hne : X ≠ 8) : QC N rl' B W' v ql q :=
  ⟨h.own.grown hs.grown (hs.far h.role hne), fun k hk => by rw [hs.same k (h.own.lt k hk).2]; exact h.role k hk, h.len, h.mean⟩
theorem TdC.step {B : Nat} {v : Value} {td : List Nat} (h : TdC rl B W v td) (hs : Stp rl rl' X W W' row) (hne : X ≠ 9) : TdC rl' B W' v td :=
  ⟨h.own.grown hs.grown (hs.far h.role hne), fun k hk => by rw [hs.same k (h.own.lt k hk).2]; exact h.role k hk⟩

end

/-- The values that the solver's fields hold. -/
structure Vals where
  cons : Value
  sets : Value
  fresh : Value
  cp : Value
  pt : Value
  ld : Value
  sr : Value
  q : Value
  todo : Value
  xs : List Value
  ys : List Value
  cvs : List Value
  pvs : List Value
  lvs : List Value
  svs : List Value
  cll : List (List Int)
  pll : List (List RP)
  lll : List (List RC)
  sll : List (List RC)
  ql : List Bool
def Vals.cells (V : Vals) (S : Syst) : Array Value := #[.int .i64 S.vars, .int .i64 S.sites, .int .i64 S.fields, V.cons, V.sets, V.fresh, V.cp, V.pt, V.ld, V.sr, V.q, V.todo]

/-- The solver in memory, but for the part X. -/
structure MemX (X : Nat) (S : Syst) (w0 : World) (sv : Nat) (rl : Nat → Nat) (V : Vals) (st : St) (W : World) : Prop where
  box : X ≠ 1 → W.heap[sv]? = some (.cells (V.cells S) 78 (0, 0))
  rbox : rl sv = 1
  lbox : w0.heap.size ≤ sv ∧ sv < W.heap.size
  sets : X ≠ 2 → SetsC S.N rl w0.heap.size 2 W V.sets V.xs st.p
  fresh : X ≠ 3 → SetsC S.N rl w0.heap.size 3 W V.fresh V.ys st.f
  cp : X ≠ 4 → CpC S.N rl w0.heap.size W V.cp V.cvs V.cll st.cp
  pt : X ≠ 5 → PtC S.vars rl w0.heap.size W V.pt V.pvs V.pll st.pt
  ld : X ≠ 6 → LdC S.vars rl w0.heap.size 6 W V.ld V.lvs V.lll st.ld
  sr : X ≠ 7 → LdC S.vars rl w0.heap.size 7 W V.sr V.svs V.sll st.sr
  q : X ≠ 8 → QC S.N rl w0.heap.size W V.q V.ql st.q
  todo : X ≠ 9 → TdC rl w0.heap.size W V.todo st.todo
  fr : ∀ k, W.heap.size ≤ k → rl k = 0
  bel : Below w0.heap.size w0 W
  low : ∀ k, rl k ≠ 0 → w0.heap.size ≤ k
abbrev Mem := MemX 0

section
variable {S : Syst} {w0 : World} {sv : Nat} {rl rl' : Nat → Nat} {V : Vals} {st : St} {W W' : World} {row : Option Nat} {X : Nat}

theorem Mem.step (h : Mem S w0 sv rl V st W) (hs : Stp rl rl' X W W' row) (hX : X ≠ 0) (hfr : ∀ k, W'.heap.size ≤ k → rl' k = 0) (hlow : ∀ k, rl' k ≠ 0 → w0.heap.size ≤ k) : MemX X S w0 sv rl' V st W' := by
  have hb := h.lbox
  refine ⟨fun hx => ?_, ?_, ⟨hb.1, Nat.lt_of_lt_of_le hb.2 hs.grown.size⟩, fun hx => (h.sets (by omega)).step hs hx, fun hx => (h.fresh (by omega)).step hs hx, fun hx => (h.cp (by omega)).step hs hx, fun hx => (h.pt (by omega)).step hs hx, fun hx => (h.ld (by omega)).step hs hx,
    fun hx => (h.sr (by omega)).step hs hx, fun hx => (h.q (by omega)).step hs hx, fun hx => (h.todo (by omega)).step hs hx, hfr, ?_, hlow⟩
  · rw [hs.grown.block sv hb.2 fun e => hx (by rw [← hs.part sv e.symm, h.rbox])]; exact h.box (by omega)
  · rw [hs.same sv hb.2]; exact h.rbox
  · refine h.bel.grown hs.grown h.bel.size fun k hk => h.low k ?_
    rw [hs.part k hk]; exact hX
/-- New blocks, and nothing else. -/
theorem Mem.keep (h : Mem S w0 sv rl V st W) (hg : W.grownBy W' none) : Mem S w0 sv rl V st W' := by
  have hs : Stp rl rl 99 W W' none := ⟨hg, by simp, .inr rfl, fun _ _ => rfl⟩
  have h1 := h.step hs (by omega) (fun k hk => h.fr k (Nat.le_trans hg.size hk)) h.low
  exact ⟨fun _ => h1.box (by omega), h1.rbox, h1.lbox, fun _ => h1.sets (by omega), fun _ => h1.fresh (by omega), fun _ => h1.cp (by omega), fun _ => h1.pt (by omega), fun _ => h1.ld (by omega), fun _ => h1.sr (by omega), fun _ => h1.q (by omega), fun _ => h1.todo (by omega), h1.fr, h1.bel, h1.low⟩

end
end Go.Proofs.Ytkfhopnolflchaa
