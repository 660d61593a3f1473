/- Contract of partition.Classes. -/
import Derived.Test.YtmgeadhiohlblaaPartG
import Derived.Test.YtmgeadhiohlblaaRow
import Derived.Test.YtmgeadhiohlblaaMix
import Derived.Test.YtmgeadhiohlblaaPlainP
import Derived.OneCell
namespace Go.Dfl
theorem wp_gen {P : Program} {c : Code} {Q : Exit → Act → World → Prop} {a : Act} {w : World} (p : World → Prop) (hw : p w) (h : ∀ W, p W → Code.wp P c Q a W) : Code.wp P c Q a w := h w hw
end Go.Dfl
namespace Go.Proofs.Ytmgeadhiohlblaa
open Go.RowKit Go.Dfl

/-! ### The classes, plainly -/
def hdsTo (p : List Int) (k : Nat) : List Nat := (List.range k).filter fun i => decide (nth p i = (i : Int))
def memTo (p : List Int) (k : Nat) (h : Nat) : List Int := ((List.range k).filter fun j => decide (nth p j = (h : Int))).map fun x : Nat => (x : Int)
def clsTo (p : List Int) (k : Nat) : List (List Int) := (hdsTo p k).map (memTo p k)
def idxOf (p : List Int) (h : Nat) : Nat := (hdsTo p h).length

theorem hdsTo_yes {p : List Int} {k : Nat} (h : nth p k = k) : hdsTo p (k + 1) = hdsTo p k ++ [k] := by
  unfold hdsTo; rw [List.range_succ, List.filter_append]; simp [h]
theorem hdsTo_no {p : List Int} {k : Nat} (h : nth p k ≠ k) : hdsTo p (k + 1) = hdsTo p k := by
  unfold hdsTo; rw [List.range_succ, List.filter_append]; simp [h]
theorem memTo_yes {p : List Int} {k h : Nat} (e : nth p k = h) : memTo p (k + 1) h = memTo p k h ++ [(k : Int)] := by
  unfold memTo; rw [List.range_succ, List.filter_append]; simp [e]
theorem memTo_no {p : List Int} {k h : Nat} (e : nth p k ≠ h) : memTo p (k + 1) h = memTo p k h := by
  unfold memTo; rw [List.range_succ, List.filter_append]; simp [e]
theorem clsTo_len (p : List Int) (k : Nat) : (clsTo p k).length = (hdsTo p k).length := by simp [clsTo]
theorem mem_hdsTo {p : List Int} {k h : Nat} : h ∈ hdsTo p k ↔ h < k ∧ nth p h = h := by simp [hdsTo]
theorem mem_memTo {p : List Int} {k h : Nat} {x : Int} : x ∈ memTo p k h ↔ ∃ j : Nat, x = j ∧ j < k ∧ nth p j = h := by
  simp only [memTo, List.mem_map, List.mem_filter, List.mem_range, decide_eq_true_eq]
  constructor
  · rintro ⟨j, ⟨h1, h2⟩, rfl⟩; exact ⟨j, rfl, h1, h2⟩
  · rintro ⟨j, rfl, h1, h2⟩; exact ⟨j, ⟨h1, h2⟩, rfl⟩

theorem hdsTo_at {p : List Int} {h : Nat} (e : nth p h = h) : ∀ k, h < k → idxOf p h < (hdsTo p k).length ∧ nth (hdsTo p k) (idxOf p h) = h
  | 0, hk => by omega
  | k + 1, hk => by
    by_cases hh : h = k
    · subst hh
      rw [hdsTo_yes e]
      unfold idxOf
      refine ⟨by simp, ?_⟩
      rw [nth_append, if_neg (by omega), Nat.sub_self]; rfl
    · obtain ⟨h1, h2⟩ := hdsTo_at e k (by omega)
      by_cases e2 : nth p k = k
      · rw [hdsTo_yes e2]
        refine ⟨by simp; omega, ?_⟩
        rw [nth_append, if_pos h1]; exact h2
      · rw [hdsTo_no e2]; exact ⟨h1, h2⟩

theorem nth_map' {α γ : Type} [Inhabited α] [Inhabited γ] (f : α → γ) (l : List α) (i : Nat) (h : i < l.length) : nth (l.map f) i = f (nth l i) := by simp [nth, h]

theorem clsTo_push {p : List Int} {k : Nat} (h0 : ∀ j, j < k → nth p j ≤ j) (e : nth p k = k) : clsTo p (k + 1) = clsTo p k ++ [[(k : Int)]] := by
  unfold clsTo
  rw [hdsTo_yes e, List.map_append, List.map_singleton, memTo_yes e]
  have h1 : memTo p k k = [] := by
    unfold memTo
    rw [List.map_eq_nil_iff, List.filter_eq_nil_iff]
    intro j hj
    have := h0 j (List.mem_range.1 hj)
    have hj2 := List.mem_range.1 hj
    simp; omega
  rw [h1]
  congr 1
  apply List.map_congr_left
  intro h hh
  have := (mem_hdsTo.1 hh).1
  exact memTo_no (by omega)

theorem hdsTo_nodup (p : List Int) (k : Nat) : (hdsTo p k).Nodup := List.nodup_range.filter _
theorem nth_inj {l : List Nat} (hl : l.Nodup) {i j : Nat} (hi : i < l.length) (hj : j < l.length) (e : nth l i = nth l j) : i = j := by
  rw [nth_eq _ _ hi, nth_eq _ _ hj] at e
  exact (List.getElem_inj hl).1 e

theorem clsTo_add {p : List Int} {k h : Nat} (e : nth p k = h) (hk : h < k) (hh : nth p h = h) :
    clsTo p (k + 1) = (clsTo p k).set (idxOf p h) (nth (clsTo p k) (idxOf p h) ++ [(k : Int)]) := by
  have hne : nth p k ≠ k := by omega
  obtain ⟨h1, h2⟩ := hdsTo_at hh k hk
  apply nth_ext
  · simp [clsTo, hdsTo_no hne]
  intro i hi
  rw [clsTo_len, hdsTo_no hne] at hi
  rw [nth_set]
  unfold clsTo
  rw [hdsTo_no hne, nth_map' _ _ _ hi, nth_map' _ _ _ h1]
  by_cases e2 : idxOf p h = i
  · subst e2
    rw [if_pos ⟨rfl, by simpa using h1⟩, h2, memTo_yes e]
  · rw [if_neg (by omega), nth_map' _ _ _ hi]
    refine memTo_no fun e3 => e2 ?_
    refine nth_inj (hdsTo_nodup p k) h1 hi ?_
    rw [h2]; omega

/-! ### The walk -/
theorem sRows : SliceOf Try.prog 41 24 (.slice none 0 0) 1 24 := ⟨Try.underlying41, info_parts (P := Try.prog) (e := 24) (by kernel_rfl)⟩

abbrev II (w : World) (base : Nat) (v : Value) (l : List Int) : Prop := OwnI w base 3 v l
theorem kII : Kind II := Kind.own _ _

structure CI (w0 : World) (B bc ba : Nat) (vc va : Value) (vs : List Value) (ll : List (List Int)) (A : List Int) (W : World) : Prop where
  boxc : W.heap[bc]? = some (.cells #[vc] 41 (0, 0))
  boxa : W.heap[ba]? = some (.cells #[va] 24 (0, 0))
  rows : OwnN II W B 24 vc vs ll
  at_ : OwnI W w0.heap.size 3 va A
  below : Below w0.heap.size w0 W
  lc : w0.heap.size ≤ bc ∧ bc < B
  la : w0.heap.size ≤ ba ∧ ba < B
  ne : bc ≠ ba
  lv : ∀ k, va.ownBlock = some k → k < B ∧ k ≠ bc ∧ k ≠ ba
  hB : B ≤ W.heap.size

section
variable {w0 W W' : World} {B bc ba : Nat} {vc va : Value} {vs : List Value} {ll : List (List Int)} {A : List Int}

theorem CI.side (h : CI w0 B bc ba vc va vs ll A W) {row : Option Nat} (hg : W.grownBy W' row) (hr : ∀ k, row = some k → B ≤ k) :
    W'.heap[bc]? = some (.cells #[vc] 41 (0, 0)) ∧ W'.heap[ba]? = some (.cells #[va] 24 (0, 0)) ∧ OwnI W' w0.heap.size 3 va A ∧ Below w0.heap.size w0 W' ∧ B ≤ W'.heap.size := by
  have hB := h.hB
  have hlc := h.lc
  have hla := h.la
  refine ⟨(hg.block bc (by omega) fun e => ?_).trans h.boxc, (hg.block ba (by omega) fun e => ?_).trans h.boxa, h.at_.grown hg ?_, h.below.grown hg h.below.size fun k hk => ?_, Nat.le_trans hB hg.size⟩
  · have := hr _ e.symm; omega
  · have := hr _ e.symm; omega
  · cases hv : va.ownBlock with
    | none => exact .inl rfl
    | some k => exact .inr fun e => by have := hr k e.symm; have := (h.lv k hv).1; omega
  · have := hr k hk; omega

theorem CI.keep (h : CI w0 B bc ba vc va vs ll A W) (hg : W.grownBy W' none) : CI w0 B bc ba vc va vs ll A W' := by
  obtain ⟨h1, h2, h3, h4, h5⟩ := h.side hg (by simp)
  exact ⟨h1, h2, h.rows.grown kII hg (by simp), h3, h4, h.lc, h.la, h.ne, h.lv, h5⟩

theorem CI.setAt {sa : Option Addr} {na ca : Nat} (h : CI w0 B bc ba vc (.slice sa na ca) vs ll A W) {i : Nat} (hi : i < A.length) (x : Int) :
    CI w0 B bc ba vc (.slice sa na ca) vs ll (A.set i x) (W.setCell ⟨blk sa, ofs sa + i, none⟩ (.int .i64 x)) := by
  have hob : (Value.slice sa na ca).ownBlock = some (blk sa) := by
    obtain ⟨a2, c2, he, -, -, h3⟩ := h.at_.lst
    simp at he
    obtain ⟨rfl, -, -⟩ := he
    rw [(h3 i hi).1]; rfl
  obtain ⟨q1, q2, q3⟩ := h.lv _ hob
  have hge := (h.at_.lt _ hob).1
  have hg := grownBy_setCell W ⟨blk sa, ofs sa + i, none⟩ (.int .i64 x)
  have hB := h.hB
  have hlc := h.lc
  have hla := h.la
  refine ⟨(hg.block bc (by omega) fun e => ?_).trans h.boxc, (hg.block ba (by omega) fun e => ?_).trans h.boxa, h.rows.grown kII hg fun k hk hf => ?_, h.at_.set i x, h.below.setCell hge _, h.lc, h.la, h.ne, h.lv, Nat.le_trans hB hg.size⟩
  · simp at e; omega
  · simp at e; omega
  · simp at hk; have := (h.rows.foot kII k hf).1; omega

theorem CI.setBox (h : CI w0 B bc ba vc va vs ll A W) {v' : Value} {vs' : List Value} {ll' : List (List Int)} {row : Option Nat} (hg : W.grownBy W' row) (hr : ∀ k, row = some k → B ≤ k) (hN : OwnN II W' B 24 v' vs' ll') :
    CI w0 B bc ba v' va vs' ll' A (W'.setCell ⟨bc, 0, none⟩ v') := by
  obtain ⟨h1, h2, h3, h4, h5⟩ := h.side hg hr
  have hlc := h.lc
  have hla := h.la
  have hne := h.ne
  have hs := grownBy_setCell W' ⟨bc, 0, none⟩ v'
  refine ⟨one_setCell h1, (hs.block ba (by omega) fun e => ?_).trans h2, hN.grown kII hs fun k hk hf => ?_, h3.grown hs ?_, h4.setCell hlc.1 _, h.lc, h.la, h.ne, h.lv, Nat.le_trans h5 hs.size⟩
  · simp at e; omega
  · simp at hk; have := (hN.foot kII k hf).1; omega
  · cases hv : va.ownBlock with
    | none => exact .inl rfl
    | some k => exact .inr fun e => by have := (h.lv k hv).2.1; simp at e; omega

theorem CI.put {a : Option Addr} {n cap : Nat} (h : CI w0 B bc ba (.slice a n cap) va vs ll A W) {i : Nat} (hi : i < ll.length) {u : Value} {l : List Int} (hg : W.grownBy W' (nth vs i).ownBlock) (hu : II W' B u l)
    (hl : ∀ k, u.ownBlock = some k → (nth vs i).ownBlock = some k ∨ W.heap.size ≤ k) : CI w0 B bc ba (.slice a n cap) va (vs.set i u) (ll.set i l) A (W'.setCell ⟨blk a, ofs a + i, none⟩ u) := by
  have hN := h.rows.put kII hi hg hu hl
  have hr : ∀ k, (nth vs i).ownBlock = some k → B ≤ k := fun k hk => (h.rows.foot kII k (.inr ⟨i, by rw [h.rows.len]; exact hi, hk⟩)).1
  obtain ⟨h1, h2, h3, h4, h5⟩ := h.side hg hr
  have hob : (Value.slice a n cap).ownBlock = some (blk a) := by
    obtain ⟨a2, c2, he, -, -, h3⟩ := h.rows.out.lst
    simp at he
    obtain ⟨rfl, -, -⟩ := he
    rw [(h3 i (by rw [h.rows.len]; exact hi)).1]; rfl
  have hge := (h.rows.out.lt _ hob).1
  have hs := grownBy_setCell W' ⟨blk a, ofs a + i, none⟩ u
  have hlc := h.lc
  have hla := h.la
  refine ⟨(hs.block bc (by omega) fun e => ?_).trans h1, (hs.block ba (by omega) fun e => ?_).trans h2, hN, h3.grown hs ?_, h4.setCell (by show _ ≤ blk a; omega) _, h.lc, h.la, h.ne, h.lv, Nat.le_trans h5 hs.size⟩
  · simp at e; omega
  · simp at e; omega
  · cases hv : va.ownBlock with
    | none => exact .inl rfl
    | some k => exact .inr fun e => by have := (h.lv k hv).1; simp at e; omega
end

theorem cells4_keep {W1 W2 : World} {row : Option Nat} {a b c d : Addr} {x y z u : Value} (h : W1.cell? a = some x ∧ W1.cell? b = some y ∧ W1.cell? c = some z ∧ W1.cell? d = some u) (hg : W1.grownBy W2 row) (ha : some a.block ≠ row) (hb : some b.block ≠ row) (hc : some c.block ≠ row) (hd : some d.block ≠ row) :
    W2.cell? a = some x ∧ W2.cell? b = some y ∧ W2.cell? c = some z ∧ W2.cell? d = some u := ⟨hg.cell h.1 ha, hg.cell h.2.1 hb, hg.cell h.2.2.1 hc, hg.cell h.2.2.2 hd⟩

/-- What collect does. -/
def CollectPost (w0 : World) (B bc ba : Nat) (va : Value) (ll : List (List Int)) (A : List Int) (e : Ending) (w' : World) : Prop :=
  ∃ v vc vs, e = .returned v ∧ CI w0 B bc ba vc va vs ll A w'

set_option maxHeartbeats 3200000 in
set_option maxRecDepth 100000 in
theorem collect_add (w0 : World) (B bc ba : Nat) (vc va : Value) (vs : List Value) (ll : List (List Int)) (A : List Int) (w : World) (h : CI w0 B bc ba vc va vs ll A w) (i least j : Nat) (hne : i ≠ least) (hl : least < A.length) (hA : nth A least = j) (hj : j < ll.length)
    (hA9 : A.length ≤ 8192) (hi9 : i ≤ 8192) (hll : ll.length ≤ 8192) (hin : (nth ll j).length ≤ 8192) :
    Calls Try.prog 28 #[.int .i64 i, .int .i64 least, .pointer (some ⟨bc, 0, none⟩), .pointer (some ⟨ba, 0, none⟩)] w (CollectPost w0 B bc ba va (ll.set j (nth ll j ++ [(i : Int)])) A) := by
  have hne' : ((i : Int) == (least : Int)) = false := by rw [beq_eq_false_iff_ne]; omega
  go_enter Try.func28, Try.ntmps28
  go_wp2_with fail
  obtain ⟨sa, ca, hva⟩ := h.at_.shape rfl
  obtain ⟨sc, cc, hvc⟩ := h.rows.out.shape h.rows.len
  subst hva
  subst hvc
  have bxc := cell_of_one h.boxc
  have bxa := cell_of_one h.boxa
  obtain ⟨a3, c3, he, hm3, hidx3, hcell3, -⟩ := h.at_.lst.out1 sInt
  simp at he
  obtain ⟨rfl, rfl⟩ := he
  obtain ⟨a4, c4, he, hm4, hidx4, hcell4, -⟩ := h.rows.out.lst.out1 sRows
  simp at he
  obtain ⟨rfl, hvl, rfl⟩ := he
  have hjv : j < vs.length := by rw [← hvl]; exact hj
  have cat := hcell3 least hl
  rw [hA] at cat
  have ccl := hcell4 j hjv
  have hfz := h.rows.out.frozen (by omega) (ofs sc + j)
  have hob : (Value.slice sc ll.length cc).ownBlock = some (blk sc) := by
    obtain ⟨a2, c2, he, -, -, h3⟩ := h.rows.out.lst
    simp at he
    obtain ⟨rfl, -, -⟩ := he
    rw [(h3 j hjv).1]; rfl
  have hoa : (Value.slice sa A.length ca).ownBlock = some (blk sa) := by
    obtain ⟨a2, c2, he, -, -, h3⟩ := h.at_.lst
    simp at he
    obtain ⟨rfl, -⟩ := he
    rw [(h3 least hl).1]; rfl
  rw [← hvl] at hidx4
  have i3 := hidx3 .i64 (least : Int) (by omega) (by omega)
  have i4 := hidx4 .i64 (j : Int) (by omega) (by omega)
  simp only [Int.toNat_natCast] at i3 i4
  have hrb : ∀ k, (nth vs j).ownBlock = some k → B ≤ k := fun k hk => (h.rows.foot kII k (.inr ⟨j, hjv, hk⟩)).1
  have hsb : B ≤ blk sc := (h.rows.out.lt _ hob).1
  have hap := h.rows.apart j hj
  have hlc := h.lc
  have hla := h.la
  have hsaB := (h.lv _ hoa).1
  have HH := Lib.hid (And.intro h (And.intro hrb (And.intro hap hob)))
  have HF := Lib.hid hin
  have hB9 := h.hB
  have HV := Lib.hid hvl
  clear h hvl hcell3 hcell4 hob hoa hrb hidx3 hidx4 hm3 hm4 hap hin
  refine wp_region_mix [0, 1, 2, 3, 4, 5, 6, 7, 8, 9, 10, 11, 12] [13, 14, 15, 16] (fun w' => w'.cell? ⟨bc, 0, none⟩ = some (.slice sc ll.length cc) ∧ w'.cell? ⟨ba, 0, none⟩ = some (.slice sa A.length ca) ∧ w'.cell? ⟨blk sa, ofs sa + least, none⟩ = some (.int .i64 (j : Int)) ∧ w'.cell? ⟨blk sc, ofs sc + j, none⟩ = some (nth vs j)) (by kernel_rfl) (by kernel_rfl) (by kernel_rfl) ⟨bxc, bxa, cat, ccl⟩ ?_
  repeat (
    refine wpHeads_cons (v := ?_) rfl (Or.inl ⟨by rfl, ?_⟩) ?_
    rotate_left
    · (intro W hW; go_simp; try with_reducible rfl)
    simp only [Act.put, List.setIfInBounds_toArray, List.set_cons_zero, List.set_cons_succ])
  refine wpHeads_nil ?_
  refine wpTails_cons rfl ?_
  go_wp2_with fail
  refine tail_mk (cells4_keep ⟨bxc, bxa, cat, ccl⟩ (grownBy_trans (grownBy_drew0 _) (grownBy_alloc _ _)) (by simp) (by simp) (by simp) (by simp)) ?_
  refine wpTails_cons rfl ?_
  refine wp_appendS (f := Value.int .i64) sInt rfl rfl _ _ rfl B (nth vs j) (nth ll j) rfl (.slice (some ⟨w.heap.size, 0, none⟩) 1 1) [(i : Int)] rfl (((HH.out.1.keep (grownBy_drew0 _)).keep (grownBy_alloc _ _)).rows.inn j hj) (src_one _ (cell_at1 (by simp))) (fun _ _ => rfl) (by have := HF.out; simp; omega) (by omega) (by simp; omega) ?_
  intro v31 w31 o31 g31 l31
  obtain ⟨s31, c31, rfl⟩ := o31.shape (n := (nth ll j).length + 1) (by simp)
  have hS31 := cells4_keep ⟨bxc, bxa, cat, ccl⟩ (grownBy_trans (grownBy_widen (grownBy_trans (grownBy_drew0 _) (grownBy_alloc _ _))) g31) (fun e => by have h9 : B ≤ bc := HH.out.2.1 _ e.symm; omega) (fun e => by have h9 : B ≤ ba := HH.out.2.1 _ e.symm; omega) (fun e => by have h9 : B ≤ blk sa := HH.out.2.1 _ e.symm; omega) (fun e => HH.out.2.2.1 _ e.symm HH.out.2.2.2)
  refine tail_mk hS31 ?_
  refine wpTails_cons rfl ?_
  go_wp2_with fail
  refine tail_mk hS31 ?_
  refine wpTails_one rfl ?_
  have hC := (HH.out.1.keep (grownBy_drew0 _)).keep (grownBy_alloc _ (.cells #[.int .i64 (i : Int)] 3))
  have hc31 := hS31.2.2.2
  have hf31 := (hC.rows.outAt hj g31).frozen (by omega) (ofs sc + j)
  have HQ := Lib.hid (hC.put hj g31 o31 (fun k hk => by
    rcases l31 with e | e
    · left; rw [← e, hk]
    · right; rw [e] at hk; simp at hk; simp; omega))
  clear hS31 o31 g31 l31 hC
  go_wp2_with fail
  refine thenQ_mk ?_
  go_end0
  exact ⟨_, _, _, rfl, HQ.out⟩

set_option maxHeartbeats 3200000 in
set_option maxRecDepth 100000 in
theorem collect_push (w0 : World) (B bc ba : Nat) (vc va : Value) (vs : List Value) (ll : List (List Int)) (A : List Int) (w : World) (h : CI w0 B bc ba vc va vs ll A w) (i : Nat) (hl : i < A.length)
    (hA9 : A.length ≤ 8192) (hll : ll.length ≤ 8191) :
    Calls Try.prog 28 #[.int .i64 i, .int .i64 i, .pointer (some ⟨bc, 0, none⟩), .pointer (some ⟨ba, 0, none⟩)] w (CollectPost w0 B bc ba va (ll ++ [[(i : Int)]]) (A.set i (ll.length : Int))) := by
  obtain ⟨sa, ca, hva⟩ := h.at_.shape rfl
  obtain ⟨sc, cc, hvc⟩ := h.rows.out.shape h.rows.len
  subst hva
  subst hvc
  have bxc := cell_of_one h.boxc
  have bxa := cell_of_one h.boxa
  obtain ⟨a3, c3, he, hm3, hidx3, hcell3, -⟩ := h.at_.lst.out1 sInt
  simp at he
  obtain ⟨rfl, rfl⟩ := he
  have ca0 := hcell3 i hl
  have fa0 := h.at_.frozen (by omega) (ofs sa + i)
  have i3 := hidx3 .i64 (i : Int) (by omega) (by omega)
  simp only [Int.toNat_natCast] at i3
  have hC := h.setAt hl (ll.length : Int)
  have hoa : (Value.slice sa A.length ca).ownBlock = some (blk sa) := by
    obtain ⟨a2, c2, he, -, -, h3⟩ := h.at_.lst
    simp at he
    obtain ⟨rfl, -⟩ := he
    rw [(h3 i hl).1]; rfl
  have hn1 : bc ≠ blk sa := Ne.symm (h.lv _ hoa).2.1
  have hn2 : blk sa ≠ bc := (h.lv _ hoa).2.1
  have fxc := free_of_one h.boxc
  have HC := Lib.hid hC
  have hB9 := h.hB
  clear h hcell3 hidx3 hm3 hC hoa
  go_enter Try.func28, Try.ntmps28
  go_wp2_with (at_builtin; refine wp_appendS (f := fun x : Value => x) sRows rfl rfl _ _ rfl B (.slice sc ll.length cc) vs rfl (.slice (some ⟨w.heap.size, 0, none⟩) 1 1) [.slice none 0 0] rfl ((HC.out.rows.alloc kII _).out) (src_one _ (cell_at1 (by simp))) (by simp [Value.oneCell']) (by rw [HC.out.rows.len]; simp; omega) (by omega) (by simp; omega) ?_; intro v16 w16 o16 g16 l16; obtain ⟨s16, c16, rfl⟩ := o16.shape (n := ll.length + 1) (by simp [HC.out.rows.len]); have hCa := HC.out.keep (grownBy_alloc _ (.cells #[.slice none 0 0] 24)); have hr16 : ∀ k, (Value.slice sc ll.length cc).ownBlock = some k → B ≤ k := fun k hk => (hCa.rows.out.lt k hk).1; have bx16 := cell_of_one (hCa.side g16 hr16).1; have fx16 := free_of_one (hCa.side g16 hr16).1; have HP := Lib.hid (hCa.setBox g16 hr16 (hCa.rows.push kII o16 g16 l16 (l := []) (Own.nil _ _ _ _) (fun k hk => by simp [Value.ownBlock] at hk))); clear hCa hr16 g16 o16 l16)
  refine wp_gen (fun W => CI w0 B bc ba (.slice s16 (ll.length + 1) c16) (.slice sa A.length ca) (vs ++ [.slice none 0 0]) (ll ++ [[]]) (A.set i (ll.length : Int)) W) HP.out ?_
  intro W hW
  have hp1 : (ll ++ [[]]).length = ll.length + 1 := by simp
  have hp2 : nth (ll ++ [[]]) ll.length = [] := by rw [nth_append, if_neg (by omega), Nat.sub_self]; rfl
  have hp3 : (ll ++ [[]]).set ll.length ([] ++ [(i : Int)]) = ll ++ [[(i : Int)]] := by simp
  have hp4 : nth (A.set i (ll.length : Int)) i = (ll.length : Int) := by rw [nth_set, if_pos ⟨rfl, hl⟩]
  have hp5 : (A.set i (ll.length : Int)).length = A.length := by simp
  generalize hl2 : ll ++ [[]] = l2 at *
  generalize hv2 : vs ++ [Value.slice none 0 0] = v2 at *
  generalize hA2 : A.set i (ll.length : Int) = A2 at *
  generalize hj2 : ll.length = j at *
  have HP2 := Lib.hid (And.intro hp2 hp3)
  have hl' : i < A2.length := by omega
  have hj : j < l2.length := by omega
  have hin : (nth l2 j).length ≤ 8192 := by rw [hp2]; simp
  have hll2 : l2.length ≤ 8192 := by omega
  have hA92 : A2.length ≤ 8192 := by omega
  have hA : nth A2 i = (j : Int) := hp4
  have h := hW
  have hi9 : i ≤ 8192 := by omega
  have hsA : (Value.slice sa A.length ca) = .slice sa A2.length ca := by rw [hp5]
  rw [hsA] at h ⊢
  have hsC : (Value.slice s16 (j + 1) c16) = .slice s16 l2.length c16 := by rw [hp1]
  rw [hsC] at h
  clear hsC hW hp1 hp2 hp3 hp4 hp5 hl2 hv2 hA2 hj2 HC HP bxc bxa ca0 fa0 i3 hn1 hn2 fxc bx16 fx16 hB9 hl hA9 hsA
  have hl := hl'
  clear hl'
  have bxc := cell_of_one h.boxc
  have bxa := cell_of_one h.boxa
  obtain ⟨a3, c3, he, hm3, hidx3, hcell3, -⟩ := h.at_.lst.out1 sInt
  simp at he
  obtain ⟨rfl, rfl⟩ := he
  obtain ⟨a4, c4, he, hm4, hidx4, hcell4, -⟩ := h.rows.out.lst.out1 sRows
  simp at he
  obtain ⟨rfl, hvl, rfl⟩ := he
  have hjv : j < v2.length := by rw [← hvl]; exact hj
  have cat := hcell3 i hl
  rw [hA] at cat
  have ccl := hcell4 j hjv
  have hfz := h.rows.out.frozen (by omega) (ofs s16 + j)
  have hob : (Value.slice s16 l2.length c16).ownBlock = some (blk s16) := by
    obtain ⟨a2, c2, he, -, -, h3⟩ := h.rows.out.lst
    simp at he
    obtain ⟨rfl, -, -⟩ := he
    rw [(h3 j hjv).1]; rfl
  have hoa : (Value.slice sa A2.length ca).ownBlock = some (blk sa) := by
    obtain ⟨a2, c2, he, -, -, h3⟩ := h.at_.lst
    simp at he
    obtain ⟨rfl, -⟩ := he
    rw [(h3 i hl).1]; rfl
  rw [← hvl] at hidx4
  have i3 := hidx3 .i64 (i : Int) (by omega) (by omega)
  have i4 := hidx4 .i64 (j : Int) (by omega) (by omega)
  simp only [Int.toNat_natCast] at i3 i4
  have hrb : ∀ k, (nth v2 j).ownBlock = some k → B ≤ k := fun k hk => (h.rows.foot kII k (.inr ⟨j, hjv, hk⟩)).1
  have hsb : B ≤ blk s16 := (h.rows.out.lt _ hob).1
  have hap := h.rows.apart j hj
  have hlc := h.lc
  have hla := h.la
  have hsaB := (h.lv _ hoa).1
  have HH := Lib.hid (And.intro h (And.intro hrb (And.intro hap hob)))
  have HF := Lib.hid hin
  have hB9 := h.hB
  have HV := Lib.hid hvl
  clear h hvl hcell3 hcell4 hob hoa hrb hidx3 hidx4 hm3 hm4 hap hin
  refine wp_region_mix [0, 1, 2, 3, 4, 5, 6, 7, 8, 9, 10, 11, 12] [13, 14, 15, 16] (fun w' => w'.cell? ⟨bc, 0, none⟩ = some (.slice s16 l2.length c16) ∧ w'.cell? ⟨ba, 0, none⟩ = some (.slice sa A2.length ca) ∧ w'.cell? ⟨blk sa, ofs sa + i, none⟩ = some (.int .i64 (j : Int)) ∧ w'.cell? ⟨blk s16, ofs s16 + j, none⟩ = some (nth v2 j)) (by kernel_rfl) (by kernel_rfl) (by kernel_rfl) ⟨bxc, bxa, cat, ccl⟩ ?_
  repeat (
    refine wpHeads_cons (v := ?_) rfl (Or.inl ⟨by rfl, ?_⟩) ?_
    rotate_left
    · (intro W hW; go_simp; try with_reducible rfl)
    simp only [Act.put, List.setIfInBounds_toArray, List.set_cons_zero, List.set_cons_succ])
  refine wpHeads_nil ?_
  refine wpTails_cons rfl ?_
  go_wp2_with fail
  refine tail_mk (cells4_keep ⟨bxc, bxa, cat, ccl⟩ (grownBy_trans (grownBy_drew0 _) (grownBy_alloc _ _)) (by simp) (by simp) (by simp) (by simp)) ?_
  refine wpTails_cons rfl ?_
  refine wp_appendS (f := Value.int .i64) sInt rfl rfl _ _ rfl B (nth v2 j) (nth l2 j) rfl (.slice (some ⟨W.heap.size, 0, none⟩) 1 1) [(i : Int)] rfl (((HH.out.1.keep (grownBy_drew0 _)).keep (grownBy_alloc _ _)).rows.inn j hj) (src_one _ (cell_at1 (by simp))) (fun _ _ => rfl) (by have := HF.out; simp; omega) (by omega) (by simp; omega) ?_
  intro v31 w31 o31 g31 l31
  obtain ⟨s31, c31, rfl⟩ := o31.shape (n := (nth l2 j).length + 1) (by simp)
  have hS31 := cells4_keep ⟨bxc, bxa, cat, ccl⟩ (grownBy_trans (grownBy_widen (grownBy_trans (grownBy_drew0 _) (grownBy_alloc _ _))) g31) (fun e => by have h9 : B ≤ bc := HH.out.2.1 _ e.symm; omega) (fun e => by have h9 : B ≤ ba := HH.out.2.1 _ e.symm; omega) (fun e => by have h9 : B ≤ blk sa := HH.out.2.1 _ e.symm; omega) (fun e => HH.out.2.2.1 _ e.symm HH.out.2.2.2)
  refine tail_mk hS31 ?_
  refine wpTails_cons rfl ?_
  go_wp2_with fail
  refine tail_mk hS31 ?_
  refine wpTails_one rfl ?_
  have hC := (HH.out.1.keep (grownBy_drew0 _)).keep (grownBy_alloc _ (.cells #[.int .i64 (i : Int)] 3))
  have hc31 := hS31.2.2.2
  have hf31 := (hC.rows.outAt hj g31).frozen (by omega) (ofs s16 + j)
  have HQ := Lib.hid (hC.put hj g31 o31 (fun k hk => by
    rcases l31 with e | e
    · left; rw [← e, hk]
    · right; rw [e] at hk; simp at hk; simp; omega))
  clear hS31 o31 g31 l31 hC
  go_wp2_with fail
  refine thenQ_mk ?_
  go_end0
  have h3 := HQ.out; have e3 := (congrArg (fun z => l2.set j (z ++ [(i : Int)])) HP2.out.1).trans HP2.out.2; rw [e3] at h3; exact ⟨_, _, _, rfl, h3⟩
end Go.Proofs.Ytmgeadhiohlblaa
