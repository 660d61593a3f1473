/- The reference's table in memory; contracts of its cell, put, flow. -/
import Derived.Test.YtkfhopnolflchaaRfd
import Derived.Test.YtkfhopnolflchaaGc
namespace Go.Proofs.Ytkfhopnolflchaa
open Go.RowKit Go.Dfl Go.And

theorem sBool2 : SliceOf Try.prog 69 49 (.slice none 0 0) 1 24 := ⟨Try.underlying69, info_parts (P := Try.prog) (e := 49) (by kernel_rfl)⟩
abbrev IBool (w : World) (base : Nat) (v : Value) (l : List Bool) : Prop := Own Value.bool w base 4 v l
theorem kBool : Kind IBool := Kind.own _ _

/-- A row within a row of rows, one of whose cells is written. -/
theorem OwnN.setIn {w : World} {base : Nat} {eo : TypeId} {v : Value} {vs : List Value} {ll : List (List Bool)} (h : OwnN IBool w base eo v vs ll) {i x : Nat} (hi : i < ll.length) {a : Option Addr} {n c : Nat} (hv : nth vs i = .slice a n c) (hx : x < (nth ll i).length) (y : Bool) :
    OwnN IBool (w.setCell ⟨blk a, ofs a + x, none⟩ (.bool y)) base eo v vs (ll.set i ((nth ll i).set x y)) := by
  have hI := h.inn i hi
  rw [hv] at hI
  have hob : (nth vs i).ownBlock = some (blk a) := by
    rw [hv]
    obtain ⟨a2, c2, he, -, -, h3⟩ := hI.lst
    simp at he
    obtain ⟨rfl, -, -⟩ := he
    rw [(h3 x hx).1]; rfl
  have hg := grownBy_setCell w ⟨blk a, ofs a + x, none⟩ (.bool y)
  refine ⟨h.out.grown hg ?_, by simp [h.len], fun j hj => ?_, fun j m hj hm => ?_, fun j hj => ?_⟩
  · cases e : v.ownBlock with
    | none => exact .inl rfl
    | some k => exact .inr fun e2 => h.apart i hi (blk a) hob (by rw [e, e2])
  · simp at hj
    rw [nth_set]
    by_cases e : i = j
    · subst e
      rw [if_pos ⟨rfl, hi⟩, hv]
      exact hI.set x y
    · rw [if_neg (by omega)]
      refine kBool.grown (h.inn j hj) hg ?_
      cases e3 : (nth vs j).ownBlock with
      | none => exact .inl rfl
      | some k => exact .inr fun e2 => h.sep i j hi hj e (blk a) hob (by rw [e3, e2])
  · simp at hj hm; exact h.sep j m hj hm
  · simp at hj; exact h.apart j hj

/-- All but the table's own blocks is kept. -/
structure Kpt (tb : Nat) (hv : Value) (vs : List Value) (W W' : World) : Prop where
  os : W'.os = W.os
  tape : W'.tape = W.tape
  output : W'.output = W.output
  size : W.heap.size ≤ W'.heap.size
  block : ∀ k, k < W.heap.size → k ≠ tb → ¬ Foot hv vs k → W'.heap[k]? = W.heap[k]?
theorem Kpt.grown {tb : Nat} {hv : Value} {vs : List Value} {W W' : World} {row : Option Nat} (h : W.grownBy W' row) (hr : ∀ k, row = some k → k = tb ∨ Foot hv vs k) : Kpt tb hv vs W W' :=
  ⟨h.os, h.tape, h.output, h.size, fun k hk h1 h2 => h.block k hk fun e => by rcases hr k e.symm with h3 | h3 <;> contradiction⟩
theorem Kpt.trans {tb : Nat} {hv : Value} {vs : List Value} {a b c : World} (h : Kpt tb hv vs a b) (k : Kpt tb hv vs b c) : Kpt tb hv vs a c :=
  ⟨k.os.trans h.os, k.tape.trans h.tape, k.output.trans h.output, Nat.le_trans h.size k.size, fun i hi h1 h2 => (k.block i (Nat.lt_of_lt_of_le hi h.size) h1 h2).trans (h.block i hi h1 h2)⟩
theorem Kpt.refl {tb : Nat} {hv : Value} {vs : List Value} (W : World) : Kpt tb hv vs W W := Kpt.grown (grownBy_refl W none) (by simp)
theorem Kpt.cell {tb : Nat} {hv : Value} {vs : List Value} {W W' : World} (h : Kpt tb hv vs W W') {p : Addr} {x : Value} (hc : W.cell? p = some x) (h1 : p.block ≠ tb) (h2 : ¬ Foot hv vs p.block) : W'.cell? p = some x := by
  rw [World.cell?_of_block (h.block p.block (World.block_lt_of_cell? W p hc) h1 h2)]; exact hc

/-- The table. -/
structure TbM (S : Syst) (cv : Value) (tb : Nat) (ha : Option Addr) (hc : Nat) (vs : List Value) (M : List (List Bool)) (b : Bool) (W : World) : Prop where
  s0 : W.cell? ⟨tb, 0, none⟩ = some (.int .i64 (S.vars : Int))
  s1 : W.cell? ⟨tb, 1, none⟩ = some (.int .i64 (S.sites : Int))
  s2 : W.cell? ⟨tb, 2, none⟩ = some (.int .i64 (S.fields : Int))
  s3 : W.cell? ⟨tb, 3, none⟩ = some cv
  has : W.cell? ⟨tb, 4, none⟩ = some (.slice ha S.N hc)
  more : W.cell? ⟨tb, 5, none⟩ = some (.bool b)
  frz : ∀ j, W.frozen? ⟨tb, j, none⟩ = false
  own : OwnN IBool W (tb + 1) 49 (.slice ha S.N hc) vs M
  shp : Shp S.N S.sites M

section
variable {S : Syst} {cv : Value} {tb : Nat} {ha : Option Addr} {hc : Nat} {vs : List Value} {M : List (List Bool)} {b : Bool} {W W' : World}
theorem TbM.foot (h : TbM S cv tb ha hc vs M b W) (k : Nat) (hk : Foot (.slice ha S.N hc) vs k) : tb < k ∧ k < W.heap.size := h.own.foot kBool k hk
theorem TbM.grown (h : TbM S cv tb ha hc vs M b W) {row : Option Nat} (hg : W.grownBy W' row) (hr : ∀ k, row = some k → k ≠ tb ∧ ¬ Foot (.slice ha S.N hc) vs k) : TbM S cv tb ha hc vs M b W' := by
  have hn : ∀ {p : Addr}, p.block = tb → some p.block ≠ row := fun e e2 => by
    have := (hr _ e2.symm).1; rw [e] at this; exact this rfl
  have hlt := World.block_lt_of_cell? W _ h.s0
  refine ⟨hg.cell h.s0 (hn rfl), hg.cell h.s1 (hn rfl), hg.cell h.s2 (hn rfl), hg.cell h.s3 (hn rfl), hg.cell h.has (hn rfl), hg.cell h.more (hn rfl), fun j => ?_, h.own.grown kBool hg fun k e => (hr k e).2, h.shp⟩
  rw [World.frozen?_of_block (a := ⟨tb, j, none⟩) (hg.block tb hlt fun e => (hr tb e.symm).1 rfl)]
  exact h.frz j
theorem TbM.keep (h : TbM S cv tb ha hc vs M b W) (hg : W.grownBy W' none) : TbM S cv tb ha hc vs M b W' := h.grown hg (by simp)
theorem Kpt.below (h : TbM S cv tb ha hc vs M b W) (hk : Kpt tb (.slice ha S.N hc) vs W W') : Below tb W W' :=
  ⟨hk.os, hk.tape, hk.output, hk.size, fun k hlt => hk.block k (Nat.lt_trans hlt (World.block_lt_of_cell? W _ h.s0)) (by omega) fun hf => by have := (h.foot k hf).1; omega⟩
/-- What a walk needs to read. -/
theorem TbM.rd (h : TbM S cv tb ha hc vs M b W) {i : Nat} (hi : i < S.N) : ∃ a c, nth vs i = .slice a S.sites c ∧
    (∀ (k : IntKind) (x : Int), 0 ≤ x → x < S.N → ∀ W, (Instr.indexAt 69 (.slice ha S.N hc) (.int k x)).run Try.prog W = .ok (.pointer (some ⟨blk ha, ofs ha + x.toNat, none⟩)) W) ∧
    W.cell? ⟨blk ha, ofs ha + i, none⟩ = some (.slice a S.sites c) ∧
    (∀ (k : IntKind) (x : Int), 0 ≤ x → x < S.sites → ∀ W, (Instr.indexAt 49 (.slice a S.sites c) (.int k x)).run Try.prog W = .ok (.pointer (some ⟨blk a, ofs a + x.toNat, none⟩)) W) ∧
    (∀ x, x < S.sites → W.cell? ⟨blk a, ofs a + x, none⟩ = some (.bool (tg M i x)) ∧ W.frozen? ⟨blk a, ofs a + x, none⟩ = false ∧ Foot (.slice ha S.N hc) vs (blk a)) := by
  have hvl : vs.length = S.N := by rw [h.own.len, h.shp.len]
  have hil : i < M.length := by rw [h.shp.len]; exact hi
  obtain ⟨a1, c1, e1, -, i1, d1, -⟩ := h.own.out.lst.out1 sBool2
  simp only [Value.slice.injEq] at e1
  obtain ⟨rfl, -, rfl⟩ := e1
  rw [hvl] at i1
  have hin := h.own.inn i hil
  obtain ⟨a, c, e2, -, i2, d2, -⟩ := hin.lst.out1 sBool
  rw [h.shp.row i hi] at e2 i2
  refine ⟨a, c, e2, i1, by rw [← e2]; exact d1 i (by rw [hvl]; exact hi), i2, fun x hx => ⟨d2 x (by rw [h.shp.row i hi]; exact hx), ?_, .inr ⟨i, by rw [hvl]; exact hi, ?_⟩⟩⟩
  · rw [e2] at hin
    exact Own.frozen hin (by rw [h.shp.row i hi]; omega) _
  · rw [e2]
    have hl := hin.lst
    rw [e2] at hl
    obtain ⟨a3, c3, e3, -, -, h3⟩ := hl
    simp only [Value.slice.injEq] at e3
    obtain ⟨rfl, -, -⟩ := e3
    rw [(h3 x (by rw [h.shp.row i hi]; exact hx)).1]; rfl
theorem TbM.mark (h : TbM S cv tb ha hc vs M b W) (y : Bool) : TbM S cv tb ha hc vs M y (W.setCell ⟨tb, 5, none⟩ (.bool y)) := by
  have hlt := World.block_lt_of_cell? W _ h.s0
  have ho : ∀ j, j ≠ 5 → (W.setCell ⟨tb, 5, none⟩ (.bool y)).cell? ⟨tb, j, none⟩ = W.cell? ⟨tb, j, none⟩ := fun j hj => World.cell?_setCell_other _ _ _ _ (by intro e; simp at e; try omega)
  refine ⟨by rw [ho _ (by omega)]; exact h.s0, by rw [ho _ (by omega)]; exact h.s1, by rw [ho _ (by omega)]; exact h.s2, by rw [ho _ (by omega)]; exact h.s3, by rw [ho _ (by omega)]; exact h.has, ?_, fun j => ?_, h.own.grown kBool (grownBy_setCell _ _ _) fun k e hf => ?_, h.shp⟩
  · exact World.cell?_setCell_same W _ _ h.more
  · rw [World.frozen?_setCell]; exact h.frz j
  · simp at e; have := (h.foot k hf).1; omega
theorem TbM.put (h : TbM S cv tb ha hc vs M b W) {i x : Nat} (hi : i < S.N) (hx : x < S.sites) {a : Option Addr} {c : Nat} (hv : nth vs i = .slice a S.sites c) : TbM S cv tb ha hc vs (tput M i x) b (W.setCell ⟨blk a, ofs a + x, none⟩ (.bool true)) := by
  have hf : Foot (.slice ha S.N hc) vs (blk a) := by
    obtain ⟨a2, c2, e2, -, -, -, h2⟩ := h.rd hi
    rw [hv] at e2; simp only [Value.slice.injEq] at e2; obtain ⟨rfl, -, rfl⟩ := e2
    exact (h2 x hx).2.2
  have hn := (h.foot _ hf).1
  have hg := grownBy_setCell W ⟨blk a, ofs a + x, none⟩ (.bool true)
  have hne : ∀ {p : Addr}, p.block = tb → some p.block ≠ some (blk a) := fun e e2 => by simp at e2; omega
  have hlt := World.block_lt_of_cell? W _ h.s0
  refine ⟨hg.cell h.s0 (hne rfl), hg.cell h.s1 (hne rfl), hg.cell h.s2 (hne rfl), hg.cell h.s3 (hne rfl), hg.cell h.has (hne rfl), hg.cell h.more (hne rfl), fun j => ?_, ?_, tput_shp h.shp i x⟩
  · rw [World.frozen?_setCell]; exact h.frz j
  · exact OwnN.setIn h.own (by rw [h.shp.len]; exact hi) hv (by rw [h.shp.row i hi]; exact hx) true
end

/-- What a step of the table does. -/
def TDoes (S : Syst) (cv : Value) (tb : Nat) (ha : Option Addr) (hc : Nat) (vs : List Value) (F : (Nat → Nat → Prop) → Prop) (M : List (List Bool)) (b : Bool) (W : World) (e : Ending) (W' : World) : Prop :=
  (∃ v, e = .returned v) ∧ ∃ M' b', TbM S cv tb ha hc vs M' b' W' ∧ TStp S.N S.sites F M M' b b' ∧ Kpt tb (.slice ha S.N hc) vs W W'

set_option maxHeartbeats 1600000 in
theorem tput_any {S : Syst} {cv : Value} {tb : Nat} {ha : Option Addr} {hc : Nat} {vs : List Value} {M : List (List Bool)} {b : Bool} {W : World} (h : TbM S cv tb ha hc vs M b W) (i x : Nat) (hi : i < S.N) (hx : x < S.sites) :
    Calls Try.prog 50 #[.pointer (some ⟨tb, 0, none⟩), .int .i64 (i : Int), .int .i64 (x : Int)] W (TDoes S cv tb ha hc vs (fun p => p i x) M b W) := by
  obtain ⟨a, c, e2, i1, d1, i2, h2⟩ := h.rd hi
  obtain ⟨d2, f2, ft⟩ := h2 x hx
  have d0 := h.has
  have f0 := h.frz 5
  have hm := h.more
  have hfb := (h.foot _ ft).1
  have H := Lib.hid (And.intro h (And.intro e2 ft))
  clear h e2 ft h2
  generalize htg : tg M i x = t at *
  have HT := Lib.hid htg
  clear htg
  cases t
  · go_enter Try.func50, Try.ntmps50
    go_wp2_with fail
    go_end0
    refine ⟨⟨_, rfl⟩, _, _, (H.out.1.put hi hx H.out.2.1).mark true, TStp.put H.out.1.shp hi hx HT.out, ?_⟩
    exact (Kpt.grown (grownBy_setCell _ _ _) (fun k e => by simp at e; subst e; exact .inr H.out.2.2)).trans (Kpt.grown (grownBy_setCell _ _ _) (fun k e => by simp at e; exact .inl e.symm))
  · go_enter Try.func50, Try.ntmps50
    go_wp2_with fail
    go_end0
    exact ⟨⟨_, rfl⟩, _, _, H.out.1, TStp.refl H.out.1.shp fun _ => HT.out, Kpt.refl _⟩

set_option maxHeartbeats 1600000 in
theorem tcell_any {S : Syst} {cv : Value} {tb : Nat} {ha : Option Addr} {hc : Nat} {vs : List Value} {M : List (List Bool)} {b : Bool} {W : World} (h : TbM S cv tb ha hc vs M b W) (y f : Nat) (h1 : S.vars ≤ 1000000) (h3 : S.fields ≤ 1000000) (hy : y ≤ 1000000) (hf : f ≤ 1000000) :
    ∃ n : Nat, n = S.cell y f ∧ Calls Try.prog 52 #[.pointer (some ⟨tb, 0, none⟩), .int .i64 (y : Int), .int .i64 (f : Int)] W (fun e W' => e = .returned (.int .i64 (n : Int)) ∧ Qt W W') := by
  refine ⟨_, rfl, ?_⟩
  have hm : (y : Int) * (S.fields : Int) ≤ 1000000000000 := by
    have := Nat.mul_le_mul hy h3
    have e : (y : Int) * (S.fields : Int) = ((y * S.fields : Nat) : Int) := by simp
    rw [e]; omega
  have hm0 : 0 ≤ (y : Int) * (S.fields : Int) := by
    have e : (y : Int) * (S.fields : Int) = ((y * S.fields : Nat) : Int) := by simp
    rw [e]; omega
  have s0 := h.s0
  have s2 := h.s2
  have hw : IntKind.i64.wrap ((y : Int) * (S.fields : Int)) = (y : Int) * (S.fields : Int) := IntWalk.i64_in _ (by omega)
  have hw2 : IntKind.i64.wrap ((S.vars : Int) + (y : Int) * (S.fields : Int)) = (S.vars : Int) + (y : Int) * (S.fields : Int) := IntWalk.i64_in _ (by omega)
  have hw3 : IntKind.i64.wrap ((S.vars : Int) + (y : Int) * (S.fields : Int) + (f : Int)) = (S.vars : Int) + (y : Int) * (S.fields : Int) + (f : Int) := IntWalk.i64_in _ (by omega)
  clear h
  go_enter Try.func52, Try.ntmps52
  go_wp2_with fail
  go_quiet (fail)
  go_wp2_with fail
  go_ret
  exact ⟨ret_int (by unfold Syst.cell; simp), (by first | exact Qt.refl _ | exact Qt.drewN _ _ | exact (Qt.drewN _ _).trans (Qt.drewN _ _) | exact ((Qt.drewN _ _).trans (Qt.drewN _ _)).trans (Qt.drewN _ _) | exact Qt.drew _ | exact (Qt.drewN _ _).trans (Qt.drew _))⟩

set_option maxHeartbeats 1600000 in
theorem tflow_any {S : Syst} {cv : Value} {tb : Nat} {ha : Option Addr} {hc : Nat} {vs : List Value} {M : List (List Bool)} {b : Bool} {W : World} (h : TbM S cv tb ha hc vs M b W) (i j : Nat) (hi : i < S.N) (hj : j < S.N) (hs : S.sites ≤ 1000000) :
    Calls Try.prog 51 #[.pointer (some ⟨tb, 0, none⟩), .int .i64 (i : Int), .int .i64 (j : Int)] W (TDoes S cv tb ha hc vs (fun p => ∀ x, p i x → p j x) M b W) := by
  have H := Lib.hid h
  clear h
  go_enter Try.func51, Try.ntmps51
  go_wp2_with fail
  go_loopw [6] (fun x wr => ∃ k : Nat, k ≤ S.sites ∧ x = .int .i64 k ∧ Hid (∃ M' b', TbM S cv tb ha hc vs M' b' wr ∧ TStp S.N S.sites (fun p => ∀ x, x < k → p i x → p j x) M M' b b' ∧ Kpt tb (.slice ha S.N hc) vs W wr)) (fun x _ => S.sites - (intOf x).toNat)
  case atStart => exact ⟨0, by omega, rfl, M, b, H.out, TStp.refl H.out.shp fun _ x hx => by omega, Kpt.refl _⟩
  case round =>
    obtain ⟨k, hk, rfl, hh⟩ := hrel
    obtain ⟨M', b', hT, hS, hK⟩ := hh.out
    clear hh
    have s1 := hT.s1
    by_cases hlt : k < S.sites
    · obtain ⟨a, c, e2, i1, d1, i2, h2⟩ := hT.rd hi
      obtain ⟨d2, f2, ft⟩ := h2 k hlt
      have d0 := hT.has
      have HH := Lib.hid (And.intro hT (And.intro hS hK))
      clear hT hS hK e2 h2 ft f2
      generalize htg : tg M' i k = t at *
      have HT := Lib.hid htg
      clear htg
      cases t
      · go_wp2_with fail
        go_roundw
        case rel => exact ⟨k + 1, by omega, by go_num, M', b', HH.out.1, HH.out.2.1.mono (fun p hp x hx => hp x (by omega)) (fun hp x hx hpx => by
          by_cases e : x = k
          · subst e
            have h1 : tg M i x = true := hpx
            have h2 := HH.out.2.1.le i x h1
            have h3 : tg M' i x = true := h2
            rw [HT.out] at h3; cases h3
          · exact hp x (by omega) hpx), HH.out.2.2⟩
        case measure => simp [intOf]; omega
      · go_wp2_with fail
        refine (tput_any HH.out.1 j k hj hlt).mono ?_
        rintro e W2 ⟨⟨v2, rfl⟩, M2, b2, hT2, hS2, hK2⟩
        have H2 := Lib.hid (And.intro hT2 (And.intro hS2 hK2))
        clear hT2 hS2 hK2
        go_wp2_with fail
        go_roundw
        case rel => exact ⟨k + 1, by omega, by go_num, M2, b2, H2.out.1, HH.out.2.1.thenW H2.out.2.1 _ (fun p hp x hx => hp x (by omega)) (fun p hs hp => hp k (by omega) (hs i k HT.out)) (fun hF hG x hx hpx => by
          by_cases e : x = k
          · subst e; exact hG
          · exact hF x (by omega) hpx), HH.out.2.2.trans H2.out.2.2⟩
        case measure => simp [intOf]; omega
    · obtain rfl : k = S.sites := by omega
      have HH := Lib.hid (And.intro hT (And.intro hS hK))
      clear hT hS hK
      go_wp2_with fail
      go_end0
      refine ⟨⟨_, rfl⟩, M', b', HH.out.1, HH.out.2.1.mono (fun p hp x _ => hp x) (fun hp x hx => hp x (tg_lt H.out.shp hx).2 hx), HH.out.2.2⟩
end Go.Proofs.Ytkfhopnolflchaa
