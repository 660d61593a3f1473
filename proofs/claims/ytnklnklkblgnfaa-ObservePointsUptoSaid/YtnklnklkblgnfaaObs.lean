/- Facts of executions: rows of them, their sorting, sets of them. -/
import Derived.Test.YtnklnklkblgnfaaObc
import Derived.Test.YtnklnklkblgnfaaMapR
import Derived.Test.YtnklnklkblgnfaaSrt
import Derived.Test.YtnklnklkblgnfaaLos
namespace Go.Proofs.Ytnklnklkblgnfaa
open Go.RowKit Go.Dfl Go.Gra Go.Obs Go.Sort Go.Maps

/-! ### api.PointFact -/
def elP : El (Int × Int × Int) := ⟨3, fun x => [.int .i64 x.1, .int .i64 x.2.1, .int .i64 x.2.2], fun _ => rfl, fun x v hv => by simp at hv; rcases hv with rfl | rfl | rfl <;> rfl, by omega⟩
theorem sPf : SliceOf Try.prog 26 53 (.agg #[.int .i64 0, .int .i64 0, .int .i64 0]) 3 24 := ⟨Try.underlying26, info_parts (P := Try.prog) (e := 53) (by kernel_rfl)⟩
theorem cmp3_lt (x y : Int × Int × Int) : ltOf cmp3 x y = decide (lt3 x y) := by
  unfold ltOf
  by_cases h : lt3 x y
  · simp [h, (cmp3_neg x y).2 h]
  · simp [h]
    have := mt (cmp3_neg x y).1 h
    omega
theorem cmp3_swo : SWO (ltOf cmp3) where
  irrefl x := by rw [cmp3_lt]; simpa using sto3.irrefl x
  trans x y z h1 h2 := by rw [cmp3_lt] at *; simp only [decide_eq_true_eq] at *; exact sto3.trans h1 h2
  ntrans x y z h1 h2 := by
    rw [cmp3_lt] at *
    simp only [decide_eq_false_iff_not] at *
    intro h3
    rcases sto3.tri y x with h4 | h4 | h4
    · exact h2 (sto3.trans h4 h3)
    · subst h4; exact h2 h3
    · exact h1 h4
def spSortR (base g cap : Nat) (l : List (Int × Int × Int)) (W : World) (e : Ending) (W' : World) : Prop := ∃ l' : List (Int × Int × Int), e = .returned (.tuple #[]) ∧ l'.Perm l ∧ l'.Pairwise lt3 ∧ OwnE elP W' base 53 (.slice (some ⟨g, 0, none⟩) l.length cap) l' ∧ W.grownBy W' (some g)
set_option maxHeartbeats 1600000 in
theorem spSort_any (base g cap : Nat) (l : List (Int × Int × Int)) (W : World) (h : OwnE elP W base 53 (.slice (some ⟨g, 0, none⟩) l.length cap) l) (hl : l.length ≤ 10000000) (hnd : l.Nodup) :
    Calls Try.prog 28 #[.slice (some ⟨g, 0, none⟩) l.length cap, .func (.func 18) #[] #[]] W (spSortR base g cap l W) := by
  have eg : ∀ args w, (callFunc 18 args).run Try.prog w = .ok (.enter 18 args) w := enters_of Try.func18 (by kernel_rfl) rfl
  have hH := OwnE.holdsK h rfl
  have hblk : g < W.heap.size := (OwnE.lt h g rfl).2
  have hcon := AnyQ.slices_SortFunc sortP 3 Try.isAgg53 Try.sizeOf53 elP.c (fun _ => rfl) elP.one cmp3 cmp3_swo 18 #[] g 0 cap l.toArray W eg (fun _ _ _ _ x y => cmp3_any x y _) hH hblk (by simp; omega)
  change Calls Try.prog 28 _ _ _ at hcon
  have hs0 : l.toArray.size = l.length := by simp
  rw [hs0] at hcon
  refine hcon.mono ?_
  rintro e W' ⟨rfl, d', n, os, hp, hs, rfl⟩
  obtain ⟨p1, -, p3⟩ := hp
  have hd : d'.size = l.length := by rw [p1, hs0]
  obtain ⟨o1, o2⟩ := OwnE.sortK h rfl d' hd n os
  have hperm : d'.toList.Perm l := by
    have e1 : (d'.extract 0 l.length) = d' := by rw [← hd]; exact Array.extract_size
    have e2 : (l.toArray.extract 0 l.length) = l.toArray := by rw [← hs0]; exact Array.extract_size
    rw [e1, e2] at p3
    exact p3
  have hnd' : d'.toList.Nodup := hperm.nodup_iff.2 hnd
  refine ⟨d'.toList, rfl, hperm, List.pairwise_iff_getElem.2 fun i j hi hj hij => ?_, o1, o2⟩
  have hjl : j < d'.size := by simpa using hj
  have h1 := hs i j (Nat.zero_le _) hij (by rw [← hd]; exact hjl)
  rw [cmp3_lt, decide_eq_false_iff_not] at h1
  rw [getElem!_pos d' j hjl, getElem!_pos d' i (by omega)] at h1
  have e1 : d'.toList[i] = d'[i]'(by omega) := by simp
  have e2 : d'.toList[j] = d'[j] := by simp
  rw [e1, e2]
  rcases sto3.tri (d'[i]'(by omega)) d'[j] with h2 | h2 | h2
  · exact h2
  · exfalso
    rw [← e1, ← e2] at h2
    have := (List.getElem_inj hnd').1 h2
    omega
  · exact absurd h2 h1
theorem spSort_nil (fv : Value) (c : Nat) (W : World) :
    Calls Try.prog 28 #[.slice none 0 c, fv] W fun e W' => e = .returned (.tuple #[]) ∧ W' = W := AnyF.slices_SortFunc_none sortP none c fv W
theorem pkKeyed : Keyed Try.prog 53 := Keyed.of_law (deep_law_laid laidOut (m := 2) (by omega) (of_decide_eq_true (by kernel_rfl)) (by kernel_rfl) (by rw [Try.underlying53]))
theorem pkWf (x : Int × Int × Int) (h : inI x.1 ∧ inI x.2.1 ∧ inI x.2.2) : ∃ kl, keyOf Try.prog 53 (pv x) = some kl := by
  obtain ⟨x1, x2, x3⟩ := x
  obtain ⟨h1, h2, h3⟩ := h
  have wf : ∀ x : Int, inI x → (Lit.int .i64 x).wf = true := fun x hx => WalkArith.wf_i64 (by unfold inI at hx; omega)
  have wi : ∀ (d : Nat) (x : Int), inI x → Try.prog.keyLits (d + 1) 3 [.int .i64 x] = some [.int .i64 x] := fun d x hx => by
    simp [Program.keyLits, Try.underlying3, wf x hx]
  have hsz : ∃ d, Try.prog.types.size + 1 = d + 2 := ⟨Try.prog.types.size - 1, by have : 0 < Try.prog.types.size := of_decide_eq_true (by kernel_rfl); omega⟩
  obtain ⟨d, hd⟩ := hsz
  have ktype : Try.prog.keyType 53 = true := by kernel_rfl
  have cellsK : Try.prog.cellsOf 53 = 3 := by kernel_rfl
  unfold keyOf
  rw [Try.underlying53, hd]
  simp only [ktype, Bool.true_and]
  have hf : (Value.agg #[.int .i64 x1, .int .i64 x2, .int .i64 x3]).formed Try.prog 53 = true := by simp [Value.formed, Try.underlying53, cellsK]
  rw [if_pos hf]
  unfold Program.keyLits
  simp only [Try.underlying53]
  simp [cellsK, cI, wi, h1, h2, h3, Value.cells]
theorem pv_inj {x y : Int × Int × Int} (h : pv x = pv y) : x = y := by
  obtain ⟨x1, x2, x3⟩ := x
  obtain ⟨y1, y2, y3⟩ := y
  simp [pv] at h
  simp [h]
def ascPR (l : List (Int × Int × Int)) (W : World) (e : Ending) (W' : World) : Prop := ∃ a c L, e = .returned (.slice a L.length c) ∧ OwnE elP W' W.heap.size 53 (.slice a L.length c) L ∧ L.Pairwise lt3 ∧ (∀ x, x ∈ L ↔ x ∈ l) ∧ Below W.heap.size W W'


/-! ### api.IntFact -/
def elN : El (Int × Int × Int × Int) := ⟨4, fun x => [.int .i64 x.1, .int .i64 x.2.1, .int .i64 x.2.2.1, .int .i64 x.2.2.2], fun _ => rfl, fun x v hv => by simp at hv; rcases hv with rfl | rfl | rfl | rfl <;> rfl, by omega⟩
theorem sNf : SliceOf Try.prog 29 32 (.agg #[.int .i64 0, .int .i64 0, .int .i64 0, .int .i64 0]) 4 32 := ⟨Try.underlying29, info_parts (P := Try.prog) (e := 32) (by kernel_rfl)⟩
theorem cmp4_lt (x y : Int × Int × Int × Int) : ltOf cmp4 x y = decide (lt4 x y) := by
  unfold ltOf
  by_cases h : lt4 x y
  · simp [h, (cmp4_neg x y).2 h]
  · simp [h]
    have := mt (cmp4_neg x y).1 h
    omega
theorem cmp4_swo : SWO (ltOf cmp4) where
  irrefl x := by rw [cmp4_lt]; simpa using sto4.irrefl x
  trans x y z h1 h2 := by rw [cmp4_lt] at *; simp only [decide_eq_true_eq] at *; exact sto4.trans h1 h2
  ntrans x y z h1 h2 := by
    rw [cmp4_lt] at *
    simp only [decide_eq_false_iff_not] at *
    intro h3
    rcases sto4.tri y x with h4 | h4 | h4
    · exact h2 (sto4.trans h4 h3)
    · subst h4; exact h2 h3
    · exact h1 h4
def snSortR (base g cap : Nat) (l : List (Int × Int × Int × Int)) (W : World) (e : Ending) (W' : World) : Prop := ∃ l' : List (Int × Int × Int × Int), e = .returned (.tuple #[]) ∧ l'.Perm l ∧ l'.Pairwise lt4 ∧ OwnE elN W' base 32 (.slice (some ⟨g, 0, none⟩) l.length cap) l' ∧ W.grownBy W' (some g)
set_option maxHeartbeats 1600000 in
theorem snSort_any (base g cap : Nat) (l : List (Int × Int × Int × Int)) (W : World) (h : OwnE elN W base 32 (.slice (some ⟨g, 0, none⟩) l.length cap) l) (hl : l.length ≤ 10000000) (hnd : l.Nodup) :
    Calls Try.prog 31 #[.slice (some ⟨g, 0, none⟩) l.length cap, .func (.func 23) #[] #[]] W (snSortR base g cap l W) := by
  have eg : ∀ args w, (callFunc 23 args).run Try.prog w = .ok (.enter 23 args) w := enters_of Try.func23 (by kernel_rfl) rfl
  have hH := OwnE.holdsK h rfl
  have hblk : g < W.heap.size := (OwnE.lt h g rfl).2
  have hcon := AnyQ.slices_SortFunc sortN 4 Try.isAgg32 Try.sizeOf32 elN.c (fun _ => rfl) elN.one cmp4 cmp4_swo 23 #[] g 0 cap l.toArray W eg (fun _ _ _ _ x y => cmp4_any x y _) hH hblk (by simp; omega)
  change Calls Try.prog 31 _ _ _ at hcon
  have hs0 : l.toArray.size = l.length := by simp
  rw [hs0] at hcon
  refine hcon.mono ?_
  rintro e W' ⟨rfl, d', n, os, hp, hs, rfl⟩
  obtain ⟨p1, -, p3⟩ := hp
  have hd : d'.size = l.length := by rw [p1, hs0]
  obtain ⟨o1, o2⟩ := OwnE.sortK h rfl d' hd n os
  have hperm : d'.toList.Perm l := by
    have e1 : (d'.extract 0 l.length) = d' := by rw [← hd]; exact Array.extract_size
    have e2 : (l.toArray.extract 0 l.length) = l.toArray := by rw [← hs0]; exact Array.extract_size
    rw [e1, e2] at p3
    exact p3
  have hnd' : d'.toList.Nodup := hperm.nodup_iff.2 hnd
  refine ⟨d'.toList, rfl, hperm, List.pairwise_iff_getElem.2 fun i j hi hj hij => ?_, o1, o2⟩
  have hjl : j < d'.size := by simpa using hj
  have h1 := hs i j (Nat.zero_le _) hij (by rw [← hd]; exact hjl)
  rw [cmp4_lt, decide_eq_false_iff_not] at h1
  rw [getElem!_pos d' j hjl, getElem!_pos d' i (by omega)] at h1
  have e1 : d'.toList[i] = d'[i]'(by omega) := by simp
  have e2 : d'.toList[j] = d'[j] := by simp
  rw [e1, e2]
  rcases sto4.tri (d'[i]'(by omega)) d'[j] with h2 | h2 | h2
  · exact h2
  · exfalso
    rw [← e1, ← e2] at h2
    have := (List.getElem_inj hnd').1 h2
    omega
  · exact absurd h2 h1
theorem snSort_nil (fv : Value) (c : Nat) (W : World) :
    Calls Try.prog 31 #[.slice none 0 c, fv] W fun e W' => e = .returned (.tuple #[]) ∧ W' = W := AnyF.slices_SortFunc_none sortN none c fv W
theorem nkKeyed : Keyed Try.prog 32 := Keyed.of_law (deep_law_laid laidOut (m := 2) (by omega) (of_decide_eq_true (by kernel_rfl)) (by kernel_rfl) (by rw [Try.underlying32]))
theorem nkWf (x : Int × Int × Int × Int) (h : inI x.1 ∧ inI x.2.1 ∧ inI x.2.2.1 ∧ inI x.2.2.2) : ∃ kl, keyOf Try.prog 32 (nv x) = some kl := by
  obtain ⟨x1, x2, x3, x4⟩ := x
  obtain ⟨h1, h2, h3, h4⟩ := h
  have wf : ∀ x : Int, inI x → (Lit.int .i64 x).wf = true := fun x hx => WalkArith.wf_i64 (by unfold inI at hx; omega)
  have wi : ∀ (d : Nat) (x : Int), inI x → Try.prog.keyLits (d + 1) 3 [.int .i64 x] = some [.int .i64 x] := fun d x hx => by
    simp [Program.keyLits, Try.underlying3, wf x hx]
  have wl : ∀ (d : Nat) (x : Int), inI x → Try.prog.keyLits (d + 1) 2 [.int .i64 x] = some [.int .i64 x] := fun d x hx => by
    simp [Program.keyLits, Try.underlying2, wf x hx]
  have cellsL : Try.prog.cellsOf 2 = 1 := by kernel_rfl
  have hsz : ∃ d, Try.prog.types.size + 1 = d + 2 := ⟨Try.prog.types.size - 1, by have : 0 < Try.prog.types.size := of_decide_eq_true (by kernel_rfl); omega⟩
  obtain ⟨d, hd⟩ := hsz
  have ktype : Try.prog.keyType 32 = true := by kernel_rfl
  have cellsK : Try.prog.cellsOf 32 = 4 := by kernel_rfl
  unfold keyOf
  rw [Try.underlying32, hd]
  simp only [ktype, Bool.true_and]
  have hf : (Value.agg #[.int .i64 x1, .int .i64 x2, .int .i64 x3, .int .i64 x4]).formed Try.prog 32 = true := by simp [Value.formed, Try.underlying32, cellsK]
  rw [if_pos hf]
  unfold Program.keyLits
  simp only [Try.underlying32]
  simp [cellsK, cI, wi, cellsL, wl, h1, h2, h3, h4, Value.cells]
theorem nv_inj {x y : Int × Int × Int × Int} (h : nv x = nv y) : x = y := by
  obtain ⟨x1, x2, x3, x4⟩ := x
  obtain ⟨y1, y2, y3, y4⟩ := y
  simp [nv] at h
  simp [h]
def ascNR (l : List (Int × Int × Int × Int)) (W : World) (e : Ending) (W' : World) : Prop := ∃ a c L, e = .returned (.slice a L.length c) ∧ OwnE elN W' W.heap.size 32 (.slice a L.length c) L ∧ L.Pairwise lt4 ∧ (∀ x, x ∈ L ↔ x ∈ l) ∧ Below W.heap.size W W'

end Go.Proofs.Ytnklnklkblgnfaa
