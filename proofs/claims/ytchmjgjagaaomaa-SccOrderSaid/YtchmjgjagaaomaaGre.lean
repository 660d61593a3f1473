/- Contracts of slices.SortFunc and slices.Clone for edges. -/
import Derived.Test.YtchmjgjagaaomaaGrd
namespace Go.Gra
open Go.Sort Go.Proofs
theorem ltE (x y : Int × Int) : ltOf cmpE x y = decide (eLt x y) := by
  unfold ltOf
  by_cases h : eLt x y
  · simp [h, (cmpE_neg x y).2 h]
  · simp [h, (cmpE_nonneg x y).2 h]
theorem swoE : SWO (ltOf cmpE) where
  irrefl x := by rw [ltE]; simpa using eLt_irrefl x
  trans x y z h1 h2 := by rw [ltE] at *; simp only [decide_eq_true_eq] at *; exact eLt_trans h1 h2
  ntrans x y z h1 h2 := by rw [ltE] at *; simp only [decide_eq_false_iff_not] at *; unfold eLt at *; omega
end Go.Gra
namespace Go.Proofs.Ytchmjgjagaaomaa
open Go.RowKit Go.Dfl Go.Gra Go.Sort

/-- A row that is sorted. -/
def SortR (base g cap : Nat) (l : List (Int × Int)) (W : World) (e : Ending) (W' : World) : Prop := ∃ l' : List (Int × Int), e = .returned (.tuple #[]) ∧ l'.length = l.length ∧ l'.Perm l ∧ (∀ i j, i < j → j < l'.length → ¬ eLt (nth l' j) (nth l' i)) ∧ OwnE elE W' base 35 (.slice (some ⟨g, 0, none⟩) l.length cap) l' ∧ W.grownBy W' (some g)
set_option maxHeartbeats 1600000 in
theorem sort_any (base g cap : Nat) (l : List (Int × Int)) (W : World) (h : OwnE elE W base 35 (.slice (some ⟨g, 0, none⟩) l.length cap) l) (hl : l.length ≤ 1000000) :
    Calls Try.prog 50 #[.slice (some ⟨g, 0, none⟩) l.length cap, .func (.func 43) #[] #[]] W (SortR base g cap l W) := by
  have eg : ∀ args w, (callFunc 43 args).run Try.prog w = .ok (.enter 43 args) w := enters_of Try.func43 (by kernel_rfl) rfl
  have hH := OwnE.holdsK h rfl
  have hblk : g < W.heap.size := by
    obtain ⟨⟨cur, -, hh, -⟩, -⟩ := h.raw
    exact (Array.getElem?_eq_some_iff.1 hh).1
  have hcon := AnyQ.slices_SortFunc sortE 2 Try.isAgg35 Try.sizeOf35 elE.c (fun _ => rfl) elE.one cmpE swoE 43 #[] g 0 cap l.toArray W eg (fun _ _ _ _ x y => compare_any x y _) hH hblk (by simp; omega)
  change Calls Try.prog 50 _ _ _ at hcon
  have hs0 : l.toArray.size = l.length := by simp
  rw [hs0] at hcon
  refine hcon.mono ?_
  rintro e W' ⟨rfl, d', n, os, hp, hs, rfl⟩
  obtain ⟨p1, -, p3⟩ := hp
  have hd : d'.size = l.length := by rw [p1, hs0]
  obtain ⟨o1, o2⟩ := OwnE.sortK h rfl d' hd n os
  have hperm : d'.toList.Perm l := by
    have e1 : (d'.extract 0 l.length) = d' := by rw [← hd]; exact Array.extract_size
    have e2 : (l.toArray.extract 0 l.length) = l.toArray := by rw [← hs0]; exact Array.extract_size
    rw [e1, e2] at p3
    exact p3
  refine ⟨d'.toList, rfl, hperm.length_eq, hperm, fun i j hij hj => ?_, o1, o2⟩
  have hjl : j < d'.size := by simpa using hj
  have h1 := hs i j (Nat.zero_le _) hij (by rw [← hd]; exact hjl)
  rw [ltE, decide_eq_false_iff_not] at h1
  have e1 : d'[j]! = nth d'.toList j := by rw [getElem!_pos d' j hjl, nth_eq _ _ hj]; simp
  have e2 : d'[i]! = nth d'.toList i := by rw [getElem!_pos d' i (by omega), nth_eq _ _ (by simp; omega)]; simp
  rw [e1, e2] at h1
  exact h1
theorem sort_nil (fv : Value) (c : Nat) (W : World) :
    Calls Try.prog 50 #[.slice none 0 c, fv] W fun e W' => e = .returned (.tuple #[]) ∧ W' = W := AnyF.slices_SortFunc_none sortE none c fv W

/-- What Clone returns. -/
def CloneR (l : List (Int × Int)) (W : World) (e : Ending) (W' : World) : Prop := (l = [] ∧ e = .returned (.slice none 0 0) ∧ W' = W) ∨ ∃ g cap, e = .returned (.slice (some ⟨g, 0, none⟩) l.length cap) ∧ OwnE elE W' W.heap.size 35 (.slice (some ⟨g, 0, none⟩) l.length cap) l ∧ Below W.heap.size W W'
set_option maxHeartbeats 1600000 in
theorem clone_any (v : Value) (l : List (Int × Int)) (W : World) (h : Pairs W v l) (hl : l.length ≤ 1000000) : Calls Try.prog 49 #[v] W (CloneR l W) := by
  obtain ⟨a, cap, rfl, hc, hm, h3⟩ := h
  cases a with
  | none =>
    have h0 : l = [] := by
      cases l with
      | nil => rfl
      | cons x l => have := (h3 0 (by simp)).1; cases this
    subst h0
    refine (AnyE.slices_Clone_nil cloneE _ cap W).mono ?_
    rintro e W' ⟨rfl, rfl⟩
    exact .inl ⟨rfl, rfl, rfl⟩
  | some ad =>
    have hcl : ∀ j u, (l.flatMap elE.c)[j]? = some u → W.cell? ⟨ad.block, ad.off + j, none⟩ = some u := fun j u hj => by
      have hjl : j < (l.flatMap elE.c).length := (List.getElem?_eq_some_iff.1 hj).1
      rw [flat_len] at hjl
      have hjl2 : j < l.length * 2 := hjl
      obtain ⟨-, -, h4⟩ := h3 (j / 2) (by omega)
      have h5 := h4 (j % 2) (by omega)
      have hf := flat_get elE l (j / 2) (j % 2) (by omega) (by show j % 2 < 2; omega)
      have e1 : j / 2 * elE.sz + j % 2 = j := by show j / 2 * 2 + j % 2 = j; omega
      rw [e1, hj] at hf
      have e2 : ofs (some ad) + j / 2 * 2 + j % 2 = ad.off + j := by show ad.off + j / 2 * 2 + j % 2 = _; omega
      rw [e2] at h5
      have e3 : blk (some ad) = ad.block := rfl
      rw [e3] at h5
      rw [h5, hf]
      rcases (by omega : j % 2 = 0 ∨ j % 2 = 1) with h | h <;> rw [h] <;> rfl
    by_cases hsp : l = []
    · subst hsp
      obtain ⟨i, hi, hz0, hz1, hz2⟩ := sEdge.info
      have hap : ∀ (ty : TypeId) (w : World) (g : Nat), (Builtin.append_ #[22, 22] ty #[.slice (some ⟨g, 0, none⟩) 0 0, .slice (some ad) 0 cap]).run Try.prog w = .ok (.slice (some ⟨g, 0, none⟩) 0 0) w := fun ty w g => by
        simp [Builtin.append_, run_underlying Try.underlying22, sizeOf, typeInfo, hi, Builtin.lenOf, Builtin.firstCells, storeCells, loadCells, loadCellsFrom]
      have hnil : ∀ (w : World) (a : Option Addr) (n c : Nat), (binOp .eql 22 (.slice a n c) (.slice none 0 0)).run Try.prog w = .ok (.bool a.isNone) w := fun w a n c => Lib.run_eql_slice_nil w _ _ a n c 0 0 Try.underlying22
      have ho : OwnE elE (W.alloc (.cells #[] 35)) W.heap.size 35 (.slice (some ⟨W.heap.size, 0, none⟩) 0 0) [] := World.ownsRow_lit (size := 2) W #[] 0 (Nat.le_refl _) (by unfold maxLen; omega) rfl
      have HO := Lib.hid ho
      clear ho hcl h3 hm
      rw [List.length_nil]
      go_enter Try.func49, Try.ntmps49
      go_wp2_with fail
      go_ret
      exact .inr ⟨W.heap.size, 0, rfl, HO.out, (Below.refl _ _).alloc (Nat.le_refl _) _⟩
    · have had : ad = ⟨ad.block, ad.off, none⟩ := by
        have := (h3 0 (List.length_pos_iff.2 hsp)).1
        exact Option.some.inj this
      rw [had]
      obtain ⟨i0, hi, hz0, hz1, hz2⟩ := sEdge.info
      refine (AnyE.slices_Clone cloneE i0 (.agg #[.int .i64 0, .int .i64 0]) 2 16 hi hz0 hz1 hz2 rfl (by omega) Try.sizeOf35 ad.block ad.off l.length cap (l.flatMap elE.c) W (flat_len elE l) (by omega) (by omega) hcl (fun u hu => ?_)).mono ?_
      · obtain ⟨x, -, hx⟩ := List.mem_flatMap.1 hu
        exact elE.one x u hx
      · rintro e W' ⟨v', rfl, hown, hne, hb⟩
        obtain ⟨g, c, rfl⟩ : ∃ g c, v' = .slice (some ⟨g, 0, none⟩) l.length c := by
          rcases hown.2 with ⟨h1, -⟩ | ⟨g, c, cur, h1, -⟩
          · exact absurd h1 hne
          · exact ⟨g, c, h1⟩
        exact .inr ⟨g, c, rfl, hown, hb⟩
end Go.Proofs.Ytchmjgjagaaomaa
