/- The library's cmp.Compare and cmp.Or. -/
import Derived.Test.YtnklnklkblgnfaaGa
import Derived.Test.YtnklnklkblgnfaaBaseP
import Derived.Test.YtnklnklkblgnfaaRows
import Derived.Sort.Grow
import Derived.Shelf.SlSorted.Search
namespace Go.Gra
open Go.RowKit
/-- The world has drawn and grown. -/
def Grw (W Z : World) : Prop := ∃ q os, Z = Go.Sort.grow (W.drewN q) os
theorem gen_code {P : Program} {c : Code} {Q : Exit → Act → World → Prop} {a : Act} {w : World} (p : World → Prop) (hw : p w) (h : ∀ W, p W → Code.wp P c Q a W) : Code.wp P c Q a w := h w hw
theorem gen_calls {P : Program} {f : FuncId} {args : Array Value} {w : World} {Q : Ending → World → Prop} (p : World → Prop) (hw : p w) (h : ∀ W, p W → Calls P f args W Q) : Calls P f args w Q := h w hw
theorem Grw.refl (W : World) : Grw W W := ⟨0, #[], by simp; rfl⟩
theorem Grw.drewN {W Z : World} (h : Grw W Z) (n : Nat) : Grw W (Z.drewN n) := by
  obtain ⟨q, os, rfl⟩ := h
  exact ⟨q + n, os, by rw [← World.drewN_drewN]; rfl⟩
theorem Grw.drew {W Z : World} (h : Grw W Z) : Grw W Z.drew := h.drewN 1
theorem Grw.alloc {W Z : World} (h : Grw W Z) (o : Obj) : Grw W (Z.alloc o) := by
  obtain ⟨q, os, rfl⟩ := h
  exact ⟨q, os.push o, by rw [Go.Sort.alloc_eq_grow, Go.Sort.grow_grow, Array.append_singleton]⟩
theorem Grw.trans {A B C : World} (h : Grw A B) (k : Grw B C) : Grw A C := by
  obtain ⟨q, os, rfl⟩ := h
  obtain ⟨q2, os2, rfl⟩ := k
  refine ⟨q + q2, os ++ os2, ?_⟩
  rw [← Go.Sort.grow_grow, ← World.drewN_drewN]; rfl
theorem Grw.below {A B : World} (h : Grw A B) : Below A.heap.size A B := by
  obtain ⟨q, os, rfl⟩ := h
  exact Go.Proofs.below_grown_sl _ _ _ _ (Nat.le_refl _)
end Go.Gra
namespace Go.Proofs.Ytnklnklkblgnfaa
open Go.RowKit Go.Dfl Go.Gra
theorem sIntG : SliceOf Try.prog 45 3 (.int .i64 0) 1 8 := ⟨Try.underlying45, info_parts (P := Try.prog) (e := 3) (by kernel_rfl)⟩
theorem cmpI_any (x y : Int) (w : World) : Calls Try.prog 20 #[.int .i64 x, .int .i64 y] w fun e w' => e = .returned (.int .i64 (cmpI x y)) ∧ w' = w := by
  have q1 : (x != x) = false := by simp
  have q2 : (y != y) = false := by simp
  by_cases h1 : x < y
  · go_enter Try.func20, Try.ntmps20
    go_wp2
    go_ret
    exact ⟨ret_int (by simp [cmpI, h1]), rfl⟩
  · by_cases h2 : y < x
    · go_enter Try.func20, Try.ntmps20
      go_wp2
      go_ret
      exact ⟨ret_int (by simp [cmpI, h1, h2]), rfl⟩
    · go_enter Try.func20, Try.ntmps20
      go_wp2
      go_ret
      exact ⟨ret_int (by unfold cmpI; rw [if_neg (by omega), if_neg (by omega)]), rfl⟩
theorem cmpL_any (x y : Int) (w : World) : Calls Try.prog 24 #[.int .i64 x, .int .i64 y] w fun e w' => e = .returned (.int .i64 (cmpI x y)) ∧ w' = w := by
  have q1 : (x != x) = false := by simp
  have q2 : (y != y) = false := by simp
  by_cases h1 : x < y
  · go_enter Try.func24, Try.ntmps24
    go_wp2
    go_ret
    exact ⟨ret_int (by simp [cmpI, h1]), rfl⟩
  · by_cases h2 : y < x
    · go_enter Try.func24, Try.ntmps24
      go_wp2
      go_ret
      exact ⟨ret_int (by simp [cmpI, h1, h2]), rfl⟩
    · go_enter Try.func24, Try.ntmps24
      go_wp2
      go_ret
      exact ⟨ret_int (by unfold cmpI; rw [if_neg (by omega), if_neg (by omega)]), rfl⟩
def orI (l : List Int) : Int := (l.find? fun x => decide (x ≠ 0)).getD 0
theorem orI_first {l : List Int} {k : Nat} (h : k < l.length) (h0 : ∀ i, i < k → nth l i = 0) (h1 : nth l k ≠ 0) : orI l = nth l k := by
  unfold orI
  have : l.find? (fun x => decide (x ≠ 0)) = some (nth l k) := by
    rw [List.find?_eq_some_iff_getElem]
    refine ⟨by simpa using h1, k, h, (nth_eq _ _ h).symm, fun j hj => ?_⟩
    rw [← nth_eq l j (by omega), h0 j hj]; simp
  rw [this]; rfl
theorem orI_none {l : List Int} (h0 : ∀ i, i < l.length → nth l i = 0) : orI l = 0 := by
  unfold orI
  have : l.find? (fun x => decide (x ≠ 0)) = none := by
    rw [List.find?_eq_none]
    intro x hx
    obtain ⟨i, hi, rfl⟩ := mem_nth hx
    simp [h0 i hi]
  rw [this]; rfl
set_option maxHeartbeats 800000 in
theorem cmpOr_any (v : Value) (l : List Int) (w : World) (h : Ints w v l) :
    Calls Try.prog 19 #[v] w fun e w' => e = .returned (.int .i64 (orI l)) ∧ w' = w := by
  obtain ⟨a, cap, rfl, hm, hidx, hcell, _⟩ := h.out1 sIntG
  clear h
  go_enter Try.func19, Try.ntmps19
  go_wp2_with fail
  go_loopw [5, 8] (fun _ i wr => ∃ k : Nat, k ≤ l.length ∧ i = .int .i64 k ∧ wr = w ∧ Hid (∀ i, i < k → nth l i = 0)) (fun _ i _ => l.length - (intOf i).toNat)
  case atStart => exact ⟨0, by omega, rfl, rfl, fun i hi => by omega⟩
  case round =>
    obtain ⟨k, hk, rfl, rfl, hch⟩ := hrel
    by_cases hlt : k < l.length
    · have hck := hcell k hlt
      by_cases h1 : nth l k = 0
      · have hd : (nth l k != 0) = false := by simpa using h1
        have HX := Lib.hid h1
        clear h1
        go_wp2_with fail
        go_roundw
        case rel => exact ⟨k + 1, by omega, by go_num, by trivial, fun i hi => by
          by_cases e : i = k
          · subst e; exact HX.out
          · exact hch.out i (by omega)⟩
        case measure => simp [intOf]; omega
      · have hd : (nth l k != 0) = true := by simpa using h1
        have HX := Lib.hid h1
        clear h1
        go_wp2_with fail
        go_ret
        exact ⟨ret_int (orI_first hlt hch.out HX.out).symm, rfl⟩
    · obtain rfl : k = l.length := by omega
      go_wp2_with fail
      go_ret
      exact ⟨ret_int (orI_none hch.out).symm, rfl⟩

end Go.Proofs.Ytnklnklkblgnfaa
