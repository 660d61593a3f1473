/- Texts of the claim, merged. -/
import Derived.Laws.OwnMore
import Derived.Test.YtnklnklkblgnfaaGreatVra
section
namespace Go.Hir
open Go.Dfl (nth nth_mem mem_nth nth_eq nth_ext)
def nmL : List ByteArray := [⟨#[110, 111, 112]⟩, ⟨#[99, 111, 110, 115, 116]⟩, ⟨#[110, 117, 108, 108]⟩, ⟨#[99, 111, 112, 121]⟩, ⟨#[98, 105, 110]⟩, ⟨#[105, 110, 112, 117, 116]⟩, ⟨#[110, 101, 119]⟩, ⟨#[108, 111, 97, 100]⟩, ⟨#[115, 116, 111, 114, 101]⟩, ⟨#[99, 97, 108, 108]⟩, ⟨#[115, 116, 97, 116, 105, 99]⟩, ⟨#[98, 114, 97, 110, 99, 104]⟩, ⟨#[106, 117, 109, 112]⟩, ⟨#[114, 101, 116, 117, 114, 110]⟩, ⟨#[116, 104, 114, 111, 119]⟩, ⟨#[99, 97, 116, 99, 104]⟩, ⟨#[115, 104, 105, 102, 116]⟩]
def fmL : List ByteArray := [⟨#[]⟩, ⟨#[100, 110]⟩, ⟨#[100]⟩, ⟨#[100, 97]⟩, ⟨#[100, 97, 111, 98]⟩, ⟨#[100]⟩, ⟨#[100, 99]⟩, ⟨#[100, 97, 109]⟩, ⟨#[97, 109, 98]⟩, ⟨#[100, 97, 99, 109, 108]⟩, ⟨#[100, 99, 109, 108]⟩, ⟨#[97, 103]⟩, ⟨#[103]⟩, ⟨#[97]⟩, ⟨#[97]⟩, ⟨#[100, 99]⟩, ⟨#[100, 97, 110]⟩]
def nmP (op : Int) : ByteArray := if 0 ≤ op ∧ op < 17 then nth nmL op.toNat else ⟨#[]⟩
theorem nmL_ne : ∀ k, k < 17 → nth nmL k ≠ ⟨#[]⟩ := fun k hk e => by
 have h : ∀ x ∈ nmL, x.size ≠ 0 := by unfold nmL; intro x hx; simp at hx; rcases hx with rfl | rfl | rfl | rfl | rfl | rfl | rfl | rfl | rfl | rfl | rfl | rfl | rfl | rfl | rfl | rfl | rfl <;> simp [ByteArray.size]
 exact h _ (nth_mem _ _ (by show k < 17; exact hk)) (by rw [e]; rfl)
theorem nmP_ne {op : Int} (h : 0 ≤ op ∧ op < 17) : nmP op ≠ ⟨#[]⟩ := by unfold nmP; rw [if_pos h]; exact nmL_ne _ (by omega)
end Go.Hir
namespace Go.Proofs.YtnklnklkblgnfaaGreat
open Go.RowKit Go.Dfl Go.Obs Go.Hir
open Go.Gra (gen_code gen_calls)
set_option maxHeartbeats 1600000 in
theorem rName_at (k : Nat) (hk : k < 17) (W : World) : Calls Tryz.prog 106 #[.int .i64 (k : Int)] W fun e W' => e = .returned (.string (nth nmL k)) ∧ Below W.heap.size W W' := by
 have HE := Lib.hid ((Env.refl W).alloc [.string ⟨#[110, 111, 112]⟩, .string ⟨#[99, 111, 110, 115, 116]⟩, .string ⟨#[110, 117, 108, 108]⟩, .string ⟨#[99, 111, 112, 121]⟩, .string ⟨#[98, 105, 110]⟩, .string ⟨#[105, 110, 112, 117, 116]⟩, .string ⟨#[110, 101, 119]⟩, .string ⟨#[108, 111, 97, 100]⟩, .string ⟨#[115, 116, 111, 114, 101]⟩, .string ⟨#[99, 97, 108, 108]⟩, .string ⟨#[115, 116, 97, 116, 105, 99]⟩, .string ⟨#[98, 114, 97, 110, 99, 104]⟩, .string ⟨#[106, 117, 109, 112]⟩, .string ⟨#[114, 101, 116, 117, 114, 110]⟩, .string ⟨#[116, 104, 114, 111, 119]⟩, .string ⟨#[99, 97, 116, 99, 104]⟩, .string ⟨#[115, 104, 105, 102, 116]⟩] 9)
 have hki : (k : Int) < 17 := by omega
 have hki2 : ¬ (17 : Int) ≤ (k : Int) := by omega
 have hki3 : ¬ 17 ≤ k := by omega
 go_enter Tryz.func106, Tryz.ntmps106
 go_upto_region 2 with fail
 refine gen_code (fun Z => Env W [fkC W.heap.size [.string ⟨#[110, 111, 112]⟩, .string ⟨#[99, 111, 110, 115, 116]⟩, .string ⟨#[110, 117, 108, 108]⟩, .string ⟨#[99, 111, 112, 121]⟩, .string ⟨#[98, 105, 110]⟩, .string ⟨#[105, 110, 112, 117, 116]⟩, .string ⟨#[110, 101, 119]⟩, .string ⟨#[108, 111, 97, 100]⟩, .string ⟨#[115, 116, 111, 114, 101]⟩, .string ⟨#[99, 97, 108, 108]⟩, .string ⟨#[115, 116, 97, 116, 105, 99]⟩, .string ⟨#[98, 114, 97, 110, 99, 104]⟩, .string ⟨#[106, 117, 109, 112]⟩, .string ⟨#[114, 101, 116, 117, 114, 110]⟩, .string ⟨#[116, 104, 114, 111, 119]⟩, .string ⟨#[99, 97, 116, 99, 104]⟩, .string ⟨#[115, 104, 105, 102, 116]⟩]] Z) HE.out ?_
 intro Z hZ
 obtain ⟨b, hb⟩ : ∃ b, b = W.heap.size := ⟨_, rfl⟩
 rw [← hb] at hZ ⊢
 have hc : ∀ j, j < 17 → Z.cell? ⟨b, j, none⟩ = some (.string (nth nmL j)) := fun j hj => by
  match j, hj with
  | 0, _ => exact hZ.cell 0 rfl 0 rfl
  | 1, _ => exact hZ.cell 0 rfl 1 rfl
  | 2, _ => exact hZ.cell 0 rfl 2 rfl
  | 3, _ => exact hZ.cell 0 rfl 3 rfl
  | 4, _ => exact hZ.cell 0 rfl 4 rfl
  | 5, _ => exact hZ.cell 0 rfl 5 rfl
  | 6, _ => exact hZ.cell 0 rfl 6 rfl
  | 7, _ => exact hZ.cell 0 rfl 7 rfl
  | 8, _ => exact hZ.cell 0 rfl 8 rfl
  | 9, _ => exact hZ.cell 0 rfl 9 rfl
  | 10, _ => exact hZ.cell 0 rfl 10 rfl
  | 11, _ => exact hZ.cell 0 rfl 11 rfl
  | 12, _ => exact hZ.cell 0 rfl 12 rfl
  | 13, _ => exact hZ.cell 0 rfl 13 rfl
  | 14, _ => exact hZ.cell 0 rfl 14 rfl
  | 15, _ => exact hZ.cell 0 rfl 15 rfl
  | 16, _ => exact hZ.cell 0 rfl 16 rfl
  | j + 17, hj => omega
 have o0 := hc k hk
 have HZ := Lib.hid hZ.bel
 obtain ⟨y, hy⟩ : ∃ y, y = nth nmL k := ⟨_, rfl⟩
 rw [← hy] at o0
 have HY := Lib.hid hy
 clear hZ hc hb HE hy
 go_wp2_with fail
 go_ret
 exact ⟨by rw [← HY.out]; rfl, HZ.out⟩
set_option maxHeartbeats 1600000 in
theorem rForm_at (k : Nat) (hk : k < 17) (W : World) : Calls Tryz.prog 151 #[.int .i64 (k : Int)] W fun e W' => e = .returned (.string (nth fmL k)) ∧ Below W.heap.size W W' := by
 have HE := Lib.hid ((Env.refl W).alloc [.string ⟨#[]⟩, .string ⟨#[100, 110]⟩, .string ⟨#[100]⟩, .string ⟨#[100, 97]⟩, .string ⟨#[100, 97, 111, 98]⟩, .string ⟨#[100]⟩, .string ⟨#[100, 99]⟩, .string ⟨#[100, 97, 109]⟩, .string ⟨#[97, 109, 98]⟩, .string ⟨#[100, 97, 99, 109, 108]⟩, .string ⟨#[100, 99, 109, 108]⟩, .string ⟨#[97, 103]⟩, .string ⟨#[103]⟩, .string ⟨#[97]⟩, .string ⟨#[97]⟩, .string ⟨#[100, 99]⟩, .string ⟨#[100, 97, 110]⟩] 9)
 have hki : (k : Int) < 17 := by omega
 have hki2 : ¬ (17 : Int) ≤ (k : Int) := by omega
 have hki3 : ¬ 17 ≤ k := by omega
 go_enter Tryz.func151, Tryz.ntmps151
 go_upto_region 2 with fail
 refine gen_code (fun Z => Env W [fkC W.heap.size [.string ⟨#[]⟩, .string ⟨#[100, 110]⟩, .string ⟨#[100]⟩, .string ⟨#[100, 97]⟩, .string ⟨#[100, 97, 111, 98]⟩, .string ⟨#[100]⟩, .string ⟨#[100, 99]⟩, .string ⟨#[100, 97, 109]⟩, .string ⟨#[97, 109, 98]⟩, .string ⟨#[100, 97, 99, 109, 108]⟩, .string ⟨#[100, 99, 109, 108]⟩, .string ⟨#[97, 103]⟩, .string ⟨#[103]⟩, .string ⟨#[97]⟩, .string ⟨#[97]⟩, .string ⟨#[100, 99]⟩, .string ⟨#[100, 97, 110]⟩]] Z) HE.out ?_
 intro Z hZ
 obtain ⟨b, hb⟩ : ∃ b, b = W.heap.size := ⟨_, rfl⟩
 rw [← hb] at hZ ⊢
 have hc : ∀ j, j < 17 → Z.cell? ⟨b, j, none⟩ = some (.string (nth fmL j)) := fun j hj => by
  match j, hj with
  | 0, _ => exact hZ.cell 0 rfl 0 rfl
  | 1, _ => exact hZ.cell 0 rfl 1 rfl
  | 2, _ => exact hZ.cell 0 rfl 2 rfl
  | 3, _ => exact hZ.cell 0 rfl 3 rfl
  | 4, _ => exact hZ.cell 0 rfl 4 rfl
  | 5, _ => exact hZ.cell 0 rfl 5 rfl
  | 6, _ => exact hZ.cell 0 rfl 6 rfl
  | 7, _ => exact hZ.cell 0 rfl 7 rfl
  | 8, _ => exact hZ.cell 0 rfl 8 rfl
  | 9, _ => exact hZ.cell 0 rfl 9 rfl
  | 10, _ => exact hZ.cell 0 rfl 10 rfl
  | 11, _ => exact hZ.cell 0 rfl 11 rfl
  | 12, _ => exact hZ.cell 0 rfl 12 rfl
  | 13, _ => exact hZ.cell 0 rfl 13 rfl
  | 14, _ => exact hZ.cell 0 rfl 14 rfl
  | 15, _ => exact hZ.cell 0 rfl 15 rfl
  | 16, _ => exact hZ.cell 0 rfl 16 rfl
  | j + 17, hj => omega
 have o0 := hc k hk
 have HZ := Lib.hid hZ.bel
 obtain ⟨y, hy⟩ : ∃ y, y = nth fmL k := ⟨_, rfl⟩
 rw [← hy] at o0
 have HY := Lib.hid hy
 clear hZ hc hb HE hy
 go_wp2_with fail
 go_ret
 exact ⟨by rw [← HY.out]; rfl, HZ.out⟩
set_option maxHeartbeats 1600000 in
theorem rName_any (op : Int) (W : World) : Calls Tryz.prog 106 #[.int .i64 op] W fun e W' => e = .returned (.string (nmP op)) ∧ Below W.heap.size W W' := by
 by_cases h : 0 ≤ op ∧ op < 17
 ·obtain ⟨k, rfl⟩ : ∃ k : Nat, op = (k : Int) := ⟨op.toNat, by omega⟩
  have := rName_at k (by omega) W
  unfold nmP
  rw [if_pos h, Int.toNat_natCast]
  exact this
 ·have HE := Lib.hid ((Env.refl W).alloc [.string ⟨#[110, 111, 112]⟩, .string ⟨#[99, 111, 110, 115, 116]⟩, .string ⟨#[110, 117, 108, 108]⟩, .string ⟨#[99, 111, 112, 121]⟩, .string ⟨#[98, 105, 110]⟩, .string ⟨#[105, 110, 112, 117, 116]⟩, .string ⟨#[110, 101, 119]⟩, .string ⟨#[108, 111, 97, 100]⟩, .string ⟨#[115, 116, 111, 114, 101]⟩, .string ⟨#[99, 97, 108, 108]⟩, .string ⟨#[115, 116, 97, 116, 105, 99]⟩, .string ⟨#[98, 114, 97, 110, 99, 104]⟩, .string ⟨#[106, 117, 109, 112]⟩, .string ⟨#[114, 101, 116, 117, 114, 110]⟩, .string ⟨#[116, 104, 114, 111, 119]⟩, .string ⟨#[99, 97, 116, 99, 104]⟩, .string ⟨#[115, 104, 105, 102, 116]⟩] 9)
  have he : nmP op = ⟨#[]⟩ := if_neg h
  rw [he]
  by_cases h0 : op < 0
  ·clear h he
   go_enter Tryz.func106, Tryz.ntmps106
   go_wp2_with fail
   go_ret
   exact ⟨rfl, HE.out.bel⟩
  ·have h1 : 17 ≤ op := by omega
   clear h he
   go_enter Tryz.func106, Tryz.ntmps106
   go_wp2_with fail
   go_ret
   exact ⟨rfl, HE.out.bel⟩
end Go.Proofs.YtnklnklkblgnfaaGreat
end
section
namespace Go.Hir
open Go.Dfl (nth nth_mem mem_nth nth_eq nth_ext)
def bt (s : ByteArray) (j : Nat) : Nat := if h : j < s.size then (s[j]).toNat else 0
def hit (ch c : Nat) : Bool := c == ch || (ch == 110 && c == 111)
theorem form_at : ∀ k : Nat, k < 17 → form (k : Int) = (List.range (nth fmL k).size).map (bt (nth fmL k)) := by
 intro k hk
 match k, hk with
 | 0, _ => exact by decide
 | 1, _ => exact by decide
 | 2, _ => exact by decide
 | 3, _ => exact by decide
 | 4, _ => exact by decide
 | 5, _ => exact by decide
 | 6, _ => exact by decide
 | 7, _ => exact by decide
 | 8, _ => exact by decide
 | 9, _ => exact by decide
 | 10, _ => exact by decide
 | 11, _ => exact by decide
 | 12, _ => exact by decide
 | 13, _ => exact by decide
 | 14, _ => exact by decide
 | 15, _ => exact by decide
 | 16, _ => exact by decide
 | k + 17, hk => omega
theorem hasB_at {k ch : Nat} (hk : k < 17) : hasB (k : Int) ch = true ↔ ∃ j, j < (nth fmL k).size ∧ hit ch (bt (nth fmL k) j) = true := by
 unfold hasB
 rw [form_at k hk]
 unfold hit
 simp only [Bool.or_eq_true, Bool.and_eq_true, beq_iff_eq, List.contains_iff_mem, List.mem_map, List.mem_range]
 constructor
 ·rintro (⟨j, hj, h⟩ | ⟨h1, j, hj, h⟩)
  ·exact ⟨j, hj, .inl h⟩
  ·exact ⟨j, hj, .inr ⟨h1, h⟩⟩
 ·rintro ⟨j, hj, h | ⟨h1, h⟩⟩
  ·exact .inl ⟨j, hj, h⟩
  ·exact .inr ⟨h1, j, hj, h⟩
end Go.Hir
namespace Go.Proofs.YtnklnklkblgnfaaGreat
open Go.RowKit Go.Dfl Go.Obs Go.Hir
open Go.Gra (gen_code gen_calls)
set_option maxHeartbeats 1600000 in
theorem rHas_at (k ch : Nat) (hk : k < 17) (W : World) : Calls Tryz.prog 135 #[.int .i64 (k : Int), .int .u8 (ch : Int)] W fun e W' => e = .returned (.bool (hasB (k : Int) ch)) ∧ Below W.heap.size W W' := by
 go_enter Tryz.func135, Tryz.ntmps135
 go_wp2_with fail
 refine (rName_any _ _).mono ?_
 rintro e W1 ⟨rfl, b1⟩
 obtain ⟨y, hy⟩ : ∃ y, y = nmP (k : Int) := ⟨_, rfl⟩
 have t0 := tl_ne (nmP_ne (op := (k : Int)) (by omega))
 have t1 := te_ne (nmP_ne (op := (k : Int)) (by omega))
 rw [← hy] at t0 t1 ⊢
 have H1 := Lib.hid b1
 clear b1 hy
 go_wp2_with fail
 refine (rForm_at k hk _).mono ?_
 rintro e W2 ⟨rfl, b2⟩
 have H2 := Lib.hid (H1.out.trans (b2.mono H1.out.size))
 obtain ⟨s, hs⟩ : ∃ s, s = nth fmL k := ⟨_, rfl⟩
 rw [← hs]
 have hsz : s.size ≤ 8 := by
  have h : ∀ x ∈ fmL, x.size ≤ 8 := by unfold fmL; intro x hx; simp at hx; rcases hx with rfl | rfl | rfl | rfl | rfl | rfl | rfl | rfl | rfl | rfl | rfl | rfl | rfl | rfl | rfl | rfl | rfl <;> simp [ByteArray.size]
  rw [hs]; exact h _ (nth_mem _ _ hk)
 have HS := Lib.hid hs
 clear b2 hs t0 t1
 go_wp2_with fail
 go_loop [6] (fun x => ∃ j : Nat, j ≤ s.size ∧ x = .int .i64 (j : Int) ∧ Hid (∀ i, i < j → hit ch (bt s i) = false)) (fun x => s.size - (intOf x).toNat)
 case atStart => exact ⟨0, by omega, rfl, fun i hi => by omega⟩
 case round =>
  obtain ⟨j, hj, rfl, hh⟩ := hrel
  by_cases hlt : j < s.size
  ·have hji : (j : Int) < (s.size : Int) := by omega
   have hix : ∀ W, (Instr.index 9 (.string s) (.int .i64 (j : Int))).run Tryz.prog W = .ok (.int .u8 (bt s j : Int)) W := fun W => by
    rw [run_index_string 9 s .i64 _ Tryz.underlying9 (w := W), dif_pos ⟨by omega, by omega⟩]
    simp only [Int.toNat_natCast]
    unfold bt
    rw [dif_pos hlt]
   have hnew : Hid (hit ch (bt s j) = true → hasB (k : Int) ch = true) := Lib.hid fun h => (hasB_at hk).2 ⟨j, by rw [← HS.out]; exact hlt, by rw [← HS.out]; exact h⟩
   have hnext : Hid (hit ch (bt s j) = false → ∀ i, i < j + 1 → hit ch (bt s i) = false) := Lib.hid fun h i hi => by
    by_cases e : i = j
    ·rw [e]; exact h
    ·exact hh.out i (by omega)
   obtain ⟨c, hc⟩ : ∃ c, c = bt s j := ⟨_, rfl⟩
   rw [← hc] at hix hnew hnext
   clear hc
   by_cases h1 : c = ch
   ·have HT := Lib.hid (hnew.out (by unfold hit; simp [h1]))
    subst h1
    go_wp2_with fail
    go_ret
    exact ⟨by rw [HT.out]; rfl, H2.out⟩
   ·have h1i : ((c : Int) == (ch : Int)) = false := by simp; omega
    by_cases h2 : ch = 110
    ·subst h2
     by_cases h3 : c = 111
     ·have HT := Lib.hid (hnew.out (by unfold hit; simp [h3]))
      subst h3
      go_wp2_with fail
      go_ret
      exact ⟨by rw [HT.out]; rfl, H2.out⟩
     ·have h3i : ((c : Int) == 111) = false := by simp; omega
      have HT := Lib.hid (hnext.out (by unfold hit; simp [h1, h3]))
      go_wp2_with fail
      go_round
      case rel => exact ⟨j + 1, by omega, by go_num, HT.out⟩
      case measure => simp [intOf]; omega
    ·have h2i : ((ch : Int) == 110) = false := by simp; omega
     have HT := Lib.hid (hnext.out (by unfold hit; simp [h1, h2]))
     go_wp2_with fail
     go_round
     case rel => exact ⟨j + 1, by omega, by go_num, HT.out⟩
     case measure => simp [intOf]; omega
  ·obtain rfl : j = s.size := by omega
   have HT := Lib.hid (show hasB (k : Int) ch = false by
    rw [Bool.eq_false_iff]
    intro h
    obtain ⟨i, hi, e⟩ := (hasB_at hk).1 h
    rw [← HS.out] at hi e
    rw [hh.out i hi] at e; cases e)
   clear hlt hj
   go_wp2_with fail
   go_ret
   exact ⟨by rw [HT.out]; rfl, H2.out⟩
set_option maxHeartbeats 800000 in
theorem rHas_any (op : Int) (ch : Nat) (W : World) : Calls Tryz.prog 135 #[.int .i64 op, .int .u8 (ch : Int)] W fun e W' => e = .returned (.bool (hasB op ch)) ∧ Below W.heap.size W W' := by
 by_cases h : 0 ≤ op ∧ op < 17
 ·obtain ⟨k, rfl⟩ : ∃ k : Nat, op = (k : Int) := ⟨op.toNat, by omega⟩
  exact rHas_at k ch (by omega) W
 ·have he : nmP op = ⟨#[]⟩ := if_neg h
  have hb : hasB op ch = false := by
   have hf : form op = [] := by unfold form; repeat rw [if_neg (by omega)]
   unfold hasB; rw [hf]; simp
  rw [hb]
  have HE := Lib.hid he
  clear hb h he
  go_enter Tryz.func135, Tryz.ntmps135
  go_wp2_with fail
  refine (rName_any _ _).mono ?_
  rintro e W1 ⟨rfl, b1⟩
  rw [HE.out]
  have H1 := Lib.hid b1
  clear b1
  go_wp2_with fail
  go_ret
  exact ⟨rfl, H1.out⟩
end Go.Proofs.YtnklnklkblgnfaaGreat
end
section
namespace Go.Dfl
section
variable {α : Type} [Inhabited α] {E : El α}
theorem set_ext {l : List α} {i : Nat} {y : α} {j : Nat} (h : j < l.length) : nth (l.set i y) j = if i = j then y else nth l j := by
 rw [nth_set]
 by_cases e : i = j
 ·rw [if_pos ⟨e, by omega⟩, if_pos e]
 ·rw [if_neg (fun h => e h.1), if_neg e]
theorem flat_set (l : List α) (i j : Nat) (_hi : i < l.length) (hj : j < E.sz) (y : α) (x : Value) (hy : E.c y = (E.c (nth l i)).set j x) : (l.set i y).flatMap E.c = (l.flatMap E.c).set (i * E.sz + j) x := by
 refine List.ext_getElem? fun q => ?_
 have hlen : (l.set i y).length = l.length := List.length_set
 by_cases hq : q < l.length * E.sz
 ·have hp := E.pos
  have hqd : q = q / E.sz * E.sz + q % E.sz := by have := Nat.div_add_mod q E.sz; rw [Nat.mul_comm] at this; omega
  have h1 : q / E.sz < l.length := (Nat.div_lt_iff_lt_mul hp).2 hq
  have h2 : q % E.sz < E.sz := Nat.mod_lt _ hp
  rw [hqd, flat_get E _ _ _ (by omega) h2, set_ext h1, List.getElem?_set]
  by_cases e : i = q / E.sz
  ·rw [if_pos e, hy, List.getElem?_set]
   by_cases e2 : j = q % E.sz
   ·rw [if_pos e2, if_pos (by rw [E.len]; exact hj), if_pos (by rw [e, e2]), if_pos (by rw [flat_len, e, e2, ← hqd]; exact hq)]
   ·rw [if_neg e2, if_neg (by rw [e]; omega), e, flat_get E _ _ _ h1 h2]
  ·have hne : i * E.sz + j ≠ q / E.sz * E.sz + q % E.sz := fun h => e (by
    have a1 : (i * E.sz + j) / E.sz = i := by rw [Nat.mul_comm, Nat.mul_add_div hp, Nat.div_eq_of_lt hj, Nat.add_zero]
    rw [h, ← hqd] at a1; exact a1.symm)
   rw [if_neg e, if_neg hne, flat_get E _ _ _ h1 h2]
 ·rw [List.getElem?_eq_none (by rw [flat_len, hlen]; omega), List.getElem?_eq_none (by rw [List.length_set, flat_len]; omega)]
theorem OwnE.upd {w : World} {base : Nat} {e : TypeId} {a : Option Addr} {c : Nat} {l : List α} (h : OwnE E w base e (.slice a l.length c) l) (i j : Nat) (hi : i < l.length) (hj : j < E.sz) (y : α) (x : Value) (hy : E.c y = (E.c (nth l i)).set j x) :
  OwnE E (w.setCell ⟨blk a, ofs a + (i * E.sz + j), none⟩ x) base e (.slice a l.length c) (l.set i y) ∧ w.grownBy (w.setCell ⟨blk a, ofs a + (i * E.sz + j), none⟩ x) (Value.slice a l.length c).ownBlock ∧ w.frozen? ⟨blk a, ofs a + (i * E.sz + j), none⟩ = false ∧ w.cell? ⟨blk a, ofs a + (i * E.sz + j), none⟩ = (E.c (nth l i))[j]? := by
 have h0 := h
 obtain ⟨h1, ⟨h9, h2⟩ | ⟨g, cap, cur, hv, hg, hh, hc, hm, hsz, htk⟩⟩ := h
 ·omega
 simp only [Value.slice.injEq] at hv
 obtain ⟨rfl, -, rfl⟩ := hv
 have hlt : i * E.sz + j < l.length * E.sz := by
  have : i * E.sz + E.sz ≤ l.length * E.sz := by rw [← Nat.succ_mul]; exact Nat.mul_le_mul_right _ hi
  omega
 have e1 : (⟨blk (some ⟨g, 0, none⟩), ofs (some ⟨g, 0, none⟩) + (i * E.sz + j), none⟩ : Addr) = ⟨g, i * E.sz + j, none⟩ := by simp [blk, ofs]
 rw [e1]
 refine ⟨?_, ?_, World.ownsRow.frozenAt h0 _, ?_⟩
 ·have := World.ownsRow.stored h0 (i * E.sz + j) x
  unfold OwnE
  rw [List.length_set, flat_set l i j hi hj y x hy]
  exact this.1
 ·exact grownBy_setCell _ _ _
 ·rw [World.ownsRow.cellAt h0 _ hlt, flat_get E _ _ _ hi hj]
omit [Inhabited α] in
theorem OwnE.front {P : Program} {t e : TypeId} {z : Value} {by8 : Nat} (ht : SliceOf P t e z E.sz by8) {w : World} {base : Nat} {a : Option Addr} {c : Nat} {l : List α} (h : OwnE E w base e (.slice a l.length c) l) (k : Nat) (hk : k ≤ l.length) :
  (∀ W, (Instr.slice t (.slice a l.length c) none (some (.int .i64 (k : Int))) none).run P W = .ok (.slice a k c) W) ∧ OwnE E w base e (.slice a k c) (l.take k) := by
 obtain ⟨i, hi, _, hs, _⟩ := ht.info
 have hlt : (l.take k).length = k := by simp; omega
 obtain ⟨h1, ⟨hv, h2⟩ | ⟨g, cap, cur, hv, hg, hh, hc, hm, hsz, htk⟩⟩ := h
 ·obtain rfl : k = 0 := by omega
  have hl : l = [] := List.eq_nil_of_length_eq_zero h2
  subst hl
  simp only [Value.slice.injEq] at hv
  obtain ⟨rfl, -, rfl⟩ := hv
  refine ⟨fun W => ?_, OwnE.nil _ _ _ _⟩
  simp [Instr.slice, run_underlying ht.und, Instr.sliceBounds, Instr.sliceBound, asIntOf, run_sizeOf _ hi]
 ·simp only [Value.slice.injEq] at hv
  obtain ⟨rfl, -, rfl⟩ := hv
  refine ⟨fun W => ?_, ⟨by rw [flat_len], .inr ⟨g, c, cur, by rw [hlt], hg, hh, by omega, hm, hsz, ?_⟩⟩⟩
  ·have h1' : k ≤ c := by omega
   simp [Instr.slice, run_underlying ht.und, Instr.sliceBounds, Instr.sliceBound, asIntOf, h1', run_sizeOf _ hi, Addr.add]
  ·rw [hlt, flat_take l k hk, ← htk, List.take_take, Nat.min_eq_left (Nat.mul_le_mul_right _ hk)]
end
end Go.Dfl
end
section
namespace Go.Hir
open Go.Obs
def cA (x : Is) : Bool := hasB x.op 97 && (x.op != 13 || x.a != -1)
def usA (x : Is) : List Int := if cA x = true then [x.a] else []
def usB (x : Is) : List Int := if hasB x.op 98 = true then [x.b] else []
def usC (x : Is) : List Int := if hasB x.op 108 = true then x.ar else []
def usL (x : Is) : List Int := usA x ++ usB x ++ usC x
end Go.Hir
namespace Go.Proofs.YtnklnklkblgnfaaGreat
open Go.RowKit Go.Dfl Go.Obs Go.Hir
open Go.Gra (gen_code gen_calls)
def elI1 : El Int := ⟨1, fun s => [.int .i64 s], fun _ => rfl, fun x v hv => by simp at hv; rw [hv]; rfl, by omega⟩
theorem sInt1 : SliceOf Tryz.prog 85 3 (.int .i64 0) 1 8 := ⟨Tryz.underlying85, info_parts (P := Tryz.prog) (e := 3) (by kernel_rfl)⟩
theorem own_inI {W : World} {B : Nat} {v : Value} {l : List Int} (h : OwnE elI1 W B 3 v l) (hl : ∀ x ∈ l, inI x) : InS vI W v l :=
 ⟨_, OwnE.sliced h, fun i hi => by
  refine ⟨?_, hl _ (nth_mem _ _ hi)⟩
  show (List.range 1).map _ = _
  simp [elI1]⟩
theorem InS.ints1 {W : World} {v : Value} {l : List Int} (h : InS vI W v l) : ∃ a c, v = .slice a l.length c ∧ l.length ≤ 9223372036854775807 ∧
  (∀ x : Int, 0 ≤ x → x < l.length → ∀ W, (Instr.indexAt 85 (.slice a l.length c) (.int .i64 x)).run Tryz.prog W = .ok (.pointer (some ⟨blk a, ofs a + x.toNat, none⟩)) W) ∧
  ∀ i, i < l.length → blk a < W.heap.size ∧ inI (nth l i) ∧ ∀ Z, Below W.heap.size W Z → Z.cell? ⟨blk a, ofs a + i, none⟩ = some (.int .i64 (nth l i)) := by
 obtain ⟨oa, oc, he, hl, hi, hc⟩ := InS.out h sInt1
 refine ⟨oa, oc, he, hl, fun x h0 h1 W => by have := hi x h0 h1 W; simpa [vI] using this, fun i hil => ?_⟩
 obtain ⟨h1, cs, hok, h3⟩ := hc i hil
 obtain ⟨rfl, hb⟩ := hok
 exact ⟨h1, hb, fun Z hZ => by have := h3 Z hZ 0 (by decide); simpa [vI, nth] using this⟩
theorem InS.inI_all {W : World} {v : Value} {l : List Int} (h : InS vI W v l) : ∀ x ∈ l, inI x := fun x hx => by
 obtain ⟨i, hi, rfl⟩ := mem_nth hx
 obtain ⟨_, h2⟩ := h
 exact (h2.2 i hi).2
theorem InS.srcI {W Z : World} {v : Value} {l : List Int} (h : InS vI W v l) (hZ : Below W.heap.size W Z) : SrcE elI1 Z v l := by
 have h' := h
 obtain ⟨oa, oc, he, hl, hi, hc⟩ := InS.ints1 h
 obtain ⟨c, ⟨a0, cap, he2, h1, h2, h3⟩, h4⟩ := h'
 rw [he] at he2
 injection he2 with e1 e2 e3
 subst e1
 refine ⟨oa, oc, he, fun hn => ?_, fun j y hj => ?_⟩
 ·rcases Nat.eq_zero_or_pos l.length with h0 | h0
  ·exact h0
  ·obtain ⟨ha, -, -⟩ := h3 0 h0
   rw [hn] at ha; cases ha
 ·have hfl : l.flatMap elI1.c = l.map fun x => .int .i64 x := by
   show l.flatMap (fun x => [Value.int .i64 x]) = _
   rw [← List.map_eq_flatMap]
  rw [hfl] at hj
  have hjl : j < l.length := by
   rcases Nat.lt_or_ge j l.length with h0 | h0
   ·exact h0
   ·rw [List.getElem?_eq_none (by simpa using h0)] at hj; cases hj
  obtain ⟨ha, -, -⟩ := h3 0 (by omega)
  refine ⟨_, ha, ?_⟩
  have h5 := (hc j hjl).2.2 Z hZ
  rw [List.getElem?_map, List.getElem?_eq_getElem hjl] at hj
  simp at hj
  rw [← hj, ← nth_eq l j hjl]
  unfold Addr.add
  split
  ·next h0 => subst h0; exact h5
  ·exact h5
abbrev isV (x : Is) (v : Value) : Value := .agg #[.int .i64 x.op, .int .i64 x.d, .int .i64 x.a, .int .i64 x.b, .int .i64 x.n, .string x.c, .string x.m, v, .int .i64 x.g, .int .i64 x.ct]
abbrev isC' (x : Is) (v : Value) : List Value := [.int .i64 x.op, .int .i64 x.d, .int .i64 x.a, .int .i64 x.b, .int .i64 x.n, .string x.c, .string x.m, v, .int .i64 x.g, .int .i64 x.ct]
set_option maxHeartbeats 6400000 in
theorem rUses_any (x : Is) (v : Value) (W : World) (h : InS vI W v x.ar) (hl : x.ar.length ≤ 1048576) (ha : inI x.a) (hb : inI x.b) :
  Calls Tryz.prog 136 #[isV x v] W fun e W' => ∃ a c, e = .returned (.slice a (usL x).length c) ∧ InS vI W' (.slice a (usL x).length c) (usL x) ∧ Below W.heap.size W W' := by
 have HE := Lib.hid (And.intro ((Env.refl W).alloc (isC' x v) 87) (show W.heap.size + 1 ≤ (W.alloc (.cells (isC' x v).toArray 87)).heap.size by rw [World.size_alloc]; omega))
 obtain ⟨va, vc, rfl⟩ := h.shape
 have HC := Lib.hid (And.intro h (And.intro ha (And.intro hb hl)))
 have hal : x.ar.length ≤ 1048576 := hl
 obtain ⟨an, han⟩ : ∃ an, an = x.ar.length := ⟨_, rfl⟩
 rw [← han] at HE hal ⊢
 have HAN := Lib.hid han
 clear h ha hb hl han
 unfold isV
 go_enter Tryz.func136, Tryz.ntmps136
 go_upto_region 2 with fail
 refine gen_code (fun Z => Env W [fkC W.heap.size (isC' x (.slice va an vc))] Z ∧ W.heap.size + 1 ≤ Z.heap.size) HE.out ?_
 intro Z hZ
 obtain ⟨b, hb⟩ : ∃ b, b = W.heap.size := ⟨_, rfl⟩
 rw [← hb] at hZ ⊢
 have HZ := Lib.hid (And.intro hZ.1 (And.intro hZ.2 hb))
 have d0 := hZ.1.cell 0 rfl 0 rfl
 have d2 := hZ.1.cell 0 rfl 2 rfl
 clear hZ hb HE
 obtain ⟨qa, hqa⟩ : ∃ q, q = cA x := ⟨_, rfl⟩
 have HQA := Lib.hid hqa
 clear hqa
 go_cut [16] (fun q wx => q = .bool qa ∧ Env W [fkC b (isC' x (.slice va an vc))] wx ∧ b + 1 ≤ wx.heap.size)
 case first =>
  go_wp2_with fail
  refine (rHas_any x.op 97 _).mono ?_
  rintro e W1 ⟨rfl, b1⟩
  have H1 := Lib.hid (And.intro (HZ.out.1.below b1) (Nat.le_trans HZ.out.2.1 b1.size))
  obtain ⟨ba, hba⟩ : ∃ ba, ba = hasB x.op 97 := ⟨_, rfl⟩
  rw [← hba]
  have HBA := Lib.hid hba
  have e0 := H1.out.1.cell 0 rfl 0 rfl
  have e2 := H1.out.1.cell 0 rfl 2 rfl
  clear b1 d0 d2 hba
  cases ba
  ·have HT := Lib.hid (show qa = false by rw [HQA.out]; unfold cA; rw [← HBA.out]; rfl)
   go_wp2_with fail
   go_meet
   case rel => exact ⟨by rw [HT.out], H1.out⟩
  ·by_cases h13 : x.op = 13
   ·have t13 : (x.op != 13) = false := by simp [h13]
    have t13' : (x.op == 13) = true := by simp [h13]
    by_cases ha1 : x.a = -1
    ·have t1 : (x.a != -1) = false := by simp [ha1]
     have t1' : (x.a == -1) = true := by simp [ha1]
     have HT := Lib.hid (show qa = false by rw [HQA.out]; unfold cA; rw [← HBA.out, h13, ha1]; rfl)
     clear h13 ha1
     go_wp2_with fail
     go_meet
     case rel => exact ⟨by rw [HT.out], H1.out⟩
    ·have t1 : (x.a != -1) = true := by simpa using ha1
     have t1' : (x.a == -1) = false := by simpa using ha1
     have HT := Lib.hid (show qa = true by rw [HQA.out]; unfold cA; rw [← HBA.out, t1]; simp)
     clear h13 ha1
     go_wp2_with fail
     go_meet
     case rel => exact ⟨by rw [HT.out], H1.out⟩
   ·have t13 : (x.op != 13) = true := by simpa using h13
    have t13' : (x.op == 13) = false := by simpa using h13
    have HT := Lib.hid (show qa = true by rw [HQA.out]; unfold cA; rw [← HBA.out, t13]; rfl)
    clear h13
    go_wp2_with fail
    go_meet
    case rel => exact ⟨by rw [HT.out], H1.out⟩
 case rest =>
 obtain ⟨rfl, h1, h2⟩ := hcut
 have H1 := Lib.hid (And.intro h1 h2)
 clear h1 h2 d0 d2
 have HL1 := Lib.hid (show (usA x).length ≤ 1 by unfold usA; split <;> simp)
 go_upto_if 16 with fail
 go_cut [3] (fun y wx => ∃ a1 c1, y = .slice a1 (usA x).length c1 ∧ OwnE elI1 wx (b + 1) 3 (.slice a1 (usA x).length c1) (usA x) ∧ Env W [fkC b (isC' x (.slice va an vc))] wx ∧ b + 1 ≤ wx.heap.size)
 case first =>
  cases qa
  ·have hl : usA x = [] := by unfold usA; rw [← HQA.out]; rfl
   go_wp2_with fail
   go_meet
   case rel => exact ⟨none, 0, by rw [hl]; rfl, by rw [hl]; exact OwnE.nil _ _ _ _, H1.out⟩
  ·have HL := Lib.hid (show usA x = [x.a] by unfold usA; rw [← HQA.out]; rfl)
   have e2 := H1.out.1.cell 0 rfl 2 rfl
   have HP := Lib.hid (And.intro (OwnE.nil elI1 wc (b + 1) 3) H1.out)
   have hO := OwnE.grown HP.out.1 (grownBy_alloc wc (.cells #[.int .i64 x.a] 3)) (by first | exact .inl rfl | (cases (.slice none 0 0 : Value).ownBlock <;> simp))
   have hEn := HP.out.2.1.grown1 (grownBy_alloc wc (.cells #[.int .i64 x.a] 3)) (fun q e => by cases e)
   have HO := Lib.hid (And.intro hO hEn)
   have hl1 : (([] : List Int).length + 1) * 8 ≤ 140737488355328 := by first | decide | (simp; omega) | omega
   have hl2 : ([] : List Int).length + 1 ≤ 1000000000000 := by first | decide | (simp; omega) | omega
   have hl3 : b + 1 ≤ (wc.alloc (.cells #[.int .i64 x.a] 3)).heap.size := by rw [World.size_alloc]; have := HP.out.2.2; omega
   clear hO hEn
   go_wp2_with (at_builtin; refine wp_appendE (E := elI1) sInt1 rfl rfl _ _ rfl (v := .slice none 0 0) (l := ([] : List Int)) (base := b + 1) rfl wc.heap.size rfl HO.out.1 x.a (cells_new (W := wc) (cs := [.int .i64 x.a]) (t := 3) rfl) hl1 hl2 hl3 ?_; intro v' w3 hown hgr hat; obtain ⟨s9, c9, rfl⟩ := hown.shape (n := 0 + 1) (by simp); have hE3 := HO.out.2.grown1 hgr (fun q e => by have h1 := (OwnE.lt HO.out.1 q e).1; have h2 := HZ.out.2.2; omega); have hz3 := Nat.le_trans hl3 hgr.size; have H3 := Lib.hid (And.intro hown (And.intro hE3 hz3)); clear hown hgr hat hE3 hz3)
   go_meet
   case rel => exact ⟨s9, c9, by rw [HL.out]; rfl, by rw [HL.out]; exact H3.out⟩
 case rest =>
 obtain ⟨a1, c1, rfl, h1, h2⟩ := hcut
 have HP0 := Lib.hid (And.intro h1 h2)
 have d0 := h2.1.cell 0 rfl 0 rfl
 clear h1 h2 HQA H1
 go_wp2_with fail
 refine (rHas_any x.op 98 _).mono ?_
 rintro e W3 ⟨rfl, b3⟩
 obtain ⟨qb, hqb⟩ : ∃ q, q = hasB x.op 98 := ⟨_, rfl⟩
 rw [← hqb]
 have HQB := Lib.hid hqb
 have HP := Lib.hid (And.intro (OwnE.grown HP0.out.1 (grownBy_below b3) (by cases (Value.slice a1 (usA x).length c1).ownBlock <;> simp)) (And.intro (HP0.out.2.1.below b3) (Nat.le_trans HP0.out.2.2 b3.size)))
 clear hqb b3 d0 HP0
 go_upto_if 24 with fail
 go_cut [3] (fun y wx => ∃ a1 c1, y = .slice a1 (usA x ++ usB x).length c1 ∧ OwnE elI1 wx (b + 1) 3 (.slice a1 (usA x ++ usB x).length c1) (usA x ++ usB x) ∧ Env W [fkC b (isC' x (.slice va an vc))] wx ∧ b + 1 ≤ wx.heap.size)
 case first =>
  cases qb
  ·have hl : usB x = [] := by unfold usB; rw [← HQB.out]; rfl
   go_wp2_with fail
   go_meet
   case rel => exact ⟨a1, c1, by rw [hl, List.append_nil], by rw [hl, List.append_nil]; exact HP.out⟩
  ·have HL := Lib.hid (show usB x = [x.b] by unfold usB; rw [← HQB.out]; rfl)
   have e2 := HP.out.2.1.cell 0 rfl 3 rfl
   have hlA := HL1.out
   obtain ⟨wc, hwc⟩ : ∃ w, w = W3 := ⟨_, rfl⟩
   rw [← hwc] at HP e2 ⊢
   clear hwc
   have hO := OwnE.grown HP.out.1 (grownBy_alloc wc (.cells #[.int .i64 x.b] 3)) (by first | exact .inl rfl | (cases (.slice a1 (usA x).length c1 : Value).ownBlock <;> simp))
   have hEn := HP.out.2.1.grown1 (grownBy_alloc wc (.cells #[.int .i64 x.b] 3)) (fun q e => by cases e)
   have HO := Lib.hid (And.intro hO hEn)
   have hl1 : ((usA x).length + 1) * 8 ≤ 140737488355328 := by first | decide | (simp; omega) | omega
   have hl2 : (usA x).length + 1 ≤ 1000000000000 := by first | decide | (simp; omega) | omega
   have hl3 : b + 1 ≤ (wc.alloc (.cells #[.int .i64 x.b] 3)).heap.size := by rw [World.size_alloc]; have := HP.out.2.2; omega
   clear hO hEn
   go_wp2_with (at_builtin; refine wp_appendE (E := elI1) sInt1 rfl rfl _ _ rfl (v := .slice a1 (usA x).length c1) (l := (usA x)) (base := b + 1) rfl wc.heap.size rfl HO.out.1 x.b (cells_new (W := wc) (cs := [.int .i64 x.b]) (t := 3) rfl) hl1 hl2 hl3 ?_; intro v' w3 hown hgr hat; obtain ⟨s9, c9, rfl⟩ := hown.shape (n := (usA x).length + 1) (by simp); have hE3 := HO.out.2.grown1 hgr (fun q e => by have h1 := (OwnE.lt HO.out.1 q e).1; have h2 := HZ.out.2.2; omega); have hz3 := Nat.le_trans hl3 hgr.size; have H3 := Lib.hid (And.intro hown (And.intro hE3 hz3)); clear hown hgr hat hE3 hz3)
   go_meet
   case rel => exact ⟨s9, c9, by rw [HL.out]; simp, by rw [HL.out, List.length_append, List.length_singleton]; exact H3.out⟩
 case rest =>
 obtain ⟨a2, c2, rfl, h1, h2⟩ := hcut
 have HP0 := Lib.hid (And.intro h1 h2)
 have d0 := h2.1.cell 0 rfl 0 rfl
 have HL2 := Lib.hid (show (usA x ++ usB x).length ≤ 2 by rw [List.length_append]; have := HL1.out; unfold usB; split <;> simp <;> omega)
 clear h1 h2 HQB HP HL1
 obtain ⟨l2, hl2⟩ : ∃ l, l = usA x ++ usB x := ⟨_, rfl⟩
 rw [← hl2] at HP0 HL2 ⊢
 have HLL := Lib.hid hl2
 clear hl2
 go_wp2_with fail
 refine (rHas_any x.op 108 _).mono ?_
 rintro e W4 ⟨rfl, b4⟩
 obtain ⟨qc, hqc⟩ : ∃ q, q = hasB x.op 108 := ⟨_, rfl⟩
 rw [← hqc]
 have HQC := Lib.hid hqc
 have HP := Lib.hid (And.intro (OwnE.grown HP0.out.1 (grownBy_below b4) (by cases (Value.slice a2 l2.length c2).ownBlock <;> simp)) (And.intro (HP0.out.2.1.below b4) (Nat.le_trans HP0.out.2.2 b4.size)))
 clear hqc b4 d0 HP0
 have HIN := Lib.hid (show ∀ y ∈ usL x, inI y from fun y hy => by
  unfold usL at hy
  rcases List.mem_append.1 hy with hy | hy
  ·rcases List.mem_append.1 hy with hy | hy
   ·unfold usA at hy
    split at hy
    ·rw [List.mem_singleton.1 hy]; exact HC.out.2.1
    ·cases hy
   ·unfold usB at hy
    split at hy
    ·rw [List.mem_singleton.1 hy]; exact HC.out.2.2.1
    ·cases hy
  ·unfold usC at hy
   split at hy
   ·exact InS.inI_all HC.out.1 y hy
   ·cases hy)
 cases qc
 ·have HL := Lib.hid (show usL x = l2 by unfold usL usC; rw [← HQC.out, ← HLL.out]; simp)
  go_wp2_with fail
  go_ret
  exact ⟨a2, c2, by rw [HL.out]; rfl, by rw [HL.out]; exact own_inI HP.out.1 (by rw [← HL.out]; exact HIN.out), HP.out.2.1.bel⟩
 ·have HL := Lib.hid (show usL x = l2 ++ x.ar by unfold usL usC; rw [← HQC.out, ← HLL.out]; rfl)
  have e7 := HP.out.2.1.cell 0 rfl 7 rfl
  have hsrc := InS.srcI HC.out.1 HP.out.2.1.bel
  have hm1 : (l2.length + x.ar.length) * 8 ≤ 140737488355328 := by have := HL2.out; have := HC.out.2.2.2; omega
  have hm2 : l2.length + x.ar.length ≤ 1000000000000 := by have := HL2.out; have := HC.out.2.2.2; omega
  have hm3 : b + 1 ≤ W4.heap.size := HP.out.2.2
  have HS := Lib.hid hsrc
  clear hsrc
  go_wp2_with (at_builtin; refine wp_appendSE (E := elI1) (v := .slice a2 l2.length c2) (l := l2) (m := x.ar) (base := b + 1) sInt1 rfl rfl _ _ rfl rfl (by rw [← HAN.out]; rfl) HP.out.1 HS.out hm1 hm2 hm3 ?_; intro v' w3 hown hgr hat; obtain ⟨s9, c9, rfl⟩ := hown.shape (n := l2.length + x.ar.length) (by simp); have hE3 := HP.out.2.1.grown1 hgr (fun q e => by have h1 := (OwnE.lt HP.out.1 q e).1; have h2 := HZ.out.2.2; omega); have H3 := Lib.hid (And.intro hown hE3); clear hown hgr hat hE3)
  go_ret
  exact ⟨s9, c9, by rw [HL.out]; simp, by rw [HL.out, List.length_append]; exact own_inI H3.out.1 (by rw [← HL.out]; exact HIN.out), H3.out.2.bel⟩
set_option maxHeartbeats 1600000 in
theorem rIsClass_any (cs : List Cl) (hv : Value) (t : ByteArray) (W : World) (h : InS vCl W hv cs) : Calls Tryz.prog 137 #[.agg #[hv], .string t] W fun e W' => e = .returned (.bool (decide (isC cs t))) ∧ Below W.heap.size W W' := by
 obtain ⟨ha, hc, rfl⟩ := h.shape
 have HE := Lib.hid (And.intro ((Env.refl W).alloc [.slice ha cs.length hc] 24) h)
 clear h
 go_enter Tryz.func137, Tryz.ntmps137
 go_wp2_with fail
 refine (rFind_any cs _ t _ (HE.out.2.below HE.out.1.bel)).mono ?_
 rintro e W1 ⟨rfl, b1⟩
 have H1 := Lib.hid (HE.out.1.below b1).bel
 obtain ⟨y, hy⟩ : ∃ y, y = fI cs t := ⟨_, rfl⟩
 rw [← hy]
 have HY := Lib.hid hy
 clear b1 hy
 by_cases h0 : 0 ≤ y
 ·have hd : decide (isC cs t) = true := decide_eq_true (fI_nonneg.1 (by rw [← HY.out]; exact h0))
  have HD := Lib.hid hd
  clear hd
  go_wp2_with fail
  go_ret
  exact ⟨by rw [HD.out]; rfl, H1.out⟩
 ·have hd0 : decide (0 ≤ y) = false := decide_eq_false h0
  have hd : decide (isC cs t) = false := decide_eq_false fun h => h0 (by rw [HY.out]; exact fI_nonneg.2 h)
  have HD := Lib.hid hd
  clear hd
  go_wp2_with fail
  go_ret
  exact ⟨by rw [HD.out]; rfl, H1.out⟩
instance (cs : List Cl) (f t : ByteArray) : Decidable (Fits cs f t) := by unfold Fits; infer_instance
end Go.Proofs.YtnklnklkblgnfaaGreat
end
section
namespace Go.Proofs.YtnklnklkblgnfaaGreat
open Go.RowKit Go.Dfl Go.Obs Go.Hir
open Go.Gra (gen_code gen_calls)
def fitsB (cs : List Cl) (f t : ByteArray) : Bool := if f = t then true else if f = tN then decide (t ≠ tI) else decide (isC cs f) && (decide (isC cs t) && decide (t ∈ sups cs f))
theorem fitsB_ok {cs : List Cl} {f t : ByteArray} (h : fitsB cs f t = true) : Hir.Fits cs f t := by
 unfold fitsB at h
 by_cases h1 : f = t
 ·exact .inl h1
 ·rw [if_neg h1] at h
  by_cases h2 : f = tN
  ·rw [if_pos h2] at h
   exact .inr (.inl ⟨h2, of_decide_eq_true h⟩)
  ·rw [if_neg h2] at h
   simp at h
   exact .inr (.inr h)
set_option maxHeartbeats 3200000 in
theorem rFits_any (cs : List Cl) (hv : Value) (f t : ByteArray) (W : World) (h : InS vCl W hv cs) (hl : cs.length ≤ 1000000) : Calls Tryz.prog 138 #[.agg #[hv], .string f, .string t] W fun e W' => e = .returned (.bool (fitsB cs f t)) ∧ Below W.heap.size W W' := by
 obtain ⟨ha, hc, rfl⟩ := h.shape
 have HE := Lib.hid (And.intro ((Env.refl W).alloc [.slice ha cs.length hc] 24) h)
 clear h
 by_cases h1 : f = t
 ·have t0 := tl_eq h1
  have HT := Lib.hid (show fitsB cs f t = true by unfold fitsB; rw [if_pos h1])
  clear h1
  go_enter Tryz.func138, Tryz.ntmps138
  go_wp2_with fail
  go_ret
  exact ⟨by rw [HT.out]; rfl, HE.out.1.bel⟩
 ·have t0 := tl_ne h1
  have HN := Lib.hid h1
  clear h1
  by_cases h2 : f = tN
  ·have t1 : (f.toList == [110, 117, 108, 108]) = true := tl_lit h2
   by_cases h3 : t = tI
   ·have t2 : (t.toList == [105, 110, 116]) = true := tl_lit h3
    have t3 : (t.toList != [105, 110, 116]) = false := by rw [bne, t2]; rfl
    have HT := Lib.hid (show fitsB cs f t = false by unfold fitsB; rw [if_neg HN.out, if_pos h2, h3]; rfl)
    clear h2 h3
    go_enter Tryz.func138, Tryz.ntmps138
    go_wp2_with fail
    go_ret
    exact ⟨by rw [HT.out]; rfl, HE.out.1.bel⟩
   ·have t2 : (t.toList == [105, 110, 116]) = false := tl_litn h3
    have t3 : (t.toList != [105, 110, 116]) = true := by rw [bne, t2]; rfl
    have HT := Lib.hid (show fitsB cs f t = true by unfold fitsB; rw [if_neg HN.out, if_pos h2, decide_eq_true h3])
    clear h2 h3
    go_enter Tryz.func138, Tryz.ntmps138
    go_wp2_with fail
    go_ret
    exact ⟨by rw [HT.out]; rfl, HE.out.1.bel⟩
  ·have t1 : (f.toList == [110, 117, 108, 108]) = false := tl_litn h2
   have HV := Lib.hid (show fitsB cs f t = (decide (isC cs f) && (decide (isC cs t) && decide (t ∈ sups cs f))) by unfold fitsB; rw [if_neg HN.out, if_neg h2])
   clear h2
   go_enter Tryz.func138, Tryz.ntmps138
   go_wp2_with fail
   refine (rIsClass_any cs _ f _ (HE.out.2.below HE.out.1.bel)).mono ?_
   rintro e W1 ⟨rfl, b1⟩
   have H1 := Lib.hid (HE.out.1.below b1)
   clear b1
   by_cases hf : isC cs f
   ·rw [decide_eq_true hf]
    have d0 := H1.out.cell 0 rfl 0 rfl
    have HF := Lib.hid hf
    clear hf
    go_wp2_with fail
    refine (rIsClass_any cs _ t _ (HE.out.2.below H1.out.bel)).mono ?_
    rintro e W2 ⟨rfl, b2⟩
    have H2 := Lib.hid (H1.out.below b2)
    clear b2 d0
    by_cases ht : isC cs t
    ·rw [decide_eq_true ht]
     have d0 := H2.out.cell 0 rfl 0 rfl
     have HT := Lib.hid ht
     clear ht
     go_wp2_with fail
     refine (rIsSub_any cs _ f t _ (HE.out.2.below H2.out.bel) hl).mono ?_
     rintro e W3 ⟨rfl, b3⟩
     have H3 := Lib.hid (H2.out.below b3).bel
     clear b3 d0
     by_cases hs : t ∈ sups cs f
     ·rw [decide_eq_true hs]
      have HS := Lib.hid (show fitsB cs f t = true by rw [HV.out, decide_eq_true HF.out, decide_eq_true HT.out, decide_eq_true hs]; rfl)
      clear hs
      go_wp2_with fail
      go_ret
      exact ⟨by rw [HS.out]; rfl, H3.out⟩
     ·rw [decide_eq_false hs]
      have HS := Lib.hid (show fitsB cs f t = false by rw [HV.out, decide_eq_true HF.out, decide_eq_true HT.out, decide_eq_false hs]; rfl)
      clear hs
      go_wp2_with fail
      go_ret
      exact ⟨by rw [HS.out]; rfl, H3.out⟩
    ·rw [decide_eq_false ht]
     have HS := Lib.hid (show fitsB cs f t = false by rw [HV.out, decide_eq_true HF.out, decide_eq_false ht]; rfl)
     clear ht
     go_wp2_with fail
     go_ret
     exact ⟨by rw [HS.out]; rfl, H2.out.bel⟩
   ·rw [decide_eq_false hf]
    have HS := Lib.hid (show fitsB cs f t = false by rw [HV.out, decide_eq_false hf]; rfl)
    clear hf
    go_wp2_with fail
    go_ret
    exact ⟨by rw [HS.out]; rfl, H1.out.bel⟩
set_option maxHeartbeats 3200000 in
theorem rFu_any (fs : List Fu) (hv fv : Value) (n : Int) (c m : ByteArray) (W : World) (h : InS vFu W fv fs) : Calls Tryz.prog 52 #[.agg #[hv, fv, .int .i64 n], .string c, .string m] W fun e W' => e = .returned (.int .i64 (fuI fs c m)) ∧ Below W.heap.size W W' := by
 obtain ⟨fa, fc, rfl, hlen, hidx, hcell⟩ := InS.fu h
 obtain ⟨N, hN⟩ : ∃ N, N = fs.length := ⟨_, rfl⟩
 rw [← hN] at hlen hidx hcell ⊢
 have HC := Lib.hid (And.intro hidx (And.intro hcell hN))
 have hNl := hlen
 clear h hidx hcell hN
 obtain ⟨k1, hk1⟩ : ∃ k, k = fuI fs c m := ⟨_, rfl⟩
 rw [← hk1]
 have HK := Lib.hid hk1
 have HE := Lib.hid ((Env.refl W).alloc [hv, .slice fa N fc, .int .i64 n] 27)
 clear hk1
 go_enter Tryz.func52, Tryz.ntmps52
 go_upto_region 1 with fail
 refine gen_code (fun Z => Env W [fkC W.heap.size [hv, .slice fa N fc, .int .i64 n]] Z) HE.out ?_
 intro Z hZ
 obtain ⟨b, hb⟩ : ∃ b, b = W.heap.size := ⟨_, rfl⟩
 rw [← hb] at hZ ⊢
 have HZ := Lib.hid hZ.bel
 have d1 := hZ.cell 0 rfl 1 rfl
 clear hZ hb HE
 go_wp2_with fail
 go_loop [7] (fun x => ∃ j : Nat, j ≤ N ∧ x = .int .i64 (j : Int) ∧ Hid (∀ q, q < j → ¬ ((nth fs q).c = c ∧ (nth fs q).m = m))) (fun x => N - (intOf x).toNat)
 case atStart => exact ⟨0, by omega, rfl, fun q hq => by omega⟩
 case round =>
  obtain ⟨j, hj, rfl, hh⟩ := hrel
  by_cases hlt : j < N
  ·have hji : (j : Int) < (N : Int) := by omega
   obtain ⟨-, v4, v6, -, hz⟩ := HC.out.2.1 j hlt
   obtain ⟨p0, p1, -⟩ := hz Z HZ.out
   have j1 := HC.out.1 (j : Int) (by omega) (by omega)
   rw [Int.toNat_natCast] at j1
   clear hz
   obtain ⟨fc2, hfc⟩ : ∃ y, y = (nth fs j).c := ⟨_, rfl⟩
   obtain ⟨fm, hfm⟩ : ∃ y, y = (nth fs j).m := ⟨_, rfl⟩
   rw [← hfc] at p0
   rw [← hfm] at p1
   have HF := Lib.hid (And.intro hfc hfm)
   clear hfc hfm
   have hnext : Hid (¬ (fc2 = c ∧ fm = m) → ∀ q, q < j + 1 → ¬ ((nth fs q).c = c ∧ (nth fs q).m = m)) := Lib.hid fun h q hq => by
    by_cases e : q = j
    ·rw [e, ← HF.out.1, ← HF.out.2]; exact h
    ·exact hh.out q (by omega)
   by_cases h1 : fc2 = c
   ·have t0 := tl_eq h1
    by_cases h2 : fm = m
    ·have t1 := tl_eq h2
     have HT := Lib.hid (show k1 = (j : Int) by
      rw [HK.out]
      have := fu_eq (fs := fs) (c := c) (m := m) (i := j) (by have := HC.out.2.2; omega) ⟨by rw [← HF.out.1]; exact h1, by rw [← HF.out.2]; exact h2⟩ hh.out
      unfold fuI
      rw [this, if_pos (by have := HC.out.2.2; omega)])
     clear h1 h2
     go_wp2_with fail
     go_ret
     exact ⟨by rw [HT.out]; rfl, HZ.out⟩
    ·have t1 := tl_ne h2
     have HT := Lib.hid (hnext.out fun h => h2 h.2)
     clear h1 h2
     go_wp2_with fail
     go_round
     case rel => exact ⟨j + 1, by omega, by go_num, HT.out⟩
     case measure => simp [intOf]; omega
   ·have t0 := tl_ne h1
    have HT := Lib.hid (hnext.out fun h => h1 h.1)
    clear h1
    go_wp2_with fail
    go_round
    case rel => exact ⟨j + 1, by omega, by go_num, HT.out⟩
    case measure => simp [intOf]; omega
  ·obtain rfl : j = N := by omega
   have HT := Lib.hid (show k1 = -1 by
    rw [HK.out]
    have := fu_none (fs := fs) (c := c) (m := m) (by rw [← HC.out.2.2]; exact hh.out)
    unfold fuI
    rw [if_neg (by omega)])
   clear hlt hj
   go_wp2_with fail
   go_ret
   exact ⟨by rw [HT.out]; rfl, HZ.out⟩
end Go.Proofs.YtnklnklkblgnfaaGreat
end
section
namespace Go.Proofs.YtnklnklkblgnfaaGreat
open Go.RowKit Go.Dfl Go.Obs Go.Hir
open Go.Gra (gen_code gen_calls)
abbrev fuV (f : Fu) (vv cv : Value) : Value := .agg #[.string f.c, .string f.m, .bool f.st, .int .i64 f.ps, vv, .string f.r, cv]
abbrev fuC (f : Fu) (vv cv : Value) : List Value := [.string f.c, .string f.m, .bool f.st, .int .i64 f.ps, vv, .string f.r, cv]
def RangesR (f : Fu) (x : Is) (W : World) (e : Ending) (W' : World) : Prop := ∃ b : Bool, e = .returned (.bool b) ∧ (b = true → Rng f x) ∧ Below W.heap.size W W'
def outD (n : Nat) (x : Is) : Bool := hasB x.op 100 && (decide (x.d < 0) || decide ((n : Int) ≤ x.d)) && (!(x.op == 9 || x.op == 10) || x.d != -1)
def outG (n : Nat) (x : Is) : Bool := hasB x.op 103 && (decide (x.g < 0) || decide ((n : Int) ≤ x.g))
theorem rng_of {f : Fu} {x : Is} (h1 : outD f.vs.length x = false) (h2 : outG f.cd.length x = false) (h3 : ∀ y ∈ usL x, 0 ≤ y ∧ y < f.vs.length) (h4 : x.ct = -1 ∨ (0 ≤ x.ct ∧ x.ct < f.cd.length ∧ (nth f.cd x.ct.toNat).op = 15)) : Rng f x where
 d h := by
  unfold outD at h1
  rw [h] at h1
  by_cases hr : 0 ≤ x.d ∧ x.d < f.vs.length
  ·exact .inl hr
  ·have hrb : (decide (x.d < 0) || decide ((f.vs.length : Int) ≤ x.d)) = true := by simp; omega
   rw [hrb] at h1
   simp at h1
   refine .inr ⟨?_, h1.2⟩
   by_cases h9 : x.op = 9
   ·exact .inl h9
   ·exact .inr (by simpa [h9] using h1.1)
 a h := by
  by_cases hc : cA x = true
  ·exact .inl (h3 _ (by unfold usL usA; rw [if_pos hc]; simp))
  ·unfold cA at hc
   rw [h] at hc
   simp at hc
   exact .inr hc
 b h := h3 _ (by unfold usL usB; rw [if_pos h]; simp)
 l h y hy := h3 _ (by unfold usL usC; rw [if_pos h]; simp [hy])
 g h := by
  unfold outG at h2
  rw [h] at h2
  simp at h2
  exact h2
 ct := h4
set_option maxHeartbeats 6400000 in
set_option maxRecDepth 8000 in
theorem rRanges_any (f : Fu) (vv cv : Value) (x : Is) (v : Value) (W : World) (hvv : InS vVd W vv f.vs) (hcv : InS vIs W cv f.cd) (h : InS vI W v x.ar) (hl : x.ar.length ≤ 1048576) (ha : inI x.a) (hb : inI x.b) :
  Calls Tryz.prog 108 #[fuV f vv cv, isV x v] W (RangesR f x W) := by
 obtain ⟨va, vc, rfl, hvl⟩ := InS.vd hvv
 obtain ⟨ca, cc, rfl, hcl, cidx, ccell⟩ := InS.is hcv
 obtain ⟨xa, xc, rfl⟩ := h.shape
 obtain ⟨n, hn⟩ : ∃ n, n = f.vs.length := ⟨_, rfl⟩
 obtain ⟨m, hm⟩ : ∃ n, n = f.cd.length := ⟨_, rfl⟩
 obtain ⟨k, hk⟩ : ∃ n, n = x.ar.length := ⟨_, rfl⟩
 rw [← hm] at cidx ccell hcl
 rw [← hk] at h
 rw [← hn, ← hm, ← hk]
 have HE := Lib.hid (((Env.refl W).alloc (fuC f (.slice va n vc) (.slice ca m cc)) 45).alloc (isC' x (.slice xa k xc)) 87)
 have HC := Lib.hid (And.intro (And.intro cidx ccell) (And.intro (And.intro h (And.intro hl (And.intro ha hb))) (And.intro hn (And.intro hm hk))))
 clear h hvl hcl cidx ccell hvv hcv hl ha hb hn hm hk
 unfold fuV isV
 go_enter Tryz.func108, Tryz.ntmps108
 go_upto_region 1 with fail
 refine gen_code (fun Z => Env W [fkC (W.heap.size + 1) (isC' x (.slice xa k xc)), fkC W.heap.size (fuC f (.slice va n vc) (.slice ca m cc))] Z) (by have h := HE.out; rw [World.size_alloc] at h; exact h) ?_
 intro Z hZ
 obtain ⟨b, hb⟩ : ∃ b, b = W.heap.size := ⟨_, rfl⟩
 obtain ⟨bx, hbx⟩ : ∃ b, b = W.heap.size + 1 := ⟨_, rfl⟩
 rw [← hbx, ← hb] at hZ ⊢
 have HZ := Lib.hid hZ
 have d4 := hZ.cell 1 rfl 4 rfl
 have e0 := hZ.cell 0 rfl 0 rfl
 clear hZ hb hbx HE
 go_upto_region 2 with fail
 obtain ⟨cb, hcb⟩ : ∃ q, q = (x.op == 9 || x.op == 10) := ⟨_, rfl⟩
 have HCB := Lib.hid hcb
 clear hcb
 go_cut [6] (fun q wx => q = .bool cb ∧ wx = Z)
 case first =>
  by_cases h9 : x.op = 9
  ·have t9 : (x.op == 9) = true := by simp [h9]
   have HT := Lib.hid (show cb = true by rw [HCB.out, t9]; rfl)
   clear h9
   go_wp2_with fail
   go_meet
   case rel => exact ⟨by rw [HT.out], rfl⟩
  ·have t9 : (x.op == 9) = false := by simpa using h9
   by_cases h10 : x.op = 10
   ·have t10 : (x.op == 10) = true := by simp [h10]
    have HT := Lib.hid (show cb = true by rw [HCB.out, t9, t10]; rfl)
    clear h9 h10
    go_wp2_with fail
    go_meet
    case rel => exact ⟨by rw [HT.out], rfl⟩
   ·have t10 : (x.op == 10) = false := by simpa using h10
    have HT := Lib.hid (show cb = false by rw [HCB.out, t9, t10]; rfl)
    clear h9 h10
    go_wp2_with fail
    go_meet
    case rel => exact ⟨by rw [HT.out], rfl⟩
 case rest =>
 obtain ⟨rfl, rfl⟩ := hcut
 go_upto_region 3 with fail
 clear d4 e0
 obtain ⟨cd, hcd⟩ : ∃ q, q = outD n x := ⟨_, rfl⟩
 have HCD := Lib.hid hcd
 clear hcd
 go_cut [42] (fun q wx => q = .bool cd ∧ Env W [fkC bx (isC' x (.slice xa k xc)), fkC b (fuC f (.slice va n vc) (.slice ca m cc))] wx)
 case first =>
  have e0 := HZ.out.cell 0 rfl 0 rfl
  go_wp2_with fail
  refine (rHas_any x.op 100 _).mono ?_
  rintro e W1 ⟨rfl, b1⟩
  have H1 := Lib.hid (HZ.out.below b1)
  obtain ⟨hb, hhb⟩ : ∃ q, q = hasB x.op 100 := ⟨_, rfl⟩
  rw [← hhb]
  have HB := Lib.hid hhb
  have e1 := H1.out.cell 0 rfl 1 rfl
  clear b1 e0 hhb
  cases hb
  ·have HT := Lib.hid (show cd = false by rw [HCD.out]; unfold outD; rw [← HB.out]; rfl)
   go_wp2_with fail
   go_meet
   case rel => exact ⟨by rw [HT.out], H1.out⟩
  ·by_cases hr : 0 ≤ x.d ∧ x.d < n
   ·have r1 : ¬ x.d < 0 := by omega
    have r2 : ¬ (n : Int) ≤ x.d := by omega
    have r3 : x.d < n := hr.2
    have HT := Lib.hid (show cd = false by rw [HCD.out]; unfold outD; simp [r1, r2]; try omega)
    clear hr
    go_wp2_with fail
    go_meet
    case rel => exact ⟨by rw [HT.out], H1.out⟩
   ·have hrb : (decide (x.d < 0) || decide ((n : Int) ≤ x.d)) = true := by simp; omega
    have HR := Lib.hid (show cd = (!cb || x.d != -1) by rw [HCD.out]; unfold outD; rw [← HB.out, ← HCB.out, hrb]; rfl)
    have hcase : x.d < 0 ∨ (¬ x.d < 0 ∧ (n : Int) ≤ x.d ∧ ¬ x.d < n) := by omega
    clear hrb hr
    rcases hcase with r1 | ⟨r1, r2, r3⟩ <;> cases cb
    ·have HT := Lib.hid (show cd = true by rw [HR.out]; rfl)
     go_wp2_with fail
     go_meet
     case rel => exact ⟨by rw [HT.out], H1.out⟩
    ·by_cases hm1 : x.d = -1
     ·have t1 : (x.d != -1) = false := by simp [hm1]
      have t2 : (x.d == -1) = true := by simp [hm1]
      have HT := Lib.hid (show cd = false by rw [HR.out, t1]; rfl)
      clear hm1
      go_wp2_with fail
      go_meet
      case rel => exact ⟨by rw [HT.out], H1.out⟩
     ·have t1 : (x.d != -1) = true := by simpa using hm1
      have t2 : (x.d == -1) = false := by simpa using hm1
      have HT := Lib.hid (show cd = true by rw [HR.out, t1]; rfl)
      clear hm1
      go_wp2_with fail
      go_meet
      case rel => exact ⟨by rw [HT.out], H1.out⟩
    ·have HT := Lib.hid (show cd = true by rw [HR.out]; rfl)
     go_wp2_with fail
     go_meet
     case rel => exact ⟨by rw [HT.out], H1.out⟩
    ·have t1 : (x.d != -1) = true := by simp; omega
     have t2 : (x.d == -1) = false := by simp; omega
     have HT := Lib.hid (show cd = true by rw [HR.out, t1]; rfl)
     go_wp2_with fail
     go_meet
     case rel => exact ⟨by rw [HT.out], H1.out⟩
 case rest =>
 obtain ⟨rfl, hE⟩ := hcut
 have H1 := Lib.hid hE
 clear hE
 cases cd
 rotate_left
 ·go_wp2_with fail
  go_ret
  exact ⟨false, rfl, (fun h => by cases h), H1.out.bel⟩
 have f0 := H1.out.cell 0 rfl 0 rfl
 have f1 := H1.out.cell 0 rfl 1 rfl
 have f2 := H1.out.cell 0 rfl 2 rfl
 have f3 := H1.out.cell 0 rfl 3 rfl
 have f4 := H1.out.cell 0 rfl 4 rfl
 have f5 := H1.out.cell 0 rfl 5 rfl
 have f6 := H1.out.cell 0 rfl 6 rfl
 have f7 := H1.out.cell 0 rfl 7 rfl
 have f8 := H1.out.cell 0 rfl 8 rfl
 have f9 := H1.out.cell 0 rfl 9 rfl
 go_wp2_with fail
 refine (rUses_any x _ _ (HC.out.2.1.1.below H1.out.bel) HC.out.2.1.2.1 HC.out.2.1.2.2.1 HC.out.2.1.2.2.2).mono ?_
 rintro e W2 ⟨la, lc, rfl, h2, b2⟩
 obtain ⟨l, hl⟩ : ∃ l, l = usL x := ⟨_, rfl⟩
 rw [← hl] at h2 ⊢
 obtain ⟨_, _, hsh, hll, lidx, lcell⟩ := InS.ints1 h2
 injection hsh with hsh1 hsh2 hsh3
 subst hsh1 hsh3
 obtain ⟨N, hN⟩ : ∃ N, N = l.length := ⟨_, rfl⟩
 rw [← hN] at lidx lcell hll ⊢
 have H2 := Lib.hid (H1.out.below b2)
 have HL := Lib.hid (And.intro hl (And.intro hN (And.intro lidx lcell)))
 clear hl h2 hsh2 lidx lcell b2 f0 f1 f2 f3 f4 f5 f6 f7 f8 f9 hN
 go_wp2_with fail
 go_loop [8] (fun y => ∃ j : Nat, j ≤ N ∧ y = .int .i64 (j : Int) ∧ Hid (∀ q, q < j → 0 ≤ nth l q ∧ nth l q < n)) (fun y => N - (intOf y).toNat)
 case atStart => exact ⟨0, by omega, rfl, fun q hq => by omega⟩
 case round =>
  obtain ⟨j, hj, rfl, hh⟩ := hrel
  by_cases hlt : j < N
  ·have hji : (j : Int) < (N : Int) := by omega
   obtain ⟨-, -, hz⟩ := HL.out.2.2.2 j hlt
   have p0 := hz W2 (Below.refl _ _)
   have j1 := HL.out.2.2.1 (j : Int) (by omega) (by omega)
   rw [Int.toNat_natCast] at j1
   obtain ⟨y, hy⟩ : ∃ y, y = nth l j := ⟨_, rfl⟩
   rw [← hy] at p0
   have HY := Lib.hid hy
   clear hz hy
   by_cases r1 : y < 0
   ·go_wp2_with fail
    go_ret
    exact ⟨false, rfl, (fun h => by cases h), H2.out.bel⟩
   ·by_cases r2 : (n : Int) ≤ y
    ·have r3 : ¬ y < n := by omega
     go_wp2_with fail
     go_ret
     exact ⟨false, rfl, (fun h => by cases h), H2.out.bel⟩
    ·have r3 : y < n := by omega
     have HN := Lib.hid (show ∀ q, q < j + 1 → 0 ≤ nth l q ∧ nth l q < n from fun q hq => by
      by_cases e2 : q = j
      ·rw [e2, ← HY.out]; omega
      ·exact hh.out q (by omega))
     go_wp2_with fail
     go_round
     case rel => exact ⟨j + 1, by omega, by go_num, HN.out⟩
     case measure => simp [intOf]; omega
  ·obtain rfl : j = N := by omega
   have HA := Lib.hid (show ∀ y ∈ usL x, 0 ≤ y ∧ y < n from fun y hy => by
    rw [← HL.out.1] at hy
    obtain ⟨q, hq, rfl⟩ := mem_nth hy
    exact hh.out q (by rw [HL.out.2.1]; exact hq))
   clear hlt hj hh
   go_upto_region 11 with fail
   obtain ⟨cg, hcg⟩ : ∃ q, q = outG m x := ⟨_, rfl⟩
   have HCG := Lib.hid hcg
   clear hcg
   go_cut [79] (fun q wx => q = .bool cg ∧ Env W [fkC bx (isC' x (.slice xa k xc)), fkC b (fuC f (.slice va n vc) (.slice ca m cc))] wx)
   case first =>
    have e0 := H2.out.cell 0 rfl 0 rfl
    go_wp2_with fail
    refine (rHas_any x.op 103 _).mono ?_
    rintro e W3 ⟨rfl, b3⟩
    have H3 := Lib.hid (H2.out.below b3)
    obtain ⟨hb, hhb⟩ : ∃ q, q = hasB x.op 103 := ⟨_, rfl⟩
    rw [← hhb]
    have HB := Lib.hid hhb
    have e8 := H3.out.cell 0 rfl 8 rfl
    have d6 := H3.out.cell 1 rfl 6 rfl
    clear b3 e0 hhb
    cases hb
    ·have HT := Lib.hid (show cg = false by rw [HCG.out]; unfold outG; rw [← HB.out]; rfl)
     go_wp2_with fail
     go_meet
     case rel => exact ⟨by rw [HT.out], H3.out⟩
    ·by_cases r1 : x.g < 0
     ·have HT := Lib.hid (show cg = true by rw [HCG.out]; unfold outG; rw [← HB.out, decide_eq_true r1]; rfl)
      go_wp2_with fail
      go_meet
      case rel => exact ⟨by rw [HT.out], H3.out⟩
     ·by_cases r2 : (m : Int) ≤ x.g
      ·have r3 : ¬ x.g < m := by omega
       have HT := Lib.hid (show cg = true by rw [HCG.out]; unfold outG; rw [← HB.out, decide_eq_true r2]; simp)
       go_wp2_with fail
       go_meet
       case rel => exact ⟨by rw [HT.out], H3.out⟩
      ·have r3 : x.g < m := by omega
       have HT := Lib.hid (show cg = false by rw [HCG.out]; unfold outG; rw [← HB.out, decide_eq_false r1, decide_eq_false r2]; rfl)
       go_wp2_with fail
       go_meet
       case rel => exact ⟨by rw [HT.out, decide_eq_false (show ¬ x.g < 0 by omega), decide_eq_false (show ¬ (m : Int) ≤ x.g by omega)]; rfl, H3.out⟩
   case rest =>
   obtain ⟨rfl, hE⟩ := hcut
   have H3 := Lib.hid hE
   clear hE
   cases cg
   rotate_left
   ·go_wp2_with fail
    go_ret
    exact ⟨false, rfl, (fun h => by cases h), H3.out.bel⟩
   have HR := Lib.hid (show (x.ct = -1 ∨ (0 ≤ x.ct ∧ x.ct < f.cd.length ∧ (nth f.cd x.ct.toNat).op = 15)) → Rng f x from fun hct => rng_of (by rw [← HC.out.2.2.1]; exact HCD.out.symm) (by rw [← HC.out.2.2.2.1]; exact HCG.out.symm) (by rw [← HC.out.2.2.1]; exact HA.out) hct)
   have e9 := H3.out.cell 0 rfl 9 rfl
   have d6 := H3.out.cell 1 rfl 6 rfl
   by_cases c1 : x.ct = -1
   ·have t1 : (x.ct == -1) = true := by simp [c1]
    have HT := Lib.hid (HR.out (.inl c1))
    clear c1
    go_wp2_with fail
    go_ret
    exact ⟨true, rfl, fun _ => HT.out, H3.out.bel⟩
   ·have t1 : (x.ct == -1) = false := by simpa using c1
    clear c1
    by_cases c2 : 0 ≤ x.ct
    ·have c2n : ¬ x.ct < 0 := by omega
     by_cases c3 : x.ct < m
     ·have c3n : ¬ (m : Int) ≤ x.ct := by omega
      have j1 := HC.out.1.1 x.ct c2 c3
      obtain ⟨-, v7, -, hz⟩ := HC.out.1.2 x.ct.toNat (by omega)
      obtain ⟨p0, -⟩ := hz _ H3.out.bel
      clear hz
      obtain ⟨y, hy⟩ : ∃ y, y = (nth f.cd x.ct.toNat).op := ⟨_, rfl⟩
      rw [← hy] at p0
      by_cases c4 : y = 15
      ·have t2 : (y == 15) = true := by simp [c4]
       have HT := Lib.hid (HR.out (.inr ⟨c2, by rw [← HC.out.2.2.2.1]; exact c3, by rw [← hy]; exact c4⟩))
       clear c4 hy
       go_wp2_with fail
       go_ret
       exact ⟨true, rfl, fun _ => HT.out, H3.out.bel⟩
      ·have t2 : (y == 15) = false := by simpa using c4
       clear c4 hy
       go_wp2_with fail
       go_ret
       exact ⟨false, rfl, (fun h => by cases h), H3.out.bel⟩
     ·have c3n : (m : Int) ≤ x.ct := by omega
      go_wp2_with fail
      go_ret
      exact ⟨false, rfl, (fun h => by cases h), H3.out.bel⟩
    ·have c2n : x.ct < 0 := by omega
     go_wp2_with fail
     go_ret
     exact ⟨false, rfl, (fun h => by cases h), H3.out.bel⟩
end Go.Proofs.YtnklnklkblgnfaaGreat
end
section
namespace Go.Proofs.YtnklnklkblgnfaaGreat
open Go.RowKit Go.Dfl Go.Obs Go.Hir
open Go.Gra (gen_code gen_calls)
def LeavesR (f : Fu) (i : Nat) (W : World) (e : Ending) (W' : World) : Prop := ∃ b : Bool, e = .returned (.bool b) ∧ (b = false → Stay f i (nth f.cd i)) ∧ Below W.heap.size W W'
def NX (f : Fu) (i : Nat) : Prop := (nth f.cd i).op ≠ 12 → (nth f.cd i).op ≠ 13 → (nth f.cd i).op ≠ 14 → i + 1 < f.cd.length ∧ (nth f.cd (i + 1)).op ≠ 15
set_option maxHeartbeats 6400000 in
set_option maxRecDepth 8000 in
theorem rLeaves_any (f : Fu) (vv cv : Value) (i : Nat) (W : World) (hvv : InS vVd W vv f.vs) (hcv : InS vIs W cv f.cd) (hi : i < f.cd.length) (hr : Rng f (nth f.cd i)) :
  Calls Tryz.prog 109 #[fuV f vv cv, .int .i64 (i : Int)] W (LeavesR f i W) := by
 obtain ⟨va, vc, rfl, hvl⟩ := InS.vd hvv
 obtain ⟨ca, cc, rfl, hcl, cidx, ccell⟩ := InS.is hcv
 obtain ⟨n, hn⟩ : ∃ n, n = f.vs.length := ⟨_, rfl⟩
 obtain ⟨m, hm⟩ : ∃ n, n = f.cd.length := ⟨_, rfl⟩
 rw [← hm] at cidx ccell hcl hi
 rw [← hn, ← hm]
 obtain ⟨-, v7, hin, hz⟩ := ccell i hi
 obtain ⟨x, hx⟩ : ∃ x, x = nth f.cd i := ⟨_, rfl⟩
 rw [← hx] at hr hz hin
 have HE := Lib.hid ((Env.refl W).alloc (fuC f (.slice va n vc) (.slice ca m cc)) 45)
 obtain ⟨xa, xc, hv7⟩ := hin.2.2.2.2.2.2.2.2.2.shape
 subst hv7
 obtain ⟨k, hk⟩ : ∃ n, n = x.ar.length := ⟨_, rfl⟩
 rw [← hk] at hz
 have HC := Lib.hid (And.intro (And.intro cidx ccell) (And.intro hz (And.intro hx (And.intro hr (And.intro hm hi)))))
 have j0 := cidx (i : Int) (by omega) (by omega)
 rw [Int.toNat_natCast] at j0
 have hcl2 := hcl
 clear hvl cidx ccell hvv hcv hn hm hk hz hx hr hin hcl
 unfold fuV
 go_enter Tryz.func109, Tryz.ntmps109
 go_upto_region 1 with fail
 refine gen_code (fun Z => Env W [fkC W.heap.size (fuC f (.slice va n vc) (.slice ca m cc))] Z) HE.out ?_
 intro Z hZ
 obtain ⟨b, hb⟩ : ∃ b, b = W.heap.size := ⟨_, rfl⟩
 rw [← hb] at hZ ⊢
 have HZ := Lib.hid hZ
 have d6 := hZ.cell 0 rfl 6 rfl
 obtain ⟨p0, p1, p2, p3, p4, p5, p6, p7, p8, p9⟩ := HC.out.2.1 Z hZ.bel
 clear hZ hb HE
 go_upto_region 2 with fail
 refine gen_code (fun Z' => Env W [fkC Z.heap.size (isC' x (.slice xa k xc)), fkC b (fuC f (.slice va n vc) (.slice ca m cc))] Z') (HZ.out.alloc (isC' x (.slice xa k xc)) 87) ?_
 intro Z2 hZ2
 obtain ⟨bx, hbx⟩ : ∃ b, b = Z.heap.size := ⟨_, rfl⟩
 rw [← hbx] at hZ2 ⊢
 have H2 := Lib.hid hZ2
 have e0 := hZ2.cell 0 rfl 0 rfl
 clear hZ2 hbx d6 p0 p1 p2 p3 p4 p5 p6 p7 p8 p9 HZ
 go_cut [6] (fun q wx => ∃ en : Bool, q = .bool en ∧ (en = true ↔ x.op = 12 ∨ x.op = 13 ∨ x.op = 14) ∧ wx = Z2)
 case first =>
  by_cases h12 : x.op = 12
  ·have t : (x.op == 12) = true := by simp [h12]
   have HT := Lib.hid h12
   clear h12
   go_wp2_with fail
   go_meet
   case rel => exact ⟨true, rfl, ⟨fun _ => .inl HT.out, fun _ => rfl⟩, rfl⟩
  ·have t : (x.op == 12) = false := by simpa using h12
   by_cases h13 : x.op = 13
   ·have t2 : (x.op == 13) = true := by simp [h13]
    have HT := Lib.hid h13
    clear h12 h13
    go_wp2_with fail
    go_meet
    case rel => exact ⟨true, rfl, ⟨fun _ => .inr (.inl HT.out), fun _ => rfl⟩, rfl⟩
   ·have t2 : (x.op == 13) = false := by simpa using h13
    by_cases h14 : x.op = 14
    ·have t3 : (x.op == 14) = true := by simp [h14]
     have HT := Lib.hid h14
     clear h12 h13 h14
     go_wp2_with fail
     go_meet
     case rel => exact ⟨true, rfl, ⟨fun _ => .inr (.inr HT.out), fun _ => rfl⟩, rfl⟩
    ·have t3 : (x.op == 14) = false := by simpa using h14
     have HT := Lib.hid (show ¬ (x.op = 12 ∨ x.op = 13 ∨ x.op = 14) by omega)
     clear h12 h13 h14
     go_wp2_with fail
     go_meet
     case rel => exact ⟨false, rfl, ⟨(fun h => by cases h), fun h => absurd h HT.out⟩, rfl⟩
 case rest =>
 obtain ⟨en, rfl, hen, rfl⟩ := hcut
 have HEN := Lib.hid hen
 clear hen e0
 go_upto_region 3 with fail
 go_cut [44] (fun q wx => ∃ lv : Bool, q = .bool lv ∧ (lv = false → NX f i) ∧ wx = wc)
 case first =>
  have d6 := H2.out.cell 1 rfl 6 rfl
  cases en
  rotate_left
  ·have HT := Lib.hid (show NX f i from fun h1 h2 h3 => by
    rw [← HC.out.2.2.1] at h1 h2 h3
    have := HEN.out.1 (by trivial)
    omega)
   go_wp2_with fail
   go_meet
   case rel => exact ⟨false, rfl, fun _ => HT.out, rfl⟩
  ·by_cases hl : i + 1 = m
   ·have hli : (i : Int) + 1 = (m : Int) := by omega
    have t1 : ((i : Int) + 1 == (m : Int)) = true := by simpa using hli
    clear hl hli
    go_wp2_with fail
    go_meet
    case rel => exact ⟨true, rfl, (fun h => by cases h), rfl⟩
   ·have hl2 : i + 1 < m := by omega
    have hli : ¬ (i : Int) + 1 = (m : Int) := by omega
    have t1 : ((i : Int) + 1 == (m : Int)) = false := by simpa using hli
    have j1 := HC.out.1.1 ((i : Int) + 1) (by omega) (by omega)
    rw [show ((i : Int) + 1).toNat = i + 1 by omega] at j1
    obtain ⟨-, w7, -, hz⟩ := HC.out.1.2 (i + 1) hl2
    obtain ⟨p0, -⟩ := hz _ H2.out.bel
    obtain ⟨y, hy⟩ : ∃ y, y = (nth f.cd (i + 1)).op := ⟨_, rfl⟩
    rw [← hy] at p0
    have HY := Lib.hid (And.intro hy hl2)
    clear hz hy hl hli hl2
    by_cases h15 : y = 15
    ·have t2 : (y == 15) = true := by simp [h15]
     clear h15
     go_wp2_with fail
     go_meet
     case rel => exact ⟨true, rfl, (fun h => by cases h), rfl⟩
    ·have t2 : (y == 15) = false := by simpa using h15
     have HT := Lib.hid (show NX f i from fun h1 h2 h3 => ⟨by rw [← HC.out.2.2.2.2.1]; exact HY.out.2, by rw [← HY.out.1]; exact h15⟩)
     clear h15
     go_wp2_with fail
     go_meet
     case rel => exact ⟨false, rfl, fun _ => HT.out, rfl⟩
 case rest =>
 obtain ⟨lv, rfl, hlv, rfl⟩ := hcut
 have HLV := Lib.hid hlv
 clear hlv
 cases lv
 rotate_left
 ·go_wp2_with fail
  go_ret
  exact ⟨true, rfl, (fun h => by cases h), H2.out.bel⟩
 have e0 := H2.out.cell 0 rfl 0 rfl
 go_wp2_with fail
 refine (rHas_any x.op 103 _).mono ?_
 rintro e W3 ⟨rfl, b3⟩
 have H3 := Lib.hid (H2.out.below b3)
 obtain ⟨hb, hhb⟩ : ∃ q, q = hasB x.op 103 := ⟨_, rfl⟩
 rw [← hhb]
 have HB := Lib.hid hhb
 clear b3 e0 hhb
 have e0 := H3.out.cell 0 rfl 0 rfl
 have e8 := H3.out.cell 0 rfl 8 rfl
 have d6 := H3.out.cell 1 rfl 6 rfl
 cases hb
 ·have HG := Lib.hid (show hasB x.op 103 = true → (nth f.cd x.g.toNat).op ≠ 15 from fun h => by rw [← HB.out] at h; cases h)
  by_cases hi0 : i = 0
  ·have t5 : ((i : Int) == 0) = true := by simp [hi0]
   by_cases h16 : x.op = 15
   ·have t6 : (x.op == 15) = true := by simp [h16]
    clear h16 hi0
    go_wp2_with fail
    go_ret
    exact ⟨true, rfl, (fun h => by cases h), H3.out.bel⟩
   ·have t6 : (x.op == 15) = false := by simpa using h16
    have HT := Lib.hid (show Stay f i (nth f.cd i) from ⟨HLV.out (by trivial), by rw [← HC.out.2.2.1]; exact HG.out, fun _ => by rw [← HC.out.2.2.1]; exact h16⟩)
    clear h16 hi0
    go_wp2_with fail
    go_ret
    exact ⟨false, rfl, fun _ => HT.out, H3.out.bel⟩
  ·have t5 : ((i : Int) == 0) = false := by simpa using hi0
   have HT := Lib.hid (show Stay f i (nth f.cd i) from ⟨HLV.out (by trivial), by rw [← HC.out.2.2.1]; exact HG.out, fun h => absurd h hi0⟩)
   clear hi0
   go_wp2_with fail
   go_ret
   exact ⟨false, rfl, fun _ => HT.out, H3.out.bel⟩
 ·have hg := HC.out.2.2.2.1.g HB.out.symm
  rw [← HC.out.2.2.2.2.1] at hg
  have j1 := HC.out.1.1 x.g (by omega) (by omega)
  obtain ⟨-, w7, -, hz⟩ := HC.out.1.2 x.g.toNat (by omega)
  obtain ⟨p0, -⟩ := hz _ H3.out.bel
  obtain ⟨y, hy⟩ : ∃ y, y = (nth f.cd x.g.toNat).op := ⟨_, rfl⟩
  rw [← hy] at p0
  have HY := Lib.hid hy
  clear hz hy hg
  by_cases h15 : y = 15
  ·have t2 : (y == 15) = true := by simp [h15]
   clear h15
   go_wp2_with fail
   go_ret
   exact ⟨true, rfl, (fun h => by cases h), H3.out.bel⟩
  ·have t2 : (y == 15) = false := by simpa using h15
   have HG := Lib.hid (show hasB x.op 103 = true → (nth f.cd x.g.toNat).op ≠ 15 from fun _ => by rw [← HY.out]; exact h15)
   clear h15
   by_cases hi0 : i = 0
   ·have t5 : ((i : Int) == 0) = true := by simp [hi0]
    by_cases h16 : x.op = 15
    ·have t6 : (x.op == 15) = true := by simp [h16]
     clear h16 hi0
     go_wp2_with fail
     go_ret
     exact ⟨true, rfl, (fun h => by cases h), H3.out.bel⟩
    ·have t6 : (x.op == 15) = false := by simpa using h16
     have HT := Lib.hid (show Stay f i (nth f.cd i) from ⟨HLV.out (by trivial), by rw [← HC.out.2.2.1]; exact HG.out, fun _ => by rw [← HC.out.2.2.1]; exact h16⟩)
     clear h16 hi0
     go_wp2_with fail
     go_ret
     exact ⟨false, rfl, fun _ => HT.out, H3.out.bel⟩
   ·have t5 : ((i : Int) == 0) = false := by simpa using hi0
    have HT := Lib.hid (show Stay f i (nth f.cd i) from ⟨HLV.out (by trivial), by rw [← HC.out.2.2.1]; exact HG.out, fun h => absurd h hi0⟩)
    clear hi0
    go_wp2_with fail
    go_ret
    exact ⟨false, rfl, fun _ => HT.out, H3.out.bel⟩
end Go.Proofs.YtnklnklkblgnfaaGreat
end
section
namespace Go.Proofs.YtnklnklkblgnfaaGreat
open Go.RowKit Go.Dfl Go.Obs Go.Hir
open Go.Gra (gen_code gen_calls)
def DeclR (cs : List Cl) (hv : Value) (c m : ByteArray) (W : World) (e : Ending) (W' : World) : Prop := ∃ (s : Sg) (pv : Value) (ok : Bool), e = .returned (.tuple #[sgV s pv, .bool ok]) ∧ InS vS W' pv s.ps ∧ (∀ W0, InS vCl W0 hv cs → Below W0.heap.size W0 W → InS vS W0 pv s.ps) ∧ (ok = true → methP cs c m = some (c, s) ∧ s.st = true) ∧ s.n.size ≤ maxLen ∧ s.r.size ≤ maxLen ∧ Below W.heap.size W W'
set_option maxHeartbeats 6400000 in
theorem rDeclares_any (cs : List Cl) (hv : Value) (c m : ByteArray) (W : World) (h : InS vCl W hv cs) (hl : cs.length ≤ 1000000) : Calls Tryz.prog 152 #[.agg #[hv], .string c, .string m] W (DeclR cs hv c m W) := by
 obtain ⟨ha, hc, rfl⟩ := h.shape
 have HE := Lib.hid (And.intro (((((Env.refl W).alloc [.slice ha cs.length hc] 24).below ((Below.refl _ _).alloc (Nat.le_refl _) (.cells #[.string ⟨#[]⟩, .bool false, .slice none 0 0, .string ⟨#[]⟩] 132))).add (q := fkH (W.heap.size + 1) (.cells #[.string ⟨#[]⟩, .bool false, .slice none 0 0, .string ⟨#[]⟩] 132)) (by
  have := heap_alloc_new (W.alloc (.cells #[.slice ha cs.length hc] 24)) (.cells #[.string ⟨#[]⟩, .bool false, .slice none 0 0, .string ⟨#[]⟩] 132)
  rw [World.size_alloc] at this
  exact this))) (show W.heap.size + 2 ≤ ((W.alloc (.cells #[.slice ha cs.length hc] 24)).alloc (.cells #[.string ⟨#[]⟩, .bool false, .slice none 0 0, .string ⟨#[]⟩] 132)).heap.size by rw [World.size_alloc, World.size_alloc]; omega))
 have HC := Lib.hid h
 clear h
 go_enter Tryz.func152, Tryz.ntmps152
 go_wp2_with fail
 refine (rMeth_any cs _ c m _ (HC.out.below HE.out.1.bel) hl).mono ?_
 rintro e W1 ⟨d, s, pv, ok, rfl, hp, hp0, hm, hn, hr, b1⟩
 obtain ⟨pa, pc, rfl⟩ := hp.shape
 obtain ⟨pn, hpn⟩ : ∃ n, n = s.ps.length := ⟨_, rfl⟩
 have HP0 := Lib.hid (show ∀ W0, InS vCl W0 (.slice ha cs.length hc) cs → Below W0.heap.size W0 W → InS vS W0 (.slice pa pn pc) s.ps from fun W0 h0 hb0 => by rw [hpn]; exact hp0 W0 h0 (hb0.trans (HE.out.1.bel.mono hb0.size)))
 clear hp0
 rw [← hpn] at hp ⊢
 obtain ⟨b, hb⟩ : ∃ b, b = W.heap.size := ⟨_, rfl⟩
 obtain ⟨br, hbr⟩ : ∃ br, br = W.heap.size + 1 := ⟨_, rfl⟩
 have HBR := Lib.hid hbr
 have HBB := Lib.hid hb
 have H1 := Lib.hid (And.intro (HE.out.1.below b1) (And.intro (Nat.le_trans HE.out.2 b1.size) (And.intro hp (And.intro hm (And.intro hn (And.intro hr hpn))))))
 rw [← hbr, ← hb] at H1
 rw [← hbr, ← hb]
 clear hp hm hn hr b1 HE hpn hbr hb
 go_upto_region 2 with fail
 obtain ⟨bn, hbn⟩ : ∃ b, b = W1.heap.size := ⟨_, rfl⟩
 have HPN := Lib.hid (show pn = s.ps.length from H1.out.2.2.2.2.2.2)
 have HN0 := Lib.hid (show bn ≠ br from by have := H1.out.2.1; have := HBR.out; have := HBB.out; omega)
 have hS : (W1.alloc (.cells #[.string s.n, .bool s.st, .slice pa pn pc, .string s.r] 132)).drew.cell? ⟨bn, 0, none⟩ = some (.string s.n) ∧ (W1.alloc (.cells #[.string s.n, .bool s.st, .slice pa pn pc, .string s.r] 132)).drew.cell? ⟨bn, 1, none⟩ = some (.bool s.st) ∧ (W1.alloc (.cells #[.string s.n, .bool s.st, .slice pa pn pc, .string s.r] 132)).drew.cell? ⟨bn, 2, none⟩ = some (.slice pa pn pc) ∧ (W1.alloc (.cells #[.string s.n, .bool s.st, .slice pa pn pc, .string s.r] 132)).drew.cell? ⟨bn, 3, none⟩ = some (.string s.r) := by
  have hc := cells_new (W := W1) (cs := [.string s.n, .bool s.st, .slice pa pn pc, .string s.r]) (t := 132) rfl
  rw [hbn]
  exact ⟨hc 0 _ rfl, hc 1 _ rfl, hc 2 _ rfl, hc 3 _ rfl⟩
 have hE : Env W [fkH br (.cells #[.string ⟨#[]⟩, .bool false, .slice none 0 0, .string ⟨#[]⟩] 132)] (W1.alloc (.cells #[.string s.n, .bool s.st, .slice pa pn pc, .string s.r] 132)).drew := ((H1.out.1.alloc _ _).sub (by simp)).drew
 have hbW : Below W1.heap.size W1 (W1.alloc (.cells #[.string s.n, .bool s.st, .slice pa pn pc, .string s.r] 132)).drew := ((Below.refl _ _).alloc (Nat.le_refl _) _).drew
 rw [← hbn]
 have HS := Lib.hid (And.intro hS (And.intro hE hbW))
 clear hS hE hbW hbn
 have HM := Lib.hid (show methP cs c m = (if ok then some (d, s) else none) from H1.out.2.2.2.1)
 cases ok
 ·generalize hV : (W1.alloc (.cells #[.string s.n, .bool s.st, .slice pa pn pc, .string s.r] 132)) = V at *
  clear hV
  refine wp_region_mix [0, 1, 2, 3, 4, 5, 6, 7, 8, 9, 10] [11, 12] (fun w' => w'.cell? ⟨bn, 0, none⟩ = some (.string s.n) ∧ w'.cell? ⟨bn, 1, none⟩ = some (.bool s.st) ∧ w'.cell? ⟨bn, 2, none⟩ = some (.slice pa pn pc) ∧ w'.cell? ⟨bn, 3, none⟩ = some (.string s.r)) (by kernel_rfl) (by kernel_rfl) (by kernel_rfl) HS.out.1 ?_
  repeat (
   first
   | (refine wpHeads_cons (v := undef) rfl (Or.inr ⟨by rfl, rfl⟩) ?_)
   | (refine wpHeads_cons (v := ?_) rfl (Or.inl ⟨by rfl, ?_⟩) ?_
      rotate_left
      ·(intro W hW; obtain ⟨x1, x2, x3, x4⟩ := hW; (try go_simp); try with_reducible rfl))
   simp only [Act.put, List.setIfInBounds_toArray, List.getElem_toArray, List.getElem_cons_zero, List.getElem_cons_succ, List.set_cons_succ, List.set_cons_zero])
  refine wpHeads_nil ?_
  have HED := Lib.hid HS.out.2.1
  have hNB : V.drew.heap[br]? = some (.cells #[.string ⟨#[]⟩, .bool false, .slice none 0 0, .string ⟨#[]⟩] 132) := HED.out.fact 0 rfl
  have hBW := HS.out.2.2
  have hS1 := HS.out.1
  generalize V.drew = V2 at *
  obtain ⟨⟨z0, z1, z2, z3, zf⟩, hC, hG⟩ := store4 (y0 := .string s.n) (y1 := .bool s.st) (y2 := .slice pa pn pc) (y3 := .string s.r) hNB
  have f0 := zf 0
  have f1 := zf 1
  have f2 := zf 2
  have f3 := zf 3
  have hS2 := And.intro (hG.cell hS1.1 (fun e => HN0.out (Option.some.inj e))) (And.intro (hG.cell hS1.2.1 (fun e => HN0.out (Option.some.inj e))) (And.intro (hG.cell hS1.2.2.1 (fun e => HN0.out (Option.some.inj e))) (hG.cell hS1.2.2.2 (fun e => HN0.out (Option.some.inj e)))))
  have hb4 : Below W.heap.size W _ := HED.out.bel.grown hG HED.out.bel.size (fun q e => by injection e with e; have := HBR.out; omega)
  have H4 := Lib.hid (And.intro hS2 (And.intro hb4 (And.intro hBW hG)))
  clear hS2 hb4 hC hNB zf hBW hS1 hG
  refine wpTails_cons rfl ?_
  go_wp2_with fail
  refine tail_mk H4.out.1 ?_
  refine wpTails_one rfl ?_
  go_wp2_with fail
  refine thenQ_mk ?_
  go_wp2_with fail
  (try simp only [Exit.inBlock, Exit.then])
  refine bodyPost_ret (v := .tuple #[sgV s (.slice pa pn pc), .bool false]) (by rw [results_cell_tmp rfl]; go_simp; try rfl) rfl ?_
  exact ⟨s, _, false, rfl, (HP0.out W HC.out (Below.refl _ _)).below H4.out.2.1, HP0.out, (fun h => by cases h), H1.out.2.2.2.2.1, H1.out.2.2.2.2.2.1, H4.out.2.1⟩
 ·by_cases hd : d = c
  ·have t0 := tl_eq hd
   have HM2 := Lib.hid (show s.st = true → methP cs c m = some (c, s) ∧ s.st = true from fun h => ⟨by have h8 := HM.out; rw [hd] at h8; exact h8, h⟩)
   clear hd
   generalize hV : (W1.alloc (.cells #[.string s.n, .bool s.st, .slice pa pn pc, .string s.r] 132)) = V at *
   clear hV
   refine wp_region_mix [0, 1, 2, 3, 4, 5, 6, 7, 8, 9, 10] [11, 12] (fun w' => w'.cell? ⟨bn, 0, none⟩ = some (.string s.n) ∧ w'.cell? ⟨bn, 1, none⟩ = some (.bool s.st) ∧ w'.cell? ⟨bn, 2, none⟩ = some (.slice pa pn pc) ∧ w'.cell? ⟨bn, 3, none⟩ = some (.string s.r)) (by kernel_rfl) (by kernel_rfl) (by kernel_rfl) HS.out.1 ?_
   repeat (
    first
    | (refine wpHeads_cons (v := undef) rfl (Or.inr ⟨by rfl, rfl⟩) ?_)
    | (refine wpHeads_cons (v := ?_) rfl (Or.inl ⟨by rfl, ?_⟩) ?_
       rotate_left
       ·(intro W hW; obtain ⟨x1, x2, x3, x4⟩ := hW; (try go_simp); try with_reducible rfl))
    simp only [Act.put, List.setIfInBounds_toArray, List.getElem_toArray, List.getElem_cons_zero, List.getElem_cons_succ, List.set_cons_succ, List.set_cons_zero])
   refine wpHeads_nil ?_
   have HED := Lib.hid HS.out.2.1
   have hNB : V.drew.heap[br]? = some (.cells #[.string ⟨#[]⟩, .bool false, .slice none 0 0, .string ⟨#[]⟩] 132) := HED.out.fact 0 rfl
   have hBW := HS.out.2.2
   have hS1 := HS.out.1
   generalize V.drew = V2 at *
   obtain ⟨⟨z0, z1, z2, z3, zf⟩, hC, hG⟩ := store4 (y0 := .string s.n) (y1 := .bool s.st) (y2 := .slice pa pn pc) (y3 := .string s.r) hNB
   have f0 := zf 0
   have f1 := zf 1
   have f2 := zf 2
   have f3 := zf 3
   have hS2 := And.intro (hG.cell hS1.1 (fun e => HN0.out (Option.some.inj e))) (And.intro (hG.cell hS1.2.1 (fun e => HN0.out (Option.some.inj e))) (And.intro (hG.cell hS1.2.2.1 (fun e => HN0.out (Option.some.inj e))) (hG.cell hS1.2.2.2 (fun e => HN0.out (Option.some.inj e)))))
   have hb4 : Below W.heap.size W _ := HED.out.bel.grown hG HED.out.bel.size (fun q e => by injection e with e; have := HBR.out; omega)
   have H4 := Lib.hid (And.intro hS2 (And.intro hb4 (And.intro hBW hG)))
   clear hS2 hb4 hC hNB zf hBW hS1 hG
   refine wpTails_cons rfl ?_
   go_wp2_with fail
   refine tail_mk H4.out.1 ?_
   refine wpTails_one rfl ?_
   go_wp2_with fail
   refine thenQ_mk ?_
   go_wp2_with fail
   (try simp only [Exit.inBlock, Exit.then])
   refine bodyPost_ret (v := .tuple #[sgV s (.slice pa pn pc), .bool s.st]) (by rw [results_cell_tmp rfl]; go_simp; try rfl) rfl ?_
   exact ⟨s, _, s.st, rfl, (HP0.out W HC.out (Below.refl _ _)).below H4.out.2.1, HP0.out, HM2.out, H1.out.2.2.2.2.1, H1.out.2.2.2.2.2.1, H4.out.2.1⟩
  ·have t0 := tl_ne hd
   clear hd
   generalize hV : (W1.alloc (.cells #[.string s.n, .bool s.st, .slice pa pn pc, .string s.r] 132)) = V at *
   clear hV
   refine wp_region_mix [0, 1, 2, 3, 4, 5, 6, 7, 8, 9, 10] [11, 12] (fun w' => w'.cell? ⟨bn, 0, none⟩ = some (.string s.n) ∧ w'.cell? ⟨bn, 1, none⟩ = some (.bool s.st) ∧ w'.cell? ⟨bn, 2, none⟩ = some (.slice pa pn pc) ∧ w'.cell? ⟨bn, 3, none⟩ = some (.string s.r)) (by kernel_rfl) (by kernel_rfl) (by kernel_rfl) HS.out.1 ?_
   repeat (
    first
    | (refine wpHeads_cons (v := undef) rfl (Or.inr ⟨by rfl, rfl⟩) ?_)
    | (refine wpHeads_cons (v := ?_) rfl (Or.inl ⟨by rfl, ?_⟩) ?_
       rotate_left
       ·(intro W hW; obtain ⟨x1, x2, x3, x4⟩ := hW; (try go_simp); try with_reducible rfl))
    simp only [Act.put, List.setIfInBounds_toArray, List.getElem_toArray, List.getElem_cons_zero, List.getElem_cons_succ, List.set_cons_succ, List.set_cons_zero])
   refine wpHeads_nil ?_
   have HED := Lib.hid HS.out.2.1
   have hNB : V.drew.heap[br]? = some (.cells #[.string ⟨#[]⟩, .bool false, .slice none 0 0, .string ⟨#[]⟩] 132) := HED.out.fact 0 rfl
   have hBW := HS.out.2.2
   have hS1 := HS.out.1
   generalize V.drew = V2 at *
   obtain ⟨⟨z0, z1, z2, z3, zf⟩, hC, hG⟩ := store4 (y0 := .string s.n) (y1 := .bool s.st) (y2 := .slice pa pn pc) (y3 := .string s.r) hNB
   have f0 := zf 0
   have f1 := zf 1
   have f2 := zf 2
   have f3 := zf 3
   have hS2 := And.intro (hG.cell hS1.1 (fun e => HN0.out (Option.some.inj e))) (And.intro (hG.cell hS1.2.1 (fun e => HN0.out (Option.some.inj e))) (And.intro (hG.cell hS1.2.2.1 (fun e => HN0.out (Option.some.inj e))) (hG.cell hS1.2.2.2 (fun e => HN0.out (Option.some.inj e)))))
   have hb4 : Below W.heap.size W _ := HED.out.bel.grown hG HED.out.bel.size (fun q e => by injection e with e; have := HBR.out; omega)
   have H4 := Lib.hid (And.intro hS2 (And.intro hb4 (And.intro hBW hG)))
   clear hS2 hb4 hC hNB zf hBW hS1 hG
   refine wpTails_cons rfl ?_
   go_wp2_with fail
   refine tail_mk H4.out.1 ?_
   refine wpTails_one rfl ?_
   go_wp2_with fail
   refine thenQ_mk ?_
   go_wp2_with fail
   (try simp only [Exit.inBlock, Exit.then])
   refine bodyPost_ret (v := .tuple #[sgV s (.slice pa pn pc), .bool false]) (by rw [results_cell_tmp rfl]; go_simp; try rfl) rfl ?_
   exact ⟨s, _, false, rfl, (HP0.out W HC.out (Below.refl _ _)).below H4.out.2.1, HP0.out, (fun h => by cases h), H1.out.2.2.2.2.1, H1.out.2.2.2.2.2.1, H4.out.2.1⟩
end Go.Proofs.YtnklnklkblgnfaaGreat
end
section
namespace Go.Proofs.YtnklnklkblgnfaaGreat
open Go.RowKit Go.Dfl Go.Obs Go.Hir
open Go.Gra (gen_code gen_calls)
def AccR (cs : List Cl) (f : Fu) (x : Is) (W : World) (e : Ending) (W' : World) : Prop := ∃ n : Int, e = .returned (.int .i64 n) ∧ (n = 0 → isC cs (vty f x.a) ∧ ∃ c t, fieldP cs (vty f x.a) x.m = some (c, t) ∧ (x.op = 7 → Hir.Fits cs t (vty f x.d)) ∧ (x.op = 8 → Hir.Fits cs (vty f x.b) t)) ∧ Below W.heap.size W W'
theorem vd_at {W : World} {va : Option Addr} {n vc : Nat} {f : Fu} (h : InS vVd W (.slice va n vc) f.vs) (hn : n = f.vs.length) {y : Int} (h0 : 0 ≤ y) (h1 : y < f.vs.length) :
  (∀ Z, (Instr.indexAt 42 (.slice va n vc) (.int .i64 y)).run Tryz.prog Z = .ok (.pointer (some ⟨blk va, ofs va + y.toNat * 2, none⟩)) Z) ∧ ∀ Z, Below W.heap.size W Z → Z.cell? ⟨blk va, ofs va + y.toNat * 2 + 1, none⟩ = some (.string (vty f y)) := by
 obtain ⟨_, _, hsh, -, hi, hc⟩ := InS.vd h
 injection hsh with e1 e2 e3
 subst e1 e3
 rw [← hn] at hi hc h1
 refine ⟨hi y h0 h1, fun Z hZ => ?_⟩
 obtain ⟨-, -, hz⟩ := hc y.toNat (by omega)
 exact (hz Z hZ).2
set_option maxHeartbeats 6400000 in
set_option maxRecDepth 8000 in
theorem rAccess_any (cs : List Cl) (hv : Value) (f : Fu) (vv cv : Value) (x : Is) (v : Value) (W : World) (h : InS vCl W hv cs) (hl : cs.length ≤ 1000000) (hvv : InS vVd W vv f.vs) (hcv : InS vIs W cv f.cd) (hxv : InS vI W v x.ar) (hr : Rng f x) (hop : x.op = 7 ∨ x.op = 8) :
  Calls Tryz.prog 139 #[.agg #[hv], fuV f vv cv, isV x v] W (AccR cs f x W) := by
 obtain ⟨ha, hc, rfl⟩ := h.shape
 obtain ⟨va, vc, rfl⟩ := hvv.shape
 obtain ⟨ca, cc, rfl⟩ := hcv.shape
 obtain ⟨xa, xc, rfl⟩ := hxv.shape
 obtain ⟨n, hn⟩ : ∃ n, n = f.vs.length := ⟨_, rfl⟩
 obtain ⟨m, hm⟩ : ∃ n, n = f.cd.length := ⟨_, rfl⟩
 obtain ⟨k, hk⟩ : ∃ n, n = x.ar.length := ⟨_, rfl⟩
 rw [← hn] at hvv
 rw [← hn, ← hm, ← hk]
 have hA : 0 ≤ x.a ∧ x.a < f.vs.length := by
  rcases hr.a (by rcases hop with e | e <;> rw [e] <;> rfl) with h1 | h1
  ·exact h1
  ·omega
 obtain ⟨ja, za⟩ := vd_at hvv hn hA.1 hA.2
 have HE := Lib.hid ((((Env.refl W).alloc [.slice ha cs.length hc] 24).alloc (fuC f (.slice va n vc) (.slice ca m cc)) 45).alloc (isC' x (.slice xa k xc)) 87)
 have HC := Lib.hid (And.intro h (And.intro (And.intro hvv hn) (And.intro hr (And.intro hop za))))
 clear h hvv hcv hxv hr hop hn hm hk hA za
 unfold fuV isV
 go_enter Tryz.func139, Tryz.ntmps139
 go_upto_region 1 with fail
 refine gen_code (fun Z => Env W [fkC (W.heap.size + 2) (isC' x (.slice xa k xc)), fkC (W.heap.size + 1) (fuC f (.slice va n vc) (.slice ca m cc)), fkC W.heap.size [.slice ha cs.length hc]] Z) (by have h := HE.out; rw [World.size_alloc, World.size_alloc] at h; exact h) ?_
 intro Z hZ
 obtain ⟨b, hb⟩ : ∃ b, b = W.heap.size := ⟨_, rfl⟩
 obtain ⟨bf, hbf⟩ : ∃ b, b = W.heap.size + 1 := ⟨_, rfl⟩
 obtain ⟨bx, hbx⟩ : ∃ b, b = W.heap.size + 2 := ⟨_, rfl⟩
 rw [← hbx, ← hbf, ← hb] at hZ ⊢
 have HZ := Lib.hid hZ
 have e2 := hZ.cell 0 rfl 2 rfl
 have d4 := hZ.cell 1 rfl 4 rfl
 have p1 := HC.out.2.2.2.2 Z hZ.bel
 have c0 := hZ.cell 2 rfl 0 rfl
 obtain ⟨t, ht⟩ : ∃ t, t = vty f x.a := ⟨_, rfl⟩
 rw [← ht] at p1
 have HT := Lib.hid ht
 clear hZ hb hbx hbf HE ht
 go_wp2_with fail
 refine (rIsClass_any cs _ t _ (HC.out.1.below HZ.out.bel)).mono ?_
 rintro e W2 ⟨rfl, b2⟩
 have H2 := Lib.hid (HZ.out.below b2)
 clear b2 e2 d4 p1 c0 ja HZ
 by_cases ht : isC cs t
 ·rw [decide_eq_true ht]
  have HI := Lib.hid ht
  have c0 := H2.out.cell 2 rfl 0 rfl
  have e6 := H2.out.cell 0 rfl 6 rfl
  clear ht
  go_wp2_with fail
  refine (rField_any cs _ t x.m _ (HC.out.1.below H2.out.bel) hl).mono ?_
  rintro e W3 ⟨rfl, b3⟩
  have H3 := Lib.hid (H2.out.below b3)
  clear b3 c0 e6 H2
  cases hx : fieldP cs t x.m with
  | none =>
    clear hx
    unfold fldV
    go_wp2_with fail
    go_ret
    exact ⟨6, rfl, (fun h => by cases h), H3.out.bel⟩
  | some y =>
    obtain ⟨d, u⟩ := y
    have HX := Lib.hid hx
    clear hx
    unfold fldV
    go_upto_region 7 with fail
    have hcase : (x.op = 7 ∧ 0 ≤ x.d ∧ x.d < f.vs.length) ∨ (x.op = 8 ∧ 0 ≤ x.b ∧ x.b < f.vs.length) := by
     rcases HC.out.2.2.2.1 with e | e
     ·rcases HC.out.2.2.1.d (by rw [e]; rfl) with h1 | h1
      ·exact .inl ⟨e, h1⟩
      ·omega
     ·exact .inr ⟨e, HC.out.2.2.1.b (by rw [e]; rfl)⟩
    obtain ⟨Cls, hCls⟩ : ∃ Cls : World → Prop, ∀ Z', Cls Z' ↔ Env W [fkC bx (isC' x (.slice xa k xc)), fkC bf (fuC f (.slice va n vc) (.slice ca m cc)), fkC b [.slice ha cs.length hc]] Z' := ⟨_, fun _ => Iff.rfl⟩
    have hC : Cls W3.drew := (hCls _).2 H3.out.drew
    have k0 := fun q : Wd Cls => (hCls _).1 q.ok
    have hB : ∀ q : Wd Cls, ∀ Z', Below q.val.heap.size q.val Z' → Cls Z' := fun q Z' hb => (hCls _).2 ((k0 q).below hb)
    haveI hne : Nonempty (Wd Cls) := ⟨⟨_, hC⟩⟩
    have e0 : ∀ q : Wd Cls, q.val.cell? ⟨bx, 0, none⟩ = some (.int .i64 x.op) := fun q => (k0 q).cell 0 rfl 0 rfl
    have d4 : ∀ q : Wd Cls, q.val.cell? ⟨bf, 4, none⟩ = some (.slice va n vc) := fun q => (k0 q).cell 1 rfl 4 rfl
    have c0 : ∀ q : Wd Cls, q.val.cell? ⟨b, 0, none⟩ = some (.slice ha cs.length hc) := fun q => (k0 q).cell 2 rfl 0 rfl
    have e1 : ∀ q : Wd Cls, q.val.cell? ⟨bx, 1, none⟩ = some (.int .i64 x.d) := fun q => (k0 q).cell 0 rfl 1 rfl
    have e3 : ∀ q : Wd Cls, q.val.cell? ⟨bx, 3, none⟩ = some (.int .i64 x.b) := fun q => (k0 q).cell 0 rfl 3 rfl
    have HK := Lib.hid k0
    have HCC := Lib.hid hC
    rcases hcase with ⟨h7, hd1, hd2⟩ | ⟨h8, hd1, hd2⟩
    ·obtain ⟨jd, zd⟩ := vd_at HC.out.2.1.1 HC.out.2.1.2 hd1 hd2
     obtain ⟨w, hw⟩ : ∃ w, w = vty f x.d := ⟨_, rfl⟩
     rw [← hw] at zd
     have p1 : ∀ q : Wd Cls, q.val.cell? ⟨blk va, ofs va + x.d.toNat * 2 + 1, none⟩ = some (.string w) := fun q => zd q.val (k0 q).bel
     obtain ⟨fb, hfb⟩ : ∃ q, q = fitsB cs u w := ⟨_, rfl⟩
     have f1 : ∀ q : Wd Cls, Calls Tryz.prog 138 #[.agg #[.slice ha cs.length hc], .string u, .string w] q.val fun e w'' => e = .returned (.bool fb) ∧ ∃ r : Wd Cls, w'' = r.val := fun q => cls_bel (hB q) (by rw [hfb]; exact rFits_any cs _ u w q.val (HC.out.1.below (k0 q).bel) hl)
     have F1 := Lib.hid f1
     have HR := Lib.hid (And.intro h7 (And.intro hw hfb))
     have t7 : (x.op == 7) = true := by simp [h7]
     have t8 : (x.op == 8) = false := by simp [h7]
     clear hCls hC k0 hB f1 hw hfb h7 hd1 hd2 zd
     cases fb
     ·refine wp_region_class Cls (by kernel_rfl) (by kernel_rfl) HCC.out ?_
      repeat (go_big_quiet_step ((go_at_call 138; exact F1.out _)))
      refine wpQuiet_nil ?_
      rintro _ ⟨q9, rfl⟩
      have H9 := Lib.hid (HK.out q9)
      clear e0 d4 c0 e1 e3 p1
      go_wp2_with fail
      go_ret
      exact ⟨8, rfl, (fun h => by cases h), H9.out.bel⟩
     ·refine wp_region_class Cls (by kernel_rfl) (by kernel_rfl) HCC.out ?_
      repeat (go_big_quiet_step ((go_at_call 138; exact F1.out _)))
      refine wpQuiet_nil ?_
      rintro _ ⟨q9, rfl⟩
      have H9 := Lib.hid (HK.out q9)
      clear e0 d4 c0 e1 e3 p1
      go_wp2_with fail
      go_ret
      exact ⟨0, rfl, fun _ => ⟨by rw [← HT.out]; exact HI.out, d, u, by rw [← HT.out]; exact HX.out, fun _ => by rw [← HR.out.2.1]; exact fitsB_ok HR.out.2.2.symm, fun h => by have := HR.out.1; omega⟩, H9.out.bel⟩
    ·obtain ⟨jd, zd⟩ := vd_at HC.out.2.1.1 HC.out.2.1.2 hd1 hd2
     obtain ⟨w, hw⟩ : ∃ w, w = vty f x.b := ⟨_, rfl⟩
     rw [← hw] at zd
     have p1 : ∀ q : Wd Cls, q.val.cell? ⟨blk va, ofs va + x.b.toNat * 2 + 1, none⟩ = some (.string w) := fun q => zd q.val (k0 q).bel
     obtain ⟨fb, hfb⟩ : ∃ q, q = fitsB cs w u := ⟨_, rfl⟩
     have f1 : ∀ q : Wd Cls, Calls Tryz.prog 138 #[.agg #[.slice ha cs.length hc], .string w, .string u] q.val fun e w'' => e = .returned (.bool fb) ∧ ∃ r : Wd Cls, w'' = r.val := fun q => cls_bel (hB q) (by rw [hfb]; exact rFits_any cs _ w u q.val (HC.out.1.below (k0 q).bel) hl)
     have F1 := Lib.hid f1
     have HR := Lib.hid (And.intro h8 (And.intro hw hfb))
     have t7 : (x.op == 7) = false := by simp [h8]
     have t8 : (x.op == 8) = true := by simp [h8]
     clear hCls hC k0 hB f1 hw hfb h8 hd1 hd2 zd
     cases fb
     ·refine wp_region_class Cls (by kernel_rfl) (by kernel_rfl) HCC.out ?_
      repeat (go_big_quiet_step ((go_at_call 138; exact F1.out _)))
      refine wpQuiet_nil ?_
      rintro _ ⟨q9, rfl⟩
      have H9 := Lib.hid (HK.out q9)
      clear e0 d4 c0 e1 e3 p1
      go_wp2_with fail
      go_ret
      exact ⟨8, rfl, (fun h => by cases h), H9.out.bel⟩
     ·refine wp_region_class Cls (by kernel_rfl) (by kernel_rfl) HCC.out ?_
      repeat (go_big_quiet_step ((go_at_call 138; exact F1.out _)))
      refine wpQuiet_nil ?_
      rintro _ ⟨q9, rfl⟩
      have H9 := Lib.hid (HK.out q9)
      clear e0 d4 c0 e1 e3 p1
      go_wp2_with fail
      go_ret
      exact ⟨0, rfl, fun _ => ⟨by rw [← HT.out]; exact HI.out, d, u, by rw [← HT.out]; exact HX.out, fun h => by have := HR.out.1; omega, fun _ => by rw [← HR.out.2.1]; exact fitsB_ok HR.out.2.2.symm⟩, H9.out.bel⟩
 ·rw [decide_eq_false ht]
  clear ht
  go_wp2_with fail
  go_ret
  exact ⟨8, rfl, (fun h => by cases h), H2.out.bel⟩
end Go.Proofs.YtnklnklkblgnfaaGreat
end
section
namespace Go.Proofs.YtnklnklkblgnfaaGreat
open Go.RowKit Go.Dfl Go.Obs Go.Hir
open Go.Gra (gen_code gen_calls)
structure IntsOk (cs : List Cl) (f : Fu) (x : Is) : Prop where
 const : x.op = 1 ∨ x.op = 5 → vty f x.d = tI
 null : x.op = 2 → vty f x.d ≠ tI
 copy : x.op = 3 → Hir.Fits cs (vty f x.a) (vty f x.d)
 bin : x.op = 4 → vty f x.d = tI
 shift : x.op = 16 → vty f x.a = tI ∧ vty f x.d = tI
 throw : x.op = 14 → vty f x.a ≠ tI
 ret : x.op = 13 → x.a ≠ -1 → Hir.Fits cs (vty f x.a) f.r
def IntsR (cs : List Cl) (f : Fu) (x : Is) (W : World) (e : Ending) (W' : World) : Prop := ∃ b : Bool, e = .returned (.bool b) ∧ (b = true → IntsOk cs f x) ∧ Below W.heap.size W W'
def tyD (f : Fu) (x : Is) : ByteArray := if hasB x.op 100 = true then vty f x.d else ⟨#[]⟩
def tyA (f : Fu) (x : Is) : ByteArray := if (hasB x.op 97 && decide (0 ≤ x.a)) = true then vty f x.a else ⟨#[]⟩
def tyB (f : Fu) (x : Is) : ByteArray := if hasB x.op 98 = true then vty f x.b else ⟨#[]⟩
set_option maxHeartbeats 6400000 in
set_option maxRecDepth 8000 in
theorem rInts_any (cs : List Cl) (hv : Value) (f : Fu) (vv cv : Value) (x : Is) (v : Value) (W : World) (h : InS vCl W hv cs) (hl : cs.length ≤ 1000000) (hvv : InS vVd W vv f.vs) (hcv : InS vIs W cv f.cd) (hxv : InS vI W v x.ar) (hr : Rng f x) (hop : x.op ≠ 9 ∧ x.op ≠ 10) :
  Calls Tryz.prog 141 #[.agg #[hv], fuV f vv cv, isV x v] W (IntsR cs f x W) := by
 obtain ⟨ha, hc, rfl⟩ := h.shape
 obtain ⟨va, vc, rfl⟩ := hvv.shape
 obtain ⟨ca, cc, rfl⟩ := hcv.shape
 obtain ⟨xa, xc, rfl⟩ := hxv.shape
 obtain ⟨n, hn⟩ : ∃ n, n = f.vs.length := ⟨_, rfl⟩
 obtain ⟨m, hm⟩ : ∃ n, n = f.cd.length := ⟨_, rfl⟩
 obtain ⟨k, hk⟩ : ∃ n, n = x.ar.length := ⟨_, rfl⟩
 rw [← hn] at hvv
 rw [← hn, ← hm, ← hk]
 have HE := Lib.hid ((((Env.refl W).alloc [.slice ha cs.length hc] 24).alloc (fuC f (.slice va n vc) (.slice ca m cc)) 45).alloc (isC' x (.slice xa k xc)) 87)
 have HC := Lib.hid (And.intro h (And.intro (And.intro hvv hn) (And.intro hr hop)))
 clear h hvv hcv hxv hr hop hn hm hk
 unfold fuV isV
 go_enter Tryz.func141, Tryz.ntmps141
 go_upto_region 1 with fail
 refine gen_code (fun Z => Env W [fkC (W.heap.size + 2) (isC' x (.slice xa k xc)), fkC (W.heap.size + 1) (fuC f (.slice va n vc) (.slice ca m cc)), fkC W.heap.size [.slice ha cs.length hc]] Z) (by have h := HE.out; rw [World.size_alloc, World.size_alloc] at h; exact h) ?_
 intro Z hZ
 obtain ⟨b, hb⟩ : ∃ b, b = W.heap.size := ⟨_, rfl⟩
 obtain ⟨bf, hbf⟩ : ∃ b, b = W.heap.size + 1 := ⟨_, rfl⟩
 obtain ⟨bx, hbx⟩ : ∃ b, b = W.heap.size + 2 := ⟨_, rfl⟩
 rw [← hbx, ← hbf, ← hb] at hZ ⊢
 have HZ := Lib.hid hZ
 have e0 := hZ.cell 0 rfl 0 rfl
 clear hZ hb hbx hbf HE
 go_wp2_with fail
 refine (rHas_any x.op 100 _).mono ?_
 rintro e W1 ⟨rfl, b1⟩
 have H1 := Lib.hid (HZ.out.below b1)
 obtain ⟨qd, hqd⟩ : ∃ q, q = hasB x.op 100 := ⟨_, rfl⟩
 rw [← hqd]
 have HQD := Lib.hid hqd
 obtain ⟨td, htd⟩ : ∃ t, t = tyD f x := ⟨_, rfl⟩
 have HTD := Lib.hid htd
 clear hqd b1 e0 HZ htd
 go_upto_if 12 with fail
 go_cut [7] (fun q wx => q = .string td ∧ wx = W1)
 case first =>
  cases qd
  ·have HT := Lib.hid (show td = ⟨#[]⟩ by rw [HTD.out]; unfold tyD; rw [← HQD.out]; rfl)
   go_wp2_with fail
   go_meet
   case rel => exact ⟨by rw [HT.out], rfl⟩
  ·have HT := Lib.hid (show td = vty f x.d by rw [HTD.out]; unfold tyD; rw [← HQD.out]; rfl)
   have hd : 0 ≤ x.d ∧ x.d < f.vs.length := by
    rcases HC.out.2.2.1.d HQD.out.symm with h1 | ⟨h1, -⟩
    ·exact h1
    ·have := HC.out.2.2.2; omega
   obtain ⟨jd, zd⟩ := vd_at HC.out.2.1.1 HC.out.2.1.2 hd.1 hd.2
   have p1 := zd W1 H1.out.bel
   rw [← HT.out] at p1
   have d4 := H1.out.cell 1 rfl 4 rfl
   have e1 := H1.out.cell 0 rfl 1 rfl
   clear hd zd
   go_wp2_with fail
   go_meet
   case rel => exact ⟨rfl, rfl⟩
 case rest =>
 obtain ⟨rfl, rfl⟩ := hcut
 obtain ⟨ga, hga⟩ : ∃ q, q = (hasB x.op 97 && decide (0 ≤ x.a)) := ⟨_, rfl⟩
 have HGA := Lib.hid hga
 obtain ⟨ta, hta⟩ : ∃ t, t = tyA f x := ⟨_, rfl⟩
 have HTA := Lib.hid hta
 clear hga HQD hta
 go_upto_region 4 with fail
 go_cut [27] (fun q wx => q = .bool ga ∧ Env W [fkC bx (isC' x (.slice xa k xc)), fkC bf (fuC f (.slice va n vc) (.slice ca m cc)), fkC b [.slice ha cs.length hc]] wx)
 case first =>
  have e0 := H1.out.cell 0 rfl 0 rfl
  go_wp2_with fail
  refine (rHas_any x.op 97 _).mono ?_
  rintro e W2 ⟨rfl, b2⟩
  have H2 := Lib.hid (H1.out.below b2)
  obtain ⟨qa, hqa⟩ : ∃ q, q = hasB x.op 97 := ⟨_, rfl⟩
  rw [← hqa]
  have HQA := Lib.hid hqa
  have e2 := H2.out.cell 0 rfl 2 rfl
  clear hqa b2 e0
  cases qa
  ·have HT := Lib.hid (show ga = false by rw [HGA.out, ← HQA.out]; rfl)
   go_wp2_with fail
   go_meet
   case rel => exact ⟨by rw [HT.out], H2.out⟩
  ·by_cases h0 : 0 ≤ x.a
   ·have HT := Lib.hid (show ga = true by rw [HGA.out, ← HQA.out, decide_eq_true h0]; rfl)
    go_wp2_with fail
    go_meet
    case rel => exact ⟨by rw [HT.out], H2.out⟩
   ·have hd : decide (0 ≤ x.a) = false := decide_eq_false h0
    have HT := Lib.hid (show ga = false by rw [HGA.out, ← HQA.out, hd]; rfl)
    go_wp2_with fail
    go_meet
    case rel => exact ⟨by rw [HT.out], H2.out⟩
 case rest =>
 obtain ⟨rfl, hE⟩ := hcut
 have H2 := Lib.hid hE
 clear hE H1
 go_upto_if 27 with fail
 go_cut [8] (fun q wx => q = .string ta ∧ Env W [fkC bx (isC' x (.slice xa k xc)), fkC bf (fuC f (.slice va n vc) (.slice ca m cc)), fkC b [.slice ha cs.length hc]] wx)
 case first =>
  cases ga
  ·have HT := Lib.hid (show ta = ⟨#[]⟩ by rw [HTA.out]; unfold tyA; rw [← HGA.out]; rfl)
   go_wp2_with fail
   go_meet
   case rel => exact ⟨by rw [HT.out], H2.out⟩
  ·have HT := Lib.hid (show ta = vty f x.a by rw [HTA.out]; unfold tyA; rw [← HGA.out]; rfl)
   have hga := HGA.out.symm
   rw [Bool.and_eq_true, decide_eq_true_eq] at hga
   have hd : 0 ≤ x.a ∧ x.a < f.vs.length := by
    rcases HC.out.2.2.1.a hga.1 with h1 | ⟨-, h1⟩
    ·exact h1
    ·omega
   obtain ⟨jd, zd⟩ := vd_at HC.out.2.1.1 HC.out.2.1.2 hd.1 hd.2
   have p1 := zd _ H2.out.bel
   rw [← HT.out] at p1
   have d4 := H2.out.cell 1 rfl 4 rfl
   have e1 := H2.out.cell 0 rfl 2 rfl
   clear hd zd hga
   go_wp2_with fail
   go_meet
   case rel => exact ⟨rfl, H2.out⟩
 case rest =>
 obtain ⟨rfl, hE⟩ := hcut
 have H3 := Lib.hid hE
 clear hE H2 HGA
 have e0 := H3.out.cell 0 rfl 0 rfl
 go_wp2_with fail
 refine (rHas_any x.op 98 _).mono ?_
 rintro e W4 ⟨rfl, b4⟩
 have H4 := Lib.hid (H3.out.below b4)
 obtain ⟨qb, hqb⟩ : ∃ q, q = hasB x.op 98 := ⟨_, rfl⟩
 rw [← hqb]
 have HQB := Lib.hid hqb
 obtain ⟨tb, htb⟩ : ∃ t, t = tyB f x := ⟨_, rfl⟩
 have HTB := Lib.hid htb
 clear hqb b4 e0 H3 htb
 go_upto_if 37 with fail
 go_cut [9] (fun q wx => q = .string tb ∧ wx = W4)
 case first =>
  cases qb
  ·have HT := Lib.hid (show tb = ⟨#[]⟩ by rw [HTB.out]; unfold tyB; rw [← HQB.out]; rfl)
   go_wp2_with fail
   go_meet
   case rel => exact ⟨by rw [HT.out], rfl⟩
  ·have HT := Lib.hid (show tb = vty f x.b by rw [HTB.out]; unfold tyB; rw [← HQB.out]; rfl)
   have hd := HC.out.2.2.1.b HQB.out.symm
   obtain ⟨jd, zd⟩ := vd_at HC.out.2.1.1 HC.out.2.1.2 hd.1 hd.2
   have p1 := zd W4 H4.out.bel
   rw [← HT.out] at p1
   have d4 := H4.out.cell 1 rfl 4 rfl
   have e1 := H4.out.cell 0 rfl 3 rfl
   clear hd zd
   go_wp2_with fail
   go_meet
   case rel => exact ⟨rfl, rfl⟩
 case rest =>
 obtain ⟨rfl, rfl⟩ := hcut
 have e0 := H4.out.cell 0 rfl 0 rfl
 have HV := Lib.hid (show (hasB x.op 100 = true → td = vty f x.d) ∧ (hasB x.op 97 = true → 0 ≤ x.a → ta = vty f x.a) from ⟨fun h => by rw [HTD.out]; unfold tyD; rw [if_pos h], fun h h0 => by rw [HTA.out]; unfold tyA; rw [h, decide_eq_true h0]; rfl⟩)
 by_cases h1 : x.op = 1 ∨ x.op = 5
 ·have HD := Lib.hid (HV.out.1 (by rcases h1 with e | e <;> rw [e] <;> rfl))
  have HO := Lib.hid h1
  have h15 : x.op = 1 ∨ x.op = 5 := h1
  by_cases ht : td = tI
  ·have t0 : (td.toList == [105, 110, 116]) = true := tl_lit ht
   have HK := Lib.hid (show IntsOk cs f x from ⟨fun _ => by rw [← HD.out]; exact ht, fun h => by have := HO.out; omega, fun h => by have := HO.out; omega, fun h => by have := HO.out; omega, fun h => by have := HO.out; omega, fun h => by have := HO.out; omega, fun h => by have := HO.out; omega⟩)
   clear ht h1
   rcases h15 with h | h <;> (rw [h] at e0; clear h; go_wp2_with fail; go_ret; exact ⟨true, rfl, fun _ => HK.out, H4.out.bel⟩)
  ·have t0 : (td.toList == [105, 110, 116]) = false := tl_litn ht
   clear ht h1
   rcases h15 with h | h <;> (rw [h] at e0; clear h; go_wp2_with fail; go_ret; exact ⟨false, rfl, (fun h => by cases h), H4.out.bel⟩)
 by_cases h2 : x.op = 2
 ·have HD := Lib.hid (HV.out.1 (by rw [h2]; rfl))
  have HO := Lib.hid h2
  rw [h2] at e0
  clear h1 h2
  by_cases ht : td = tI
  ·have t0 : (td.toList == [105, 110, 116]) = true := tl_lit ht
   have t1 : (td.toList != [105, 110, 116]) = false := by rw [bne, t0]; rfl
   clear ht
   go_wp2_with fail
   go_ret
   exact ⟨false, rfl, (fun h => by cases h), H4.out.bel⟩
  ·have t0 : (td.toList == [105, 110, 116]) = false := tl_litn ht
   have t1 : (td.toList != [105, 110, 116]) = true := by rw [bne, t0]; rfl
   have HK := Lib.hid (show IntsOk cs f x from ⟨fun h => by have := HO.out; omega, fun _ => by rw [← HD.out]; exact ht, fun h => by have := HO.out; omega, fun h => by have := HO.out; omega, fun h => by have := HO.out; omega, fun h => by have := HO.out; omega, fun h _ => by have := HO.out; omega⟩)
   clear ht
   go_wp2_with fail
   go_ret
   exact ⟨true, rfl, fun _ => HK.out, H4.out.bel⟩
 by_cases h2 : x.op = 3
 ·have HD := Lib.hid (HV.out.1 (by rw [h2]; rfl))
  have ha0 : 0 ≤ x.a := by
   rcases HC.out.2.2.1.a (by rw [h2]; rfl) with h | ⟨h, -⟩
   ·exact h.1
   ·omega
  have HA := Lib.hid (HV.out.2 (by rw [h2]; rfl) ha0)
  have HO := Lib.hid h2
  rw [h2] at e0
  have c0 := H4.out.cell 2 rfl 0 rfl
  clear h1 h2 ha0
  go_wp2_with fail
  refine (rFits_any cs _ ta td _ (HC.out.1.below H4.out.bel) hl).mono ?_
  rintro e W5 ⟨rfl, b5⟩
  obtain ⟨q, hq⟩ : ∃ q, q = fitsB cs ta td := ⟨_, rfl⟩
  rw [← hq]
  have H5 := Lib.hid (And.intro (H4.out.below b5).bel hq)
  clear b5 hq
  go_wp2_with fail
  go_ret
  exact ⟨q, rfl, fun hq => ⟨fun h => by have := HO.out; omega, fun h => by have := HO.out; omega, fun _ => by rw [← HA.out, ← HD.out]; exact fitsB_ok (by rw [← H5.out.2]; exact hq), fun h => by have := HO.out; omega, fun h => by have := HO.out; omega, fun h => by have := HO.out; omega, fun h _ => by have := HO.out; omega⟩, H5.out.1⟩
 by_cases h2 : x.op = 14
 ·have ha0 : 0 ≤ x.a := by
   rcases HC.out.2.2.1.a (by rw [h2]; rfl) with h | ⟨h, -⟩
   ·exact h.1
   ·omega
  have HA := Lib.hid (HV.out.2 (by rw [h2]; rfl) ha0)
  have HO := Lib.hid h2
  rw [h2] at e0
  clear h1 h2 ha0
  by_cases ht : ta = tI
  ·have t0 : (ta.toList == [105, 110, 116]) = true := tl_lit ht
   have t1 : (ta.toList != [105, 110, 116]) = false := by rw [bne, t0]; rfl
   clear ht
   go_wp2_with fail
   go_ret
   exact ⟨false, rfl, (fun h => by cases h), H4.out.bel⟩
  ·have t0 : (ta.toList == [105, 110, 116]) = false := tl_litn ht
   have t1 : (ta.toList != [105, 110, 116]) = true := by rw [bne, t0]; rfl
   have HK := Lib.hid (show IntsOk cs f x from ⟨fun h => by have := HO.out; omega, fun h => by have := HO.out; omega, fun h => by have := HO.out; omega, fun h => by have := HO.out; omega, fun h => by have := HO.out; omega, fun _ => by rw [← HA.out]; exact ht, fun h _ => by have := HO.out; omega⟩)
   clear ht
   go_wp2_with fail
   go_ret
   exact ⟨true, rfl, fun _ => HK.out, H4.out.bel⟩
 by_cases h2 : x.op = 16
 ·have HD := Lib.hid (HV.out.1 (by rw [h2]; rfl))
  have ha0 : 0 ≤ x.a := by
   rcases HC.out.2.2.1.a (by rw [h2]; rfl) with h | ⟨h, -⟩
   ·exact h.1
   ·omega
  have HA := Lib.hid (HV.out.2 (by rw [h2]; rfl) ha0)
  have HO := Lib.hid h2
  rw [h2] at e0
  clear h1 h2 ha0
  by_cases ht : ta = tI
  ·have t0 : (ta.toList == [105, 110, 116]) = true := tl_lit ht
   by_cases hd : td = tI
   ·have t1 : (td.toList == [105, 110, 116]) = true := tl_lit hd
    have HK := Lib.hid (show IntsOk cs f x from ⟨fun h => by have := HO.out; omega, fun h => by have := HO.out; omega, fun h => by have := HO.out; omega, fun h => by have := HO.out; omega, fun _ => ⟨by rw [← HA.out]; exact ht, by rw [← HD.out]; exact hd⟩, fun h => by have := HO.out; omega, fun h _ => by have := HO.out; omega⟩)
    clear ht hd
    go_wp2_with fail
    go_ret
    exact ⟨true, rfl, fun _ => HK.out, H4.out.bel⟩
   ·have t1 : (td.toList == [105, 110, 116]) = false := tl_litn hd
    clear ht hd
    go_wp2_with fail
    go_ret
    exact ⟨false, rfl, (fun h => by cases h), H4.out.bel⟩
  ·have t0 : (ta.toList == [105, 110, 116]) = false := tl_litn ht
   clear ht
   go_wp2_with fail
   go_ret
   exact ⟨false, rfl, (fun h => by cases h), H4.out.bel⟩
 by_cases h2 : x.op = 11
 ·have HO := Lib.hid h2
  have HK := Lib.hid (show IntsOk cs f x from ⟨fun h => by have := HO.out; omega, fun h => by have := HO.out; omega, fun h => by have := HO.out; omega, fun h => by have := HO.out; omega, fun h => by have := HO.out; omega, fun h => by have := HO.out; omega, fun h _ => by have := HO.out; omega⟩)
  rw [h2] at e0
  clear h1 h2
  by_cases ht : ta = tI
  ·have t0 : (ta.toList == [105, 110, 116]) = true := tl_lit ht
   clear ht
   go_wp2_with fail
   go_ret
   exact ⟨true, rfl, fun _ => HK.out, H4.out.bel⟩
  ·have t0 : (ta.toList == [105, 110, 116]) = false := tl_litn ht
   clear ht
   go_wp2_with fail
   go_ret
   exact ⟨false, rfl, (fun h => by cases h), H4.out.bel⟩
 by_cases h2 : x.op = 4
 ·have HD := Lib.hid (HV.out.1 (by rw [h2]; rfl))
  have HO := Lib.hid h2
  rw [h2] at e0
  have e4 := H4.out.cell 0 rfl 4 rfl
  clear h1 h2
  obtain ⟨qa, ta0⟩ : ∃ q, (ta.toList == [105, 110, 116]) = q := ⟨_, rfl⟩
  obtain ⟨qb, tb0⟩ : ∃ q, (tb.toList == [105, 110, 116]) = q := ⟨_, rfl⟩
  obtain ⟨qn, tn0⟩ : ∃ q, (x.n == 5) = q := ⟨_, rfl⟩
  have ta1 : (ta.toList != [105, 110, 116]) = !qa := by rw [bne, ta0]
  have tb1 : (tb.toList != [105, 110, 116]) = !qb := by rw [bne, tb0]
  by_cases ht : td = tI
  ·have t0 : (td.toList == [105, 110, 116]) = true := tl_lit ht
   have HK := Lib.hid (show IntsOk cs f x from ⟨fun h => by have := HO.out; omega, fun h => by have := HO.out; omega, fun h => by have := HO.out; omega, fun _ => by rw [← HD.out]; exact ht, fun h => by have := HO.out; omega, fun h => by have := HO.out; omega, fun h _ => by have := HO.out; omega⟩)
   clear ht
   cases qa <;> cases qb <;> cases qn <;> (simp only [Bool.not_true, Bool.not_false] at ta1 tb1; go_wp2_with fail; go_ret; exact ⟨_, rfl, fun _ => HK.out, H4.out.bel⟩)
  ·have t0 : (td.toList == [105, 110, 116]) = false := tl_litn ht
   clear ht ta0 tb0 tn0 ta1 tb1
   go_wp2_with fail
   go_ret
   exact ⟨false, rfl, (fun h => by cases h), H4.out.bel⟩
 by_cases h2 : x.op = 13
 ·have HO := Lib.hid h2
  rw [h2] at e0
  have e4 := H4.out.cell 0 rfl 2 rfl
  by_cases ha : x.a = -1
  ·have HK := Lib.hid (show IntsOk cs f x from ⟨fun h => by have := HO.out; omega, fun h => by have := HO.out; omega, fun h => by have := HO.out; omega, fun h => by have := HO.out; omega, fun h => by have := HO.out; omega, fun h => by have := HO.out; omega, fun _ h => absurd ha h⟩)
   have t0 : (x.a == -1) = true := by simp [ha]
   clear h1 h2 ha
   go_wp2_with fail
   go_ret
   exact ⟨true, rfl, fun _ => HK.out, H4.out.bel⟩
  ·have ha0 : 0 ≤ x.a := by
    rcases HC.out.2.2.1.a (by rw [h2]; rfl) with h | ⟨-, h⟩
    ·exact h.1
    ·exact absurd h ha
   have HA := Lib.hid (HV.out.2 (by rw [h2]; rfl) ha0)
   have t0 : (x.a == -1) = false := by simpa using ha
   have c0 := H4.out.cell 2 rfl 0 rfl
   have d5 := H4.out.cell 1 rfl 5 rfl
   clear h1 h2 ha ha0
   go_wp2_with fail
   refine (rFits_any cs _ ta f.r _ (HC.out.1.below H4.out.bel) hl).mono ?_
   rintro e W5 ⟨rfl, b5⟩
   obtain ⟨q, hq⟩ : ∃ q, q = fitsB cs ta f.r := ⟨_, rfl⟩
   rw [← hq]
   have H5 := Lib.hid (And.intro (H4.out.below b5).bel hq)
   clear b5 hq
   go_wp2_with fail
   go_ret
   exact ⟨q, rfl, fun hq => ⟨fun h => by have := HO.out; omega, fun h => by have := HO.out; omega, fun h => by have := HO.out; omega, fun h => by have := HO.out; omega, fun h => by have := HO.out; omega, fun h => by have := HO.out; omega, fun _ _ => by rw [← HA.out]; exact fitsB_ok (by rw [← H5.out.2]; exact hq)⟩, H5.out.1⟩
 rename_i n2 n3 n14 n16 n11 n4
 have HK := Lib.hid (show IntsOk cs f x from ⟨fun h => absurd h h1, fun h => absurd h n2, fun h => absurd h n3, fun h => absurd h n4, fun h => absurd h n16, fun h => absurd h n14, fun h => absurd h h2⟩)
 have t1 : (x.op == 1) = false := by simpa using fun h => h1 (.inl h)
 have t5 : (x.op == 5) = false := by simpa using fun h => h1 (.inr h)
 have t2 : (x.op == 2) = false := by simpa using n2
 have t3 : (x.op == 3) = false := by simpa using n3
 have t16 : (x.op == 16) = false := by simpa using n16
 have t11 : (x.op == 11) = false := by simpa using n11
 have t14 : (x.op == 14) = false := by simpa using n14
 have t4 : (x.op == 4) = false := by simpa using n4
 have t13 : (x.op == 13) = false := by simpa using h2
 clear h1 n2 n3 n14 n16 n11 n4 h2
 go_wp2_with fail
 go_ret
 exact ⟨true, rfl, fun _ => HK.out, H4.out.bel⟩
end Go.Proofs.YtnklnklkblgnfaaGreat
end
section
namespace Go.Proofs.YtnklnklkblgnfaaGreat
open Go.RowKit Go.Dfl Go.Obs Go.Hir
open Go.Gra (gen_code gen_calls)
def CallPart (cs : List Cl) (f : Fu) (x : Is) (s : Sg) : Prop :=
 (x.op = 9 → isC cs (vty f x.a) ∧ vty f x.a = x.c ∧ ∃ c, methP cs x.c x.m = some (c, s) ∧ s.st = false) ∧ (x.op = 10 → methP cs x.c x.m = some (x.c, s) ∧ s.st = true)
def CallR (cs : List Cl) (f : Fu) (x : Is) (W : World) (e : Ending) (W' : World) : Prop := ∃ n : Int, e = .returned (.int .i64 n) ∧ (n = 0 → ∃ s, CallPart cs f x s ∧ Sig cs f x s) ∧ Below W.heap.size W W'
def CutS (cs : List Cl) (f : Fu) (x : Is) (W : World) (bs : Nat) (L : List Fk) (q : Value) (wx : World) : Prop :=
 ∃ (ok : Bool) (s : Sg) (pa : Option Addr) (pc : Nat), q = .bool ok ∧ Env W (fkC bs [.string s.n, .bool s.st, .slice pa s.ps.length pc, .string s.r] :: L) wx ∧ InS vS W (.slice pa s.ps.length pc) s.ps ∧ (ok = true → CallPart cs f x s)
theorem fkC3_grown {bs bx bf b : Nat} {c1 c2 c3 : List Value} {Z Z' : World} (hg : Z.grownBy Z' (some bs)) (h1 : bs ≠ bx) (h2 : bs ≠ bf) (h3 : bs ≠ b) : ∀ f ∈ [fkC bx c1, fkC bf c2, fkC b c3], f.p Z → f.p Z' := fun f hf hp => by
 simp only [List.mem_cons, List.not_mem_nil, or_false] at hf
 rcases hf with rfl | rfl | rfl
 ·exact fkC_grown hp hg (fun e => h1 (Option.some.inj e).symm)
 ·exact fkC_grown hp hg (fun e => h2 (Option.some.inj e).symm)
 ·exact fkC_grown hp hg (fun e => h3 (Option.some.inj e).symm)
theorem ins_len {α : Type} [Inhabited α] {V : Vw α} {W : World} {v : Value} {l : List α} (h : InS V W v l) : l.length ≤ 9223372036854775807 := by
 obtain ⟨c, ⟨a, cap, rfl, h1, h2, -⟩, -⟩ := h
 unfold maxLen at h2; omega
theorem str_at {W : World} {pa : Option Addr} {pn pc : Nat} {l : List ByteArray} (h : InS vS W (.slice pa pn pc) l) (hn : pn = l.length) {j : Nat} (hj : j < pn) :
  (∀ Z, (Instr.indexAt 94 (.slice pa pn pc) (.int .i64 (j : Int))).run Tryz.prog Z = .ok (.pointer (some ⟨blk pa, ofs pa + j, none⟩)) Z) ∧ ∀ Z, Below W.heap.size W Z → Z.cell? ⟨blk pa, ofs pa + j, none⟩ = some (.string (nth l j)) := by
 obtain ⟨a, c, he, -, h1, h2⟩ := InS.strs h
 injection he with e1 e2 e3
 subst e1 e3
 subst hn
 refine ⟨fun Z => ?_, (h2 j hj).2.2⟩
 have := h1 (j : Int) (by omega) (by omega) Z
 rw [Int.toNat_natCast] at this; exact this
theorem int_at {W : World} {pa : Option Addr} {pn pc : Nat} {l : List Int} (h : InS vI W (.slice pa pn pc) l) (hn : pn = l.length) {j : Nat} (hj : j < pn) :
  (∀ Z, (Instr.indexAt 85 (.slice pa pn pc) (.int .i64 (j : Int))).run Tryz.prog Z = .ok (.pointer (some ⟨blk pa, ofs pa + j, none⟩)) Z) ∧ ∀ Z, Below W.heap.size W Z → Z.cell? ⟨blk pa, ofs pa + j, none⟩ = some (.int .i64 (nth l j)) := by
 obtain ⟨a, c, he, -, h1, h2⟩ := InS.ints1 h
 injection he with e1 e2 e3
 subst e1 e3
 subst hn
 refine ⟨fun Z => ?_, (h2 j hj).2.2⟩
 have := h1 (j : Int) (by omega) (by omega) Z
 rw [Int.toNat_natCast] at this; exact this
set_option maxHeartbeats 6400000 in
set_option maxRecDepth 8000 in
theorem rCheckCall_any (cs : List Cl) (hv : Value) (f : Fu) (vv cv : Value) (x : Is) (v : Value) (W : World) (h : InS vCl W hv cs) (hl : cs.length ≤ 1000000) (hvv : InS vVd W vv f.vs) (hcv : InS vIs W cv f.cd) (hxv : InS vI W v x.ar) (hr : Rng f x) (hop : x.op = 9 ∨ x.op = 10) :
  Calls Tryz.prog 140 #[.agg #[hv], fuV f vv cv, isV x v] W (CallR cs f x W) := by
 have hxv0 := hxv
 obtain ⟨ha, hc, rfl⟩ := h.shape
 obtain ⟨va, vc, rfl⟩ := hvv.shape
 obtain ⟨ca, cc, rfl⟩ := hcv.shape
 obtain ⟨xa, xc, rfl⟩ := hxv.shape
 obtain ⟨n, hn⟩ : ∃ n, n = f.vs.length := ⟨_, rfl⟩
 obtain ⟨m, hm⟩ : ∃ n, n = f.cd.length := ⟨_, rfl⟩
 obtain ⟨k, hk⟩ : ∃ n, n = x.ar.length := ⟨_, rfl⟩
 rw [← hn] at hvv
 rw [← hk] at hxv
 rw [← hn, ← hm, ← hk]
 have HX := Lib.hid (And.intro hxv hk)
 have hkl : k ≤ 9223372036854775807 := by rw [hk]; exact ins_len hxv0
 have HE := Lib.hid ((((Env.refl W).alloc [.slice ha cs.length hc] 24).alloc (fuC f (.slice va n vc) (.slice ca m cc)) 45).alloc (isC' x (.slice xa k xc)) 87)
 have HC := Lib.hid (And.intro h (And.intro (And.intro hvv hn) (And.intro hr hop)))
 clear h hvv hcv hxv hr hop hn hm hk hxv0
 unfold fuV isV
 go_enter Tryz.func140, Tryz.ntmps140
 go_upto_region 1 with fail
 refine gen_code (fun Z => Env W [fkC (W.heap.size + 2) (isC' x (.slice xa k xc)), fkC (W.heap.size + 1) (fuC f (.slice va n vc) (.slice ca m cc)), fkC W.heap.size [.slice ha cs.length hc]] Z ∧ Z.heap.size = W.heap.size + 3) (by have h := HE.out; rw [World.size_alloc, World.size_alloc] at h; exact ⟨h, by rw [World.size_alloc, World.size_alloc, World.size_alloc]⟩) ?_
 rintro Z ⟨hZ, hz⟩
 obtain ⟨b, hb⟩ : ∃ b, b = W.heap.size := ⟨_, rfl⟩
 obtain ⟨bf, hbf⟩ : ∃ b, b = W.heap.size + 1 := ⟨_, rfl⟩
 obtain ⟨bx, hbx⟩ : ∃ b, b = W.heap.size + 2 := ⟨_, rfl⟩
 obtain ⟨bs, hbs⟩ : ∃ b, b = Z.heap.size := ⟨_, rfl⟩
 have HB := Lib.hid (show b = W.heap.size ∧ bf = W.heap.size + 1 ∧ bx = W.heap.size + 2 ∧ bs = W.heap.size + 3 from ⟨hb, hbf, hbx, by rw [hbs, hz]⟩)
 rw [← hbx, ← hbf, ← hb] at hZ ⊢
 have hE1 := (hZ.below ((Below.refl _ _).alloc (Nat.le_refl _) (.cells #[.string ⟨#[]⟩, .bool false, .slice none 0 0, .string ⟨#[]⟩] 132))).add (q := fkH Z.heap.size (.cells #[.string ⟨#[]⟩, .bool false, .slice none 0 0, .string ⟨#[]⟩] 132)) (heap_alloc_new _ _)
 rw [← hbs] at hE1
 have HZ := Lib.hid (And.intro hE1 hbs)
 clear hZ hb hbx hbf HE hE1 hbs hz
 go_upto_region 2 with fail
 rw [← HZ.out.2]
 refine gen_code (fun Z' => Env W [fkH bs (.cells #[.string ⟨#[]⟩, .bool false, .slice none 0 0, .string ⟨#[]⟩] 132), fkC bx (isC' x (.slice xa k xc)), fkC bf (fuC f (.slice va n vc) (.slice ca m cc)), fkC b [.slice ha cs.length hc]] Z') HZ.out.1 ?_
 intro Y hY
 have HY := Lib.hid hY
 have e0 := hY.cell 1 rfl 0 rfl
 clear hY HZ
 go_upto_if 14 with fail
 go_cut [8] (fun q wx => CutS cs f x W bs [fkC bx (isC' x (.slice xa k xc)), fkC bf (fuC f (.slice va n vc) (.slice ca m cc)), fkC b [.slice ha cs.length hc]] q wx)
 case first =>
  rcases HC.out.2.2.2 with h9 | h10
  ·have hA : 0 ≤ x.a ∧ x.a < f.vs.length := by
    rcases HC.out.2.2.1.a (by rw [h9]; rfl) with h1 | h1
    ·exact h1
    ·omega
   obtain ⟨ja, za⟩ := vd_at HC.out.2.1.1 HC.out.2.1.2 hA.1 hA.2
   have H9 := Lib.hid h9
   have e2 := HY.out.cell 1 rfl 2 rfl
   have d4 := HY.out.cell 2 rfl 4 rfl
   have p1 := za Y HY.out.bel
   have c0 := HY.out.cell 3 rfl 0 rfl
   obtain ⟨t, ht⟩ : ∃ t, t = vty f x.a := ⟨_, rfl⟩
   rw [← ht] at p1
   have HT := Lib.hid ht
   have t9 : (x.op == 9) = true := by simp [h9]
   clear ht h9 hA za
   go_wp2_with fail
   refine (rIsClass_any cs _ t _ (HC.out.1.below HY.out.bel)).mono ?_
   rintro e W2 ⟨rfl, b2⟩
   have H2 := Lib.hid (HY.out.below b2)
   clear b2 e2 d4 p1 c0 ja HY e0
   by_cases ht : isC cs t
   ·rw [decide_eq_true ht]
    have HI := Lib.hid ht
    have e5 := H2.out.cell 1 rfl 5 rfl
    clear ht
    by_cases he : t = x.c
    ·have t1 := tn_eq he
     have t2 := tl_eq he
     have HQ := Lib.hid he
     have c0 := H2.out.cell 3 rfl 0 rfl
     have e6 := H2.out.cell 1 rfl 6 rfl
     clear he
     go_wp2_with fail
     refine (rMeth_any cs _ t x.m _ (HC.out.1.below H2.out.bel) hl).mono ?_
     rintro e W3 ⟨d, s, pv, ok, rfl, hp, hp0, hm, hn, hr, b3⟩
     obtain ⟨pa, pc, rfl⟩ := hp.shape
     obtain ⟨pn, hpn⟩ : ∃ n, n = s.ps.length := ⟨_, rfl⟩
     have HP := Lib.hid (And.intro (hp0 W HC.out.1 H2.out.bel) (And.intro hm hpn))
     have H3 := Lib.hid (H2.out.below b3)
     rw [← hpn]
     clear hp hp0 hm hn hr b3 hpn c0 e6 H2 e5
     have hNB : W3.heap[bs]? = some (.cells #[.string ⟨#[]⟩, .bool false, .slice none 0 0, .string ⟨#[]⟩] 132) := H3.out.fact 0 rfl
     obtain ⟨⟨z0, z1, z2, z3, zf⟩, hC, hG⟩ := store4 (y0 := .string s.n) (y1 := .bool s.st) (y2 := .slice pa pn pc) (y3 := .string s.r) hNB
     have f0 := zf 0
     have f1 := zf 1
     have f2 := zf 2
     have f3 := zf 3
     have c1 := hC 1 _ rfl
     have HS := Lib.hid (show Env W [fkC bs [.string s.n, .bool s.st, .slice pa pn pc, .string s.r], fkC bx (isC' x (.slice xa k xc)), fkC bf (fuC f (.slice va n vc) (.slice ca m cc)), fkC b [.slice ha cs.length hc]] _ from ((H3.out.drop 1).grown hG (fun q e => by injection e with e; have := HB.out; omega) (fkC3_grown hG (by have := HB.out; omega) (by have := HB.out; omega) (by have := HB.out; omega))).add hC)
     clear hNB hC hG zf
     cases ok
     ·go_wp2_with fail
      go_meet
      case rel => exact ⟨false, s, pa, pc, rfl, by rw [← HP.out.2.2]; exact HS.out, HP.out.1, fun h => by cases h⟩
     ·rcases Bool.eq_false_or_eq_true s.st with hst | hst
      ·go_wp2_with fail
       go_meet
       case rel => exact ⟨false, s, pa, pc, rfl, by rw [← HP.out.2.2]; have h5 := HS.out; rw [hst] at h5 ⊢; exact h5, HP.out.1, fun h => by cases h⟩
      ·have HST := Lib.hid hst
       go_wp2_with fail
       go_meet
       case rel => exact ⟨true, s, pa, pc, rfl, by rw [← HP.out.2.2]; have h5 := HS.out; rw [hst] at h5 ⊢; exact h5, HP.out.1, fun _ => ⟨fun _ => ⟨by rw [← HT.out]; exact HI.out, by rw [← HT.out]; exact HQ.out, d, by have := HP.out.2.1; rw [HQ.out] at this; exact this, HST.out⟩, fun h => by have := H9.out; omega⟩⟩
    ·have t1 := tn_ne he
     have t2 := tl_ne he
     clear he
     go_wp2_with fail
     go_ret
     exact ⟨8, rfl, (fun h => by cases h), H2.out.bel⟩
   ·rw [decide_eq_false ht]
    clear ht
    go_wp2_with fail
    go_ret
    exact ⟨8, rfl, (fun h => by cases h), H2.out.bel⟩
  ·have H10 := Lib.hid h10
   have c0 := HY.out.cell 3 rfl 0 rfl
   have e5 := HY.out.cell 1 rfl 5 rfl
   have e6 := HY.out.cell 1 rfl 6 rfl
   have t9 : (x.op == 9) = false := by simp [h10]
   clear h10
   go_wp2_with fail
   refine (rDeclares_any cs _ x.c x.m _ (HC.out.1.below HY.out.bel) hl).mono ?_
   rintro e W3 ⟨s, pv, ok, rfl, hp, hp0, hm, hn, hr, b3⟩
   obtain ⟨pa, pc, rfl⟩ := hp.shape
   obtain ⟨pn, hpn⟩ : ∃ n, n = s.ps.length := ⟨_, rfl⟩
   have HP := Lib.hid (And.intro (hp0 W HC.out.1 HY.out.bel) (And.intro hm hpn))
   have H3 := Lib.hid (HY.out.below b3)
   rw [← hpn]
   clear hp hp0 hm hn hr b3 hpn c0 e5 e6 HY e0
   have hNB : W3.heap[bs]? = some (.cells #[.string ⟨#[]⟩, .bool false, .slice none 0 0, .string ⟨#[]⟩] 132) := H3.out.fact 0 rfl
   obtain ⟨⟨z0, z1, z2, z3, zf⟩, hC, hG⟩ := store4 (y0 := .string s.n) (y1 := .bool s.st) (y2 := .slice pa pn pc) (y3 := .string s.r) hNB
   have f0 := zf 0
   have f1 := zf 1
   have f2 := zf 2
   have f3 := zf 3
   have c1 := hC 1 _ rfl
   have HS := Lib.hid (show Env W [fkC bs [.string s.n, .bool s.st, .slice pa pn pc, .string s.r], fkC bx (isC' x (.slice xa k xc)), fkC bf (fuC f (.slice va n vc) (.slice ca m cc)), fkC b [.slice ha cs.length hc]] _ from ((H3.out.drop 1).grown hG (fun q e => by injection e with e; have := HB.out; omega) (fkC3_grown hG (by have := HB.out; omega) (by have := HB.out; omega) (by have := HB.out; omega))).add hC)
   clear hNB hC hG zf
   go_wp2_with fail
   go_meet
   case rel => exact ⟨ok, s, pa, pc, rfl, by rw [← HP.out.2.2]; exact HS.out, HP.out.1, fun h => ⟨fun h9 => by have := H10.out; omega, fun _ => HP.out.2.1 h⟩⟩
 case rest =>
 obtain ⟨ok, s, pa, pc, rfl, hE, hP, hok⟩ := hcut
 clear HY e0
 cases ok
 ·have H1 := Lib.hid hE
  clear hE hP hok
  go_wp2_with fail
  go_ret
  exact ⟨6, rfl, (fun h => by cases h), H1.out.bel⟩
 obtain ⟨pn, hpn⟩ : ∃ n, n = s.ps.length := ⟨_, rfl⟩
 rw [← hpn] at hE hP
 have HS := Lib.hid (And.intro hE (And.intro hP (And.intro (hok rfl) hpn)))
 have g3 := hE.cell 0 rfl 2 rfl
 have g2 := hE.cell 1 rfl 7 rfl
 clear hE hP hok hpn
 by_cases hnk : pn = k
 case neg =>
  have t0 : (decide ((pn : Int) = (k : Int))) = false := decide_eq_false (by omega)
  have t1 : (decide (pn = k)) = false := decide_eq_false hnk
  have t2 : ((pn : Int) != (k : Int)) = true := by simp; omega
  clear hnk
  go_wp2_with fail
  go_ret
  exact ⟨9, rfl, (fun h => by cases h), HS.out.1.bel⟩
 have HNK := Lib.hid hnk
 have t0 : (decide ((pn : Int) = (k : Int))) = true := decide_eq_true (by omega)
 have t2 : ((pn : Int) != (k : Int)) = false := by simp; omega
 clear hnk
 go_wp2_with fail
 clear g2 g3 t0 t2
 go_loopw [10] (fun z wr => ∃ j : Nat, j ≤ k ∧ z = .int .i64 (j : Int) ∧ Hid (Env W [fkC bs [.string s.n, .bool s.st, .slice pa pn pc, .string s.r], fkC bx (isC' x (.slice xa k xc)), fkC bf (fuC f (.slice va n vc) (.slice ca m cc)), fkC b [.slice ha cs.length hc]] wr) ∧ Hid (∀ i, i < j → Hir.Fits cs (vty f (nth x.ar i)) (nth s.ps i))) (fun z _ => k - (intOf z).toNat)
 case atStart => exact ⟨0, by omega, rfl, HS.out.1, fun i hi => by omega⟩
 case round =>
  obtain ⟨j, hj, rfl, hh, hF⟩ := hrel
  have d7 := hh.out.cell 1 rfl 7 rfl
  by_cases hlt : j < k
  ·have hki : (j : Int) < (k : Int) := by omega
   obtain ⟨yi, hyi⟩ : ∃ q, q = nth x.ar j := ⟨_, rfl⟩
   obtain ⟨us, hus⟩ : ∃ q, q = nth s.ps j := ⟨_, rfl⟩
   have hR := HC.out.2.2.1.l (by rcases HC.out.2.2.2 with e | e <;> rw [e] <;> rfl) yi (by rw [hyi]; exact nth_mem _ _ (by rw [← HX.out.2]; exact hlt))
   obtain ⟨i1, z1⟩ := int_at HX.out.1 HX.out.2 hlt
   obtain ⟨i2, z2⟩ := str_at HS.out.2.1 HS.out.2.2.2 (j := j) (by rw [HNK.out]; exact hlt)
   obtain ⟨i3, z3⟩ := vd_at HC.out.2.1.1 HC.out.2.1.2 hR.1 hR.2
   rw [← hyi] at z1
   rw [← hus] at z2
   obtain ⟨ws, hws⟩ : ∃ q, q = vty f yi := ⟨_, rfl⟩
   rw [← hws] at z3
   have HV := Lib.hid (And.intro (And.intro hyi hus) (And.intro hws (And.intro hF hlt)))
   have hlt2 : j < pn := by rw [HNK.out]; exact hlt
   go_upto_region 17 with fail
   clear d7
   obtain ⟨Cls, hCls⟩ : ∃ Cls : World → Prop, ∀ Z', Cls Z' ↔ Env W [fkC bs [.string s.n, .bool s.st, .slice pa pn pc, .string s.r], fkC bx (isC' x (.slice xa k xc)), fkC bf (fuC f (.slice va n vc) (.slice ca m cc)), fkC b [.slice ha cs.length hc]] Z' := ⟨_, fun _ => Iff.rfl⟩
   have hC : Cls wr.drew := (hCls _).2 hh.out.drew
   have k0 := fun q : Wd Cls => (hCls _).1 q.ok
   have hB : ∀ q : Wd Cls, ∀ Z', Below q.val.heap.size q.val Z' → Cls Z' := fun q Z' hb => (hCls _).2 ((k0 q).below hb)
   haveI hne : Nonempty (Wd Cls) := ⟨⟨_, hC⟩⟩
   have g0 : ∀ q : Wd Cls, q.val.cell? ⟨b, 0, none⟩ = some (.slice ha cs.length hc) := fun q => (k0 q).cell 3 rfl 0 rfl
   have g1 : ∀ q : Wd Cls, q.val.cell? ⟨bf, 4, none⟩ = some (.slice va n vc) := fun q => (k0 q).cell 2 rfl 4 rfl
   have g2 : ∀ q : Wd Cls, q.val.cell? ⟨bx, 7, none⟩ = some (.slice xa k xc) := fun q => (k0 q).cell 1 rfl 7 rfl
   have g3 : ∀ q : Wd Cls, q.val.cell? ⟨bs, 2, none⟩ = some (.slice pa pn pc) := fun q => (k0 q).cell 0 rfl 2 rfl
   have g4 : ∀ q : Wd Cls, q.val.cell? ⟨bs, 3, none⟩ = some (.string s.r) := fun q => (k0 q).cell 0 rfl 3 rfl
   have g5 : ∀ q : Wd Cls, q.val.cell? ⟨bx, 1, none⟩ = some (.int .i64 x.d) := fun q => (k0 q).cell 1 rfl 1 rfl
   have HK := Lib.hid k0
   have HCC := Lib.hid hC
   have p1 : ∀ q : Wd Cls, q.val.cell? ⟨blk xa, ofs xa + j, none⟩ = some (.int .i64 yi) := fun q => z1 q.val (k0 q).bel
   have p2 : ∀ q : Wd Cls, q.val.cell? ⟨blk pa, ofs pa + j, none⟩ = some (.string us) := fun q => z2 q.val (k0 q).bel
   have p3 : ∀ q : Wd Cls, q.val.cell? ⟨blk va, ofs va + yi.toNat * 2 + 1, none⟩ = some (.string ws) := fun q => z3 q.val (k0 q).bel
   obtain ⟨fb, hfb⟩ : ∃ q, q = fitsB cs ws us := ⟨_, rfl⟩
   have f1 : ∀ q : Wd Cls, Calls Tryz.prog 138 #[.agg #[.slice ha cs.length hc], .string ws, .string us] q.val fun e w'' => e = .returned (.bool fb) ∧ ∃ r : Wd Cls, w'' = r.val := fun q => cls_bel (hB q) (by rw [hfb]; exact rFits_any cs _ ws us q.val (HC.out.1.below (k0 q).bel) hl)
   have F1 := Lib.hid f1
   have HFB := Lib.hid hfb
   clear hCls hC k0 hB f1 hfb hyi hus hws hF z1 z2 z3 hR
   cases fb
   ·refine wp_region_class Cls (by kernel_rfl) (by kernel_rfl) HCC.out ?_
    repeat (go_big_quiet_step ((go_at_call 138; exact F1.out _)))
    refine wpQuiet_nil ?_
    rintro _ ⟨q9, rfl⟩
    have H9 := Lib.hid (HK.out q9)
    clear g0 g1 g2 g3 g4 g5 p1 p2 p3
    go_wp2_with fail
    go_ret
    exact ⟨8, rfl, (fun h => by cases h), H9.out.bel⟩
   ·refine wp_region_class Cls (by kernel_rfl) (by kernel_rfl) HCC.out ?_
    repeat (go_big_quiet_step ((go_at_call 138; exact F1.out _)))
    refine wpQuiet_nil ?_
    rintro _ ⟨q9, rfl⟩
    have H9 := Lib.hid (HK.out q9)
    clear g0 g1 g2 g3 g4 g5 p1 p2 p3
    go_wp2_with fail
    go_roundw
    case rel => exact ⟨j + 1, by omega, by go_num, H9.out, fun i hi => by
     by_cases e : i = j
     ·rw [e, ← HV.out.1.1, ← HV.out.1.2, ← HV.out.2.1]; exact fitsB_ok HFB.out.symm
     ·exact HV.out.2.2.1 i (by omega)⟩
    case measure => simp [intOf]; omega
  ·obtain rfl : k = j := by omega
   have HF := Lib.hid hF
   clear hlt hj hF
   go_upto_region 19 with fail
   clear d7
   obtain ⟨Cls, hCls⟩ : ∃ Cls : World → Prop, ∀ Z', Cls Z' ↔ Env W [fkC bs [.string s.n, .bool s.st, .slice pa pn pc, .string s.r], fkC bx (isC' x (.slice xa k xc)), fkC bf (fuC f (.slice va n vc) (.slice ca m cc)), fkC b [.slice ha cs.length hc]] Z' := ⟨_, fun _ => Iff.rfl⟩
   have hC : Cls wr.drew := (hCls _).2 hh.out.drew
   have k0 := fun q : Wd Cls => (hCls _).1 q.ok
   have hB : ∀ q : Wd Cls, ∀ Z', Below q.val.heap.size q.val Z' → Cls Z' := fun q Z' hb => (hCls _).2 ((k0 q).below hb)
   haveI hne : Nonempty (Wd Cls) := ⟨⟨_, hC⟩⟩
   have g0 : ∀ q : Wd Cls, q.val.cell? ⟨b, 0, none⟩ = some (.slice ha cs.length hc) := fun q => (k0 q).cell 3 rfl 0 rfl
   have g1 : ∀ q : Wd Cls, q.val.cell? ⟨bf, 4, none⟩ = some (.slice va n vc) := fun q => (k0 q).cell 2 rfl 4 rfl
   have g2 : ∀ q : Wd Cls, q.val.cell? ⟨bx, 7, none⟩ = some (.slice xa k xc) := fun q => (k0 q).cell 1 rfl 7 rfl
   have g3 : ∀ q : Wd Cls, q.val.cell? ⟨bs, 2, none⟩ = some (.slice pa pn pc) := fun q => (k0 q).cell 0 rfl 2 rfl
   have g4 : ∀ q : Wd Cls, q.val.cell? ⟨bs, 3, none⟩ = some (.string s.r) := fun q => (k0 q).cell 0 rfl 3 rfl
   have g5 : ∀ q : Wd Cls, q.val.cell? ⟨bx, 1, none⟩ = some (.int .i64 x.d) := fun q => (k0 q).cell 1 rfl 1 rfl
   have HK := Lib.hid k0
   have HCC := Lib.hid hC
   by_cases hd : x.d = -1
   ·have t0 : (x.d != -1) = false := by simp [hd]
    have t1 : (x.d == -1) = true := by simp [hd]
    have HSG := Lib.hid (show Sig cs f x s from ⟨by rw [← HS.out.2.2.2, ← HX.out.2]; exact HNK.out, fun i hi => HF.out i (by rw [HX.out.2]; exact hi), fun h => absurd hd h⟩)
    clear hCls hC k0 hB hd
    refine wp_region_class Cls (by kernel_rfl) (by kernel_rfl) HCC.out ?_
    repeat (go_big_quiet_step (fail))
    refine wpQuiet_nil ?_
    rintro _ ⟨q9, rfl⟩
    have H9 := Lib.hid (HK.out q9)
    clear g0 g1 g2 g3 g4 g5
    go_wp2_with fail
    go_ret
    exact ⟨0, rfl, fun _ => ⟨s, HS.out.2.2.1, HSG.out⟩, H9.out.bel⟩
   ·have t0 : (x.d != -1) = true := by simpa using hd
    have t1 : (x.d == -1) = false := by simpa using hd
    by_cases hr : s.r = ⟨#[]⟩
    ·have t2 := tl_eq hr
     have t3 := te_eq hr
     clear hCls hC k0 hB hd hr
     refine wp_region_class Cls (by kernel_rfl) (by kernel_rfl) HCC.out ?_
     repeat (go_big_quiet_step (fail))
     refine wpQuiet_nil ?_
     rintro _ ⟨q9, rfl⟩
     have H9 := Lib.hid (HK.out q9)
     clear g0 g1 g2 g3 g4 g5
     go_wp2_with fail
     go_ret
     exact ⟨8, rfl, (fun h => by cases h), H9.out.bel⟩
    ·have t2 := tl_ne hr
     have t3 := te_ne hr
     have hR : 0 ≤ x.d ∧ x.d < f.vs.length := by
      rcases HC.out.2.2.1.d (by rcases HC.out.2.2.2 with e | e <;> rw [e] <;> rfl) with h1 | ⟨-, h1⟩
      ·exact h1
      ·exact absurd h1 hd
     obtain ⟨i3, z3⟩ := vd_at HC.out.2.1.1 HC.out.2.1.2 hR.1 hR.2
     obtain ⟨ws, hws⟩ : ∃ q, q = vty f x.d := ⟨_, rfl⟩
     rw [← hws] at z3
     have p3 : ∀ q : Wd Cls, q.val.cell? ⟨blk va, ofs va + x.d.toNat * 2 + 1, none⟩ = some (.string ws) := fun q => z3 q.val (k0 q).bel
     obtain ⟨fb, hfb⟩ : ∃ q, q = fitsB cs s.r ws := ⟨_, rfl⟩
     have f1 : ∀ q : Wd Cls, Calls Tryz.prog 138 #[.agg #[.slice ha cs.length hc], .string s.r, .string ws] q.val fun e w'' => e = .returned (.bool fb) ∧ ∃ r : Wd Cls, w'' = r.val := fun q => cls_bel (hB q) (by rw [hfb]; exact rFits_any cs _ s.r ws q.val (HC.out.1.below (k0 q).bel) hl)
     have F1 := Lib.hid f1
     have HFB := Lib.hid (And.intro hfb (And.intro hws hr))
     clear hCls hC k0 hB f1 hfb hws z3 hR hd hr
     cases fb
     ·refine wp_region_class Cls (by kernel_rfl) (by kernel_rfl) HCC.out ?_
      repeat (go_big_quiet_step ((go_at_call 138; exact F1.out _)))
      refine wpQuiet_nil ?_
      rintro _ ⟨q9, rfl⟩
      have H9 := Lib.hid (HK.out q9)
      clear g0 g1 g2 g3 g4 g5 p3
      go_wp2_with fail
      go_ret
      exact ⟨8, rfl, (fun h => by cases h), H9.out.bel⟩
     ·have HSG := Lib.hid (show Sig cs f x s from ⟨by rw [← HS.out.2.2.2, ← HX.out.2]; exact HNK.out, fun i hi => HF.out i (by rw [HX.out.2]; exact hi), fun _ => ⟨HFB.out.2.2, by rw [← HFB.out.2.1]; exact fitsB_ok HFB.out.1.symm⟩⟩)
      refine wp_region_class Cls (by kernel_rfl) (by kernel_rfl) HCC.out ?_
      repeat (go_big_quiet_step ((go_at_call 138; exact F1.out _)))
      refine wpQuiet_nil ?_
      rintro _ ⟨q9, rfl⟩
      have H9 := Lib.hid (HK.out q9)
      clear g0 g1 g2 g3 g4 g5 p3
      go_wp2_with fail
      go_ret
      exact ⟨0, rfl, fun _ => ⟨s, HS.out.2.2.1, HSG.out⟩, H9.out.bel⟩
end Go.Proofs.YtnklnklkblgnfaaGreat
end
section
namespace Go.Proofs.YtnklnklkblgnfaaGreat
open Go.RowKit Go.Dfl Go.Obs Go.Hir
open Go.Gra (gen_code gen_calls)
section
variable {cs : List Cl} {f : Fu} {x : Is}
theorem typd_ints (h : IntsOk cs f x) (hn : x.op ≠ 6 ∧ x.op ≠ 15 ∧ x.op ≠ 7 ∧ x.op ≠ 8 ∧ x.op ≠ 9 ∧ x.op ≠ 10) (hr : x.op = 13 → (x.a = -1 ↔ f.r = ⟨#[]⟩)) : Typd cs f x :=
 ⟨h.const, h.null, h.copy, h.bin, fun e => by omega, fun e => by omega, fun e => by omega, fun e => by omega, fun e => by omega, h.shift, h.throw, fun e => ⟨hr e, h.ret e⟩⟩
theorem typd_new (hn : x.op = 6 ∨ x.op = 15) (h : isC cs x.c ∧ Hir.Fits cs x.c (vty f x.d)) : Typd cs f x :=
 ⟨fun e => by omega, fun e => by omega, fun e => by omega, fun e => by omega, fun _ => h, fun e => by omega, fun e => by omega, fun e => by omega, fun e => by omega, fun e => by omega, fun e => by omega, fun e => by omega⟩
theorem typd_acc (hn : x.op = 7 ∨ x.op = 8) (h : isC cs (vty f x.a) ∧ ∃ c t, fieldP cs (vty f x.a) x.m = some (c, t) ∧ (x.op = 7 → Hir.Fits cs t (vty f x.d)) ∧ (x.op = 8 → Hir.Fits cs (vty f x.b) t)) : Typd cs f x := by
 obtain ⟨h1, c, t, h2, h3, h4⟩ := h
 exact ⟨fun e => by omega, fun e => by omega, fun e => by omega, fun e => by omega, fun e => by omega, fun e => ⟨h1, c, t, h2, h3 e⟩, fun e => ⟨h1, c, t, h2, h4 e⟩, fun e => by omega, fun e => by omega, fun e => by omega, fun e => by omega, fun e => by omega⟩
theorem typd_call (hn : x.op = 9 ∨ x.op = 10) {s : Sg} (h : CallPart cs f x s) (hs : Sig cs f x s) : Typd cs f x := by
 refine ⟨fun e => by omega, fun e => by omega, fun e => by omega, fun e => by omega, fun e => by omega, fun e => by omega, fun e => by omega, fun e => ?_, fun e => ?_, fun e => by omega, fun e => by omega, fun e => by omega⟩
 ·obtain ⟨h1, h2, c, h3, h4⟩ := h.1 e
  exact ⟨h1, h2, c, s, h3, h4, hs⟩
 ·obtain ⟨h1, h2⟩ := h.2 e
  exact ⟨s, h1, h2, hs⟩
end
def TypesR (cs : List Cl) (f : Fu) (x : Is) (W : World) (e : Ending) (W' : World) : Prop := ∃ n : Int, e = .returned (.int .i64 n) ∧ (n = 0 → Typd cs f x) ∧ Below W.heap.size W W'
set_option maxHeartbeats 6400000 in
set_option maxRecDepth 8000 in
theorem rTypes12_any (cs : List Cl) (hv : Value) (f : Fu) (vv cv : Value) (x : Is) (v : Value) (W : World) (h : InS vCl W hv cs) (hl : cs.length ≤ 1000000) (hvv : InS vVd W vv f.vs) (hcv : InS vIs W cv f.cd) (hxv : InS vI W v x.ar) (hr : Rng f x) :
  Calls Tryz.prog 110 #[.agg #[hv], fuV f vv cv, isV x v] W (TypesR cs f x W) := by
 obtain ⟨ha, hc, rfl⟩ := h.shape
 obtain ⟨va, vc, rfl⟩ := hvv.shape
 obtain ⟨ca, cc, rfl⟩ := hcv.shape
 obtain ⟨xa, xc, rfl⟩ := hxv.shape
 obtain ⟨n, hn⟩ : ∃ n, n = f.vs.length := ⟨_, rfl⟩
 obtain ⟨m, hm⟩ : ∃ n, n = f.cd.length := ⟨_, rfl⟩
 obtain ⟨k, hk⟩ : ∃ n, n = x.ar.length := ⟨_, rfl⟩
 rw [← hn] at hvv
 rw [← hm] at hcv
 rw [← hk] at hxv
 rw [← hn, ← hm, ← hk]
 have HE := Lib.hid ((((Env.refl W).alloc [.slice ha cs.length hc] 24).alloc (fuC f (.slice va n vc) (.slice ca m cc)) 45).alloc (isC' x (.slice xa k xc)) 87)
 have HC := Lib.hid (And.intro (And.intro h hxv) (And.intro (And.intro hvv hn) (And.intro hcv hr)))
 clear h hvv hcv hxv hr hn hm hk
 unfold fuV isV
 go_enter Tryz.func110, Tryz.ntmps110
 go_upto_region 1 with fail
 refine gen_code (fun Z => Env W [fkC (W.heap.size + 2) (isC' x (.slice xa k xc)), fkC (W.heap.size + 1) (fuC f (.slice va n vc) (.slice ca m cc)), fkC W.heap.size [.slice ha cs.length hc]] Z) (by have h := HE.out; rw [World.size_alloc, World.size_alloc] at h; exact h) ?_
 intro Z hZ
 obtain ⟨b, hb⟩ : ∃ b, b = W.heap.size := ⟨_, rfl⟩
 obtain ⟨bf, hbf⟩ : ∃ b, b = W.heap.size + 1 := ⟨_, rfl⟩
 obtain ⟨bx, hbx⟩ : ∃ b, b = W.heap.size + 2 := ⟨_, rfl⟩
 rw [← hbx, ← hbf, ← hb] at hZ ⊢
 have HZ := Lib.hid hZ
 clear hZ hb hbx hbf HE
 by_cases h1 : x.op = 6 ∨ x.op = 15
 ·have HO := Lib.hid h1
  have hR : 0 ≤ x.d ∧ x.d < f.vs.length := by
   rcases HC.out.2.2.2.d (by rcases h1 with e | e <;> rw [e] <;> rfl) with h1 | ⟨h2, -⟩
   ·exact h1
   ·have := HO.out; omega
  obtain ⟨i3, z3⟩ := vd_at HC.out.2.1.1 HC.out.2.1.2 hR.1 hR.2
  obtain ⟨t6, h6⟩ : ∃ q, (x.op == 6) = q := ⟨_, rfl⟩
  have h15 : t6 = false → (x.op == 15) = true := fun e => by
   rw [e] at h6
   have : ¬ x.op = 6 := by simpa using h6
   have : x.op = 15 := by omega
   rw [this]; rfl
  have HH := Lib.hid h15
  clear h1 hR h15
  have e0 := HZ.out.cell 0 rfl 0 rfl
  have e5 := HZ.out.cell 0 rfl 5 rfl
  have c0 := HZ.out.cell 2 rfl 0 rfl
  cases t6
  all_goals (
   first | (have h15 := HH.out rfl) | skip
   clear HH
   go_wp2_with fail
   refine (rIsClass_any cs _ x.c _ (HC.out.1.1.below HZ.out.bel)).mono ?_
   rintro e W2 ⟨rfl, b2⟩
   have H2 := Lib.hid (HZ.out.below b2)
   clear b2 e0 e5 c0
   by_cases ht : isC cs x.c
   ·rw [decide_eq_true ht]
    have HI := Lib.hid ht
    clear ht
    go_upto_region 6 with fail
    obtain ⟨Cls, hCls⟩ : ∃ Cls : World → Prop, ∀ Z', Cls Z' ↔ Env W [fkC bx (isC' x (.slice xa k xc)), fkC bf (fuC f (.slice va n vc) (.slice ca m cc)), fkC b [.slice ha cs.length hc]] Z' := ⟨_, fun _ => Iff.rfl⟩
    have hC : Cls W2.drew := (hCls _).2 H2.out.drew
    have k0 := fun q : Wd Cls => (hCls _).1 q.ok
    have hB : ∀ q : Wd Cls, ∀ Z', Below q.val.heap.size q.val Z' → Cls Z' := fun q Z' hb => (hCls _).2 ((k0 q).below hb)
    haveI hne : Nonempty (Wd Cls) := ⟨⟨_, hC⟩⟩
    have g0 : ∀ q : Wd Cls, q.val.cell? ⟨b, 0, none⟩ = some (.slice ha cs.length hc) := fun q => (k0 q).cell 2 rfl 0 rfl
    have g1 : ∀ q : Wd Cls, q.val.cell? ⟨bf, 4, none⟩ = some (.slice va n vc) := fun q => (k0 q).cell 1 rfl 4 rfl
    have g2 : ∀ q : Wd Cls, q.val.cell? ⟨bx, 5, none⟩ = some (.string x.c) := fun q => (k0 q).cell 0 rfl 5 rfl
    have g5 : ∀ q : Wd Cls, q.val.cell? ⟨bx, 1, none⟩ = some (.int .i64 x.d) := fun q => (k0 q).cell 0 rfl 1 rfl
    obtain ⟨ws, hws⟩ : ∃ q, q = vty f x.d := ⟨_, rfl⟩
    rw [← hws] at z3
    have p3 : ∀ q : Wd Cls, q.val.cell? ⟨blk va, ofs va + x.d.toNat * 2 + 1, none⟩ = some (.string ws) := fun q => z3 q.val (k0 q).bel
    obtain ⟨fb, hfb⟩ : ∃ q, q = fitsB cs x.c ws := ⟨_, rfl⟩
    have f1 : ∀ q : Wd Cls, Calls Tryz.prog 138 #[.agg #[.slice ha cs.length hc], .string x.c, .string ws] q.val fun e w'' => e = .returned (.bool fb) ∧ ∃ r : Wd Cls, w'' = r.val := fun q => cls_bel (hB q) (by rw [hfb]; exact rFits_any cs _ x.c ws q.val (HC.out.1.1.below (k0 q).bel) hl)
    have F1 := Lib.hid f1
    have HFB := Lib.hid (And.intro hfb hws)
    have HK := Lib.hid k0
    have HCC := Lib.hid hC
    clear hCls hC k0 hB f1 hfb hws z3
    cases fb
    all_goals (
     refine wp_region_class Cls (by kernel_rfl) (by kernel_rfl) HCC.out ?_
     repeat (go_big_quiet_step ((go_at_call 138; exact F1.out _)))
     refine wpQuiet_nil ?_
     rintro _ ⟨q9, rfl⟩
     have H9 := Lib.hid (HK.out q9)
     clear g0 g1 g2 g5 p3
     go_wp2_with fail
     go_ret
     first
     | exact ⟨8, rfl, (fun h => by cases h), H9.out.bel⟩
     | exact ⟨0, rfl, fun _ => typd_new HO.out ⟨HI.out, by rw [← HFB.out.2]; exact fitsB_ok HFB.out.1.symm⟩, H9.out.bel⟩)
   ·rw [decide_eq_false ht]
    clear ht
    go_wp2_with fail
    go_ret
    exact ⟨6, rfl, (fun h => by cases h), H2.out.bel⟩)
 have t6 : (x.op == 6) = false := by simpa using fun e => h1 (.inl e)
 have t15 : (x.op == 15) = false := by simpa using fun e => h1 (.inr e)
 by_cases h2 : x.op = 7 ∨ x.op = 8
 ·have HO := Lib.hid h2
  obtain ⟨t7, h7⟩ : ∃ q, (x.op == 7) = q := ⟨_, rfl⟩
  have h8 : t7 = false → (x.op == 8) = true := fun e => by
   rw [e] at h7
   have : ¬ x.op = 7 := by simpa using h7
   have : x.op = 8 := by omega
   rw [this]; rfl
  have HH := Lib.hid h8
  clear h1 h2 h8
  have c0 := HZ.out.cell 2 rfl 0 rfl
  have d0 := HZ.out.cell 1 rfl 0 rfl
  have d1 := HZ.out.cell 1 rfl 1 rfl
  have d2 := HZ.out.cell 1 rfl 2 rfl
  have d3 := HZ.out.cell 1 rfl 3 rfl
  have d4 := HZ.out.cell 1 rfl 4 rfl
  have d5 := HZ.out.cell 1 rfl 5 rfl
  have d6 := HZ.out.cell 1 rfl 6 rfl
  have e0 := HZ.out.cell 0 rfl 0 rfl
  have e1 := HZ.out.cell 0 rfl 1 rfl
  have e2 := HZ.out.cell 0 rfl 2 rfl
  have e3 := HZ.out.cell 0 rfl 3 rfl
  have e4 := HZ.out.cell 0 rfl 4 rfl
  have e5 := HZ.out.cell 0 rfl 5 rfl
  have e6 := HZ.out.cell 0 rfl 6 rfl
  have e7 := HZ.out.cell 0 rfl 7 rfl
  have e8 := HZ.out.cell 0 rfl 8 rfl
  have e9 := HZ.out.cell 0 rfl 9 rfl
  cases t7
  all_goals (
   first | (have h8 := HH.out rfl) | skip
   clear HH
   go_wp2_with fail
   refine (rAccess_any cs _ f _ _ x _ _ (HC.out.1.1.below HZ.out.bel) hl (HC.out.2.1.1.below HZ.out.bel) (HC.out.2.2.1.below HZ.out.bel) (HC.out.1.2.below HZ.out.bel) HC.out.2.2.2 HO.out).mono ?_
   rintro e W5 ⟨q, rfl, hq, b5⟩
   have H5 := Lib.hid (And.intro (HZ.out.below b5).bel hq)
   clear b5 hq
   go_wp2_with fail
   go_ret
   exact ⟨q, rfl, fun h => typd_acc HO.out (H5.out.2 h), H5.out.1⟩)
 have t7 : (x.op == 7) = false := by simpa using fun e => h2 (.inl e)
 have t8 : (x.op == 8) = false := by simpa using fun e => h2 (.inr e)
 by_cases h3 : x.op = 9 ∨ x.op = 10
 ·have HO := Lib.hid h3
  obtain ⟨t9, h9⟩ : ∃ q, (x.op == 9) = q := ⟨_, rfl⟩
  have h10 : t9 = false → (x.op == 10) = true := fun e => by
   rw [e] at h9
   have : ¬ x.op = 9 := by simpa using h9
   have : x.op = 10 := by omega
   rw [this]; rfl
  have HH := Lib.hid h10
  clear h1 h2 h3 h10
  have c0 := HZ.out.cell 2 rfl 0 rfl
  have d0 := HZ.out.cell 1 rfl 0 rfl
  have d1 := HZ.out.cell 1 rfl 1 rfl
  have d2 := HZ.out.cell 1 rfl 2 rfl
  have d3 := HZ.out.cell 1 rfl 3 rfl
  have d4 := HZ.out.cell 1 rfl 4 rfl
  have d5 := HZ.out.cell 1 rfl 5 rfl
  have d6 := HZ.out.cell 1 rfl 6 rfl
  have e0 := HZ.out.cell 0 rfl 0 rfl
  have e1 := HZ.out.cell 0 rfl 1 rfl
  have e2 := HZ.out.cell 0 rfl 2 rfl
  have e3 := HZ.out.cell 0 rfl 3 rfl
  have e4 := HZ.out.cell 0 rfl 4 rfl
  have e5 := HZ.out.cell 0 rfl 5 rfl
  have e6 := HZ.out.cell 0 rfl 6 rfl
  have e7 := HZ.out.cell 0 rfl 7 rfl
  have e8 := HZ.out.cell 0 rfl 8 rfl
  have e9 := HZ.out.cell 0 rfl 9 rfl
  cases t9
  all_goals (
   first | (have h10 := HH.out rfl) | skip
   clear HH
   go_wp2_with fail
   refine (rCheckCall_any cs _ f _ _ x _ _ (HC.out.1.1.below HZ.out.bel) hl (HC.out.2.1.1.below HZ.out.bel) (HC.out.2.2.1.below HZ.out.bel) (HC.out.1.2.below HZ.out.bel) HC.out.2.2.2 HO.out).mono ?_
   rintro e W5 ⟨q, rfl, hq, b5⟩
   have H5 := Lib.hid (And.intro (HZ.out.below b5).bel hq)
   clear b5 hq
   go_wp2_with fail
   go_ret
   exact ⟨q, rfl, fun h => by obtain ⟨s, h1, h2⟩ := H5.out.2 h; exact typd_call HO.out h1 h2, H5.out.1⟩)
 have t9 : (x.op == 9) = false := by simpa using fun e => h3 (.inl e)
 have t10 : (x.op == 10) = false := by simpa using fun e => h3 (.inr e)
 have HON := Lib.hid (show x.op ≠ 6 ∧ x.op ≠ 15 ∧ x.op ≠ 7 ∧ x.op ≠ 8 ∧ x.op ≠ 9 ∧ x.op ≠ 10 by omega)
 have HOP := Lib.hid (show x.op ≠ 9 ∧ x.op ≠ 10 by omega)
 clear h1 h2 h3
 have c0 := HZ.out.cell 2 rfl 0 rfl
 have d0 := HZ.out.cell 1 rfl 0 rfl
 have d1 := HZ.out.cell 1 rfl 1 rfl
 have d2 := HZ.out.cell 1 rfl 2 rfl
 have d3 := HZ.out.cell 1 rfl 3 rfl
 have d4 := HZ.out.cell 1 rfl 4 rfl
 have d5 := HZ.out.cell 1 rfl 5 rfl
 have d6 := HZ.out.cell 1 rfl 6 rfl
 have e0 := HZ.out.cell 0 rfl 0 rfl
 have e1 := HZ.out.cell 0 rfl 1 rfl
 have e2 := HZ.out.cell 0 rfl 2 rfl
 have e3 := HZ.out.cell 0 rfl 3 rfl
 have e4 := HZ.out.cell 0 rfl 4 rfl
 have e5 := HZ.out.cell 0 rfl 5 rfl
 have e6 := HZ.out.cell 0 rfl 6 rfl
 have e7 := HZ.out.cell 0 rfl 7 rfl
 have e8 := HZ.out.cell 0 rfl 8 rfl
 have e9 := HZ.out.cell 0 rfl 9 rfl
 by_cases h4 : x.op = 13
 ·have t13 : (x.op == 13) = true := by simp [h4]
  clear h4
  by_cases ha : x.a = -1
  ·have ta : (x.a == -1) = true := by simp [ha]
   by_cases hr : f.r = ⟨#[]⟩
   ·have tr := tl_eq hr
    have tr2 := te_eq hr
    have HRT := Lib.hid (show x.op = 13 → (x.a = -1 ↔ f.r = ⟨#[]⟩) from fun _ => ⟨fun _ => hr, fun _ => ha⟩)
    clear ha hr
    go_wp2_with fail
    refine (rInts_any cs _ f _ _ x _ _ (HC.out.1.1.below HZ.out.bel) hl (HC.out.2.1.1.below HZ.out.bel) (HC.out.2.2.1.below HZ.out.bel) (HC.out.1.2.below HZ.out.bel) HC.out.2.2.2 HOP.out).mono ?_
    rintro e W5 ⟨q, rfl, hq, b5⟩
    have H5 := Lib.hid (And.intro (HZ.out.below b5).bel hq)
    clear b5 hq
    cases q
    ·go_wp2_with fail
     go_ret
     exact ⟨8, rfl, (fun h => by cases h), H5.out.1⟩
    ·go_wp2_with fail
     go_ret
     exact ⟨0, rfl, fun _ => typd_ints (H5.out.2 (by first | rfl | trivial)) HON.out HRT.out, H5.out.1⟩
   ·have tr := tl_ne hr
    have tr2 := te_ne hr
    clear ha hr
    go_wp2_with fail
    go_ret
    exact ⟨9, rfl, (fun h => by cases h), HZ.out.bel⟩
  ·have ta : (x.a == -1) = false := by simpa using ha
   by_cases hr : f.r = ⟨#[]⟩
   ·have tr := tl_eq hr
    have tr2 := te_eq hr
    clear ha hr
    go_wp2_with fail
    go_ret
    exact ⟨9, rfl, (fun h => by cases h), HZ.out.bel⟩
   ·have tr := tl_ne hr
    have tr2 := te_ne hr
    have HRT := Lib.hid (show x.op = 13 → (x.a = -1 ↔ f.r = ⟨#[]⟩) from fun _ => ⟨fun h => absurd h ha, fun h => absurd h hr⟩)
    clear ha hr
    go_wp2_with fail
    refine (rInts_any cs _ f _ _ x _ _ (HC.out.1.1.below HZ.out.bel) hl (HC.out.2.1.1.below HZ.out.bel) (HC.out.2.2.1.below HZ.out.bel) (HC.out.1.2.below HZ.out.bel) HC.out.2.2.2 HOP.out).mono ?_
    rintro e W5 ⟨q, rfl, hq, b5⟩
    have H5 := Lib.hid (And.intro (HZ.out.below b5).bel hq)
    clear b5 hq
    cases q
    ·go_wp2_with fail
     go_ret
     exact ⟨8, rfl, (fun h => by cases h), H5.out.1⟩
    ·go_wp2_with fail
     go_ret
     exact ⟨0, rfl, fun _ => typd_ints (H5.out.2 (by first | rfl | trivial)) HON.out HRT.out, H5.out.1⟩
 ·have t13 : (x.op == 13) = false := by simpa using h4
  have HRT := Lib.hid (show x.op = 13 → (x.a = -1 ↔ f.r = ⟨#[]⟩) from fun h => absurd h h4)
  clear h4
  go_wp2_with fail
  refine (rInts_any cs _ f _ _ x _ _ (HC.out.1.1.below HZ.out.bel) hl (HC.out.2.1.1.below HZ.out.bel) (HC.out.2.2.1.below HZ.out.bel) (HC.out.1.2.below HZ.out.bel) HC.out.2.2.2 HOP.out).mono ?_
  rintro e W5 ⟨q, rfl, hq, b5⟩
  have H5 := Lib.hid (And.intro (HZ.out.below b5).bel hq)
  clear b5 hq
  cases q
  ·go_wp2_with fail
   go_ret
   exact ⟨8, rfl, (fun h => by cases h), H5.out.1⟩
  ·go_wp2_with fail
   go_ret
   exact ⟨0, rfl, fun _ => typd_ints (H5.out.2 (by first | rfl | trivial)) HON.out HRT.out, H5.out.1⟩
end Go.Proofs.YtnklnklkblgnfaaGreat
end
section
namespace Go.Dfl
open Go.RowKit
section
variable {P : Program} {ops : Array Oper} {Q : Exit → Act → World → Prop}
theorem thenQ_panic {J : Act → World → Prop} : ∀ c a w, ThenQ J Q (.panic c) a w → Q (.panic c) a w := fun _ _ _ h => h.elim
theorem thenQ_lets {J : Act → World → Prop} : LetsOut (ThenQ J Q) → LetsOut Q := fun ⟨a, w, h⟩ => ⟨a, w, h⟩
theorem wpList_cut (J : Act → World → Prop) : ∀ (n : Nat) (l : List Oper) {a : Act} {w : World}, wpList P ops (ThenQ J Q) (l.take n) a w → (∀ a' w', J a' w' → wpList P ops Q (l.drop n) a' w') → wpList P ops Q l a w
 | 0, l, a, w, h, h2 => h2 a w h
 | n + 1, [], a, w, h, h2 => h2 a w h
 | n + 1, o :: l, a, w, h, h2 => by
   rw [List.take_succ_cons] at h
   unfold wpList at h ⊢
   split
   ·rename_i hw
    rw [if_pos hw] at h
    rcases h with h | ⟨h, h3⟩
    ·exact .inl (Oper.wp_monoQ thenQ_panic thenQ_lets (Oper.wp_mono (fun a' w' h' => wpList_cut J n l h' h2) h))
    ·exact .inr ⟨h, thenQ_lets h3⟩
   ·rename_i hw
    rw [if_neg hw] at h
    exact wpList_cut J n l h h2
end
end Go.Dfl
namespace Go.Proofs.YtnklnklkblgnfaaGreat
open Go.RowKit Go.Dfl Go.Obs Go.Hir
open Go.Gra (gen_code gen_calls)
def UnJ12 (x : Is) (va : Option Addr) (an vc b : Nat) (W : World) (a' : Act) (w' : World) : Prop := ∃ u4 u5 u6 u7 u8 u9 u10 u11 u13 u14 u15 u16 u17 u18 u19 u20 u21 u22 u23 u24 u25 u26 u27 u28 u29 u30 u31 u32 u33 u34 u35 u36 u37 u38 u39 u40 u41 u42 u43 u44 u45 u46 u47 u48 u49 u50 u51 u52 u53 u54 u55 u56 u57 u58 u59 u60 u61 u62 u63 u64 u65 u66 u67 u68 u69 u70 u71 u72 u73 u74 u75 u76 q, a' = ({ tmps := #[isV x (.slice va an vc), .pointer (some ⟨b, 0, none⟩), .bool false, .int .i64 x.op, u4, u5, u6, u7, u8, u9, u10, u11, .bool q, u13, u14, u15, u16, u17, u18, u19, u20, u21, u22, u23, u24, u25, u26, u27, u28, u29, u30, u31, u32, u33, u34, u35, u36, u37, u38, u39, u40, u41, u42, u43, u44, u45, u46, u47, u48, u49, u50, u51, u52, u53, u54, u55, u56, u57, u58, u59, u60, u61, u62, u63, u64, u65, u66, u67, u68, u69, u70, u71, u72, u73, u74, u75, u76], defers := [] } : Act) ∧ Env W [fkC b (isC' x (.slice va an vc))] w'
def UnJ21 (x : Is) (va : Option Addr) (an vc b : Nat) (W : World) (a' : Act) (w' : World) : Prop := ∃ u4 u5 u6 u7 u8 u9 u10 u11 u12 u13 u14 u15 u16 u17 u18 u19 u20 u22 u23 u24 u25 u26 u27 u28 u29 u30 u31 u32 u33 u34 u35 u36 u37 u38 u39 u40 u41 u42 u43 u44 u45 u46 u47 u48 u49 u50 u51 u52 u53 u54 u55 u56 u57 u58 u59 u60 u61 u62 u63 u64 u65 u66 u67 u68 u69 u70 u71 u72 u73 u74 u75 u76 q, a' = ({ tmps := #[isV x (.slice va an vc), .pointer (some ⟨b, 0, none⟩), .bool false, .int .i64 x.op, u4, u5, u6, u7, u8, u9, u10, u11, u12, u13, u14, u15, u16, u17, u18, u19, u20, .bool q, u22, u23, u24, u25, u26, u27, u28, u29, u30, u31, u32, u33, u34, u35, u36, u37, u38, u39, u40, u41, u42, u43, u44, u45, u46, u47, u48, u49, u50, u51, u52, u53, u54, u55, u56, u57, u58, u59, u60, u61, u62, u63, u64, u65, u66, u67, u68, u69, u70, u71, u72, u73, u74, u75, u76], defers := [] } : Act) ∧ Env W [fkC b (isC' x (.slice va an vc))] w'
def UnJ30 (x : Is) (va : Option Addr) (an vc b : Nat) (W : World) (a' : Act) (w' : World) : Prop := ∃ u4 u5 u6 u7 u8 u9 u10 u11 u12 u13 u14 u15 u16 u17 u18 u19 u20 u21 u22 u23 u24 u25 u26 u27 u28 u29 u31 u32 u33 u34 u35 u36 u37 u38 u39 u40 u41 u42 u43 u44 u45 u46 u47 u48 u49 u50 u51 u52 u53 u54 u55 u56 u57 u58 u59 u60 u61 u62 u63 u64 u65 u66 u67 u68 u69 u70 u71 u72 u73 u74 u75 u76 q, a' = ({ tmps := #[isV x (.slice va an vc), .pointer (some ⟨b, 0, none⟩), .bool false, .int .i64 x.op, u4, u5, u6, u7, u8, u9, u10, u11, u12, u13, u14, u15, u16, u17, u18, u19, u20, u21, u22, u23, u24, u25, u26, u27, u28, u29, .bool q, u31, u32, u33, u34, u35, u36, u37, u38, u39, u40, u41, u42, u43, u44, u45, u46, u47, u48, u49, u50, u51, u52, u53, u54, u55, u56, u57, u58, u59, u60, u61, u62, u63, u64, u65, u66, u67, u68, u69, u70, u71, u72, u73, u74, u75, u76], defers := [] } : Act) ∧ Env W [fkC b (isC' x (.slice va an vc))] w'
def UnJ39 (x : Is) (va : Option Addr) (an vc b : Nat) (W : World) (a' : Act) (w' : World) : Prop := ∃ u4 u5 u6 u7 u8 u9 u10 u11 u12 u13 u14 u15 u16 u17 u18 u19 u20 u21 u22 u23 u24 u25 u26 u27 u28 u29 u30 u31 u32 u33 u34 u35 u36 u37 u38 u40 u41 u42 u43 u44 u45 u46 u47 u48 u49 u50 u51 u52 u53 u54 u55 u56 u57 u58 u59 u60 u61 u62 u63 u64 u65 u66 u67 u68 u69 u70 u71 u72 u73 u74 u75 u76 q, a' = ({ tmps := #[isV x (.slice va an vc), .pointer (some ⟨b, 0, none⟩), .bool false, .int .i64 x.op, u4, u5, u6, u7, u8, u9, u10, u11, u12, u13, u14, u15, u16, u17, u18, u19, u20, u21, u22, u23, u24, u25, u26, u27, u28, u29, u30, u31, u32, u33, u34, u35, u36, u37, u38, .bool q, u40, u41, u42, u43, u44, u45, u46, u47, u48, u49, u50, u51, u52, u53, u54, u55, u56, u57, u58, u59, u60, u61, u62, u63, u64, u65, u66, u67, u68, u69, u70, u71, u72, u73, u74, u75, u76], defers := [] } : Act) ∧ Env W [fkC b (isC' x (.slice va an vc))] w'
def UnJ48 (x : Is) (va : Option Addr) (an vc b : Nat) (W : World) (a' : Act) (w' : World) : Prop := ∃ u4 u5 u6 u7 u8 u9 u10 u11 u12 u13 u14 u15 u16 u17 u18 u19 u20 u21 u22 u23 u24 u25 u26 u27 u28 u29 u30 u31 u32 u33 u34 u35 u36 u37 u38 u39 u40 u41 u42 u43 u44 u45 u46 u47 u49 u50 u51 u52 u53 u54 u55 u56 u57 u58 u59 u60 u61 u62 u63 u64 u65 u66 u67 u68 u69 u70 u71 u72 u73 u74 u75 u76 q, a' = ({ tmps := #[isV x (.slice va an vc), .pointer (some ⟨b, 0, none⟩), .bool false, .int .i64 x.op, u4, u5, u6, u7, u8, u9, u10, u11, u12, u13, u14, u15, u16, u17, u18, u19, u20, u21, u22, u23, u24, u25, u26, u27, u28, u29, u30, u31, u32, u33, u34, u35, u36, u37, u38, u39, u40, u41, u42, u43, u44, u45, u46, u47, .bool q, u49, u50, u51, u52, u53, u54, u55, u56, u57, u58, u59, u60, u61, u62, u63, u64, u65, u66, u67, u68, u69, u70, u71, u72, u73, u74, u75, u76], defers := [] } : Act) ∧ Env W [fkC b (isC' x (.slice va an vc))] w'
def UnJ57 (x : Is) (va : Option Addr) (an vc b : Nat) (W : World) (a' : Act) (w' : World) : Prop := ∃ u4 u5 u6 u7 u8 u9 u10 u11 u12 u13 u14 u15 u16 u17 u18 u19 u20 u21 u22 u23 u24 u25 u26 u27 u28 u29 u30 u31 u32 u33 u34 u35 u36 u37 u38 u39 u40 u41 u42 u43 u44 u45 u46 u47 u48 u49 u50 u51 u52 u53 u54 u55 u56 u58 u59 u60 u61 u62 u63 u64 u65 u66 u67 u68 u69 u70 u71 u72 u73 u74 u75 u76 q, a' = ({ tmps := #[isV x (.slice va an vc), .pointer (some ⟨b, 0, none⟩), .bool false, .int .i64 x.op, u4, u5, u6, u7, u8, u9, u10, u11, u12, u13, u14, u15, u16, u17, u18, u19, u20, u21, u22, u23, u24, u25, u26, u27, u28, u29, u30, u31, u32, u33, u34, u35, u36, u37, u38, u39, u40, u41, u42, u43, u44, u45, u46, u47, u48, u49, u50, u51, u52, u53, u54, u55, u56, .bool q, u58, u59, u60, u61, u62, u63, u64, u65, u66, u67, u68, u69, u70, u71, u72, u73, u74, u75, u76], defers := [] } : Act) ∧ Env W [fkC b (isC' x (.slice va an vc))] w'
def UnJ67 (x : Is) (va : Option Addr) (an vc b : Nat) (W : World) (a' : Act) (w' : World) : Prop := ∃ u4 u5 u6 u7 u8 u9 u10 u11 u12 u13 u14 u15 u16 u17 u18 u19 u20 u21 u22 u23 u24 u25 u26 u27 u28 u29 u30 u31 u32 u33 u34 u35 u36 u37 u38 u39 u40 u41 u42 u43 u44 u45 u46 u47 u48 u49 u50 u51 u52 u53 u54 u55 u56 u57 u58 u59 u60 u61 u62 u63 u64 u65 u66 u68 u69 u70 u71 u72 u73 u74 u75 u76 q, a' = ({ tmps := #[isV x (.slice va an vc), .pointer (some ⟨b, 0, none⟩), .bool false, .int .i64 x.op, u4, u5, u6, u7, u8, u9, u10, u11, u12, u13, u14, u15, u16, u17, u18, u19, u20, u21, u22, u23, u24, u25, u26, u27, u28, u29, u30, u31, u32, u33, u34, u35, u36, u37, u38, u39, u40, u41, u42, u43, u44, u45, u46, u47, u48, u49, u50, u51, u52, u53, u54, u55, u56, u57, u58, u59, u60, u61, u62, u63, u64, u65, u66, .bool q, u68, u69, u70, u71, u72, u73, u74, u75, u76], defers := [] } : Act) ∧ Env W [fkC b (isC' x (.slice va an vc))] w'
set_option maxHeartbeats 6400000 in
set_option maxRecDepth 4000 in
theorem rUnused_any (x : Is) (v : Value) (W : World) (h : InS vI W v x.ar) : Calls Tryz.prog 107 #[isV x v] W (SomeB W) := by
 obtain ⟨va, vc, rfl⟩ := h.shape
 obtain ⟨an, han⟩ : ∃ an, an = x.ar.length := ⟨_, rfl⟩
 rw [← han]
 clear han h
 have HE := Lib.hid ((Env.refl W).alloc (isC' x (.slice va an vc)) 87)
 unfold isV
 go_enter Tryz.func107, Tryz.ntmps107
 go_upto_region 1 with fail
 refine gen_code (fun Z => Env W [fkC W.heap.size (isC' x (.slice va an vc))] Z) HE.out ?_
 intro Z hZ
 obtain ⟨b, hb⟩ : ∃ b, b = W.heap.size := ⟨_, rfl⟩
 rw [← hb] at hZ ⊢
 have HP := Lib.hid hZ
 have d0 := hZ.cell 0 rfl 0 rfl
 clear hZ hb HE
 go_upto_region 2 with fail
 clear d0
 refine wp_region_lit ?_
 simp only [List.append_eq, List.cons_append, List.nil_append]
 refine wpList_cut (UnJ12 x va an vc b W) 7 _ ?_ ?_
 ·simp only [List.take_succ_cons, List.take_zero]
  go_wp2_with fail
  refine (rHas_any x.op 100 _).mono ?_
  rintro e W1 ⟨rfl, b1⟩
  have HQ := Lib.hid (HP.out.below b1)
  have e0 := HQ.out.cell 0 rfl 1 rfl
  obtain ⟨hb1, hhb⟩ : ∃ q, q = hasB x.op 100 := ⟨_, rfl⟩
  rw [← hhb]
  clear b1 hhb
  cases hb1
  ·go_wp2_with fail
   all_goals (refine thenQ_mk ?_; exact ⟨_, _, _, _, _, _, _, _, _, _, _, _, _, _, _, _, _, _, _, _, _, _, _, _, _, _, _, _, _, _, _, _, _, _, _, _, _, _, _, _, _, _, _, _, _, _, _, _, _, _, _, _, _, _, _, _, _, _, _, _, _, _, _, _, _, _, _, _, _, _, _, _, _, rfl, HQ.out⟩)
  ·go_wp2_with fail
   all_goals (refine thenQ_mk ?_; exact ⟨_, _, _, _, _, _, _, _, _, _, _, _, _, _, _, _, _, _, _, _, _, _, _, _, _, _, _, _, _, _, _, _, _, _, _, _, _, _, _, _, _, _, _, _, _, _, _, _, _, _, _, _, _, _, _, _, _, _, _, _, _, _, _, _, _, _, _, _, _, _, _, _, _, rfl, HQ.out⟩)
 clear HP
 rintro a' W2 ⟨u4, u5, u6, u7, u8, u9, u10, u11, u13, u14, u15, u16, u17, u18, u19, u20, u21, u22, u23, u24, u25, u26, u27, u28, u29, u30, u31, u32, u33, u34, u35, u36, u37, u38, u39, u40, u41, u42, u43, u44, u45, u46, u47, u48, u49, u50, u51, u52, u53, u54, u55, u56, u57, u58, u59, u60, u61, u62, u63, u64, u65, u66, u67, u68, u69, u70, u71, u72, u73, u74, u75, u76, q, rfl, hP⟩
 have HP := Lib.hid hP
 clear hP
 simp only [List.drop_succ_cons, List.drop_zero]
 refine wpList_cut (UnJ21 x va an vc b W) 9 _ ?_ ?_
 ·simp only [List.take_succ_cons, List.take_zero]
  cases q
  ·have HQ := HP
   go_wp2_with fail
   all_goals (refine thenQ_mk ?_; exact ⟨_, _, _, _, _, _, _, _, _, _, _, _, _, _, _, _, _, _, _, _, _, _, _, _, _, _, _, _, _, _, _, _, _, _, _, _, _, _, _, _, _, _, _, _, _, _, _, _, _, _, _, _, _, _, _, _, _, _, _, _, _, _, _, _, _, _, _, _, _, _, _, _, _, rfl, HQ.out⟩)
  ·go_wp2_with fail
   refine (rHas_any x.op 97 _).mono ?_
   rintro e W1 ⟨rfl, b1⟩
   have HQ := Lib.hid (HP.out.below b1)
   have e0 := HQ.out.cell 0 rfl 2 rfl
   obtain ⟨hb1, hhb⟩ : ∃ q, q = hasB x.op 97 := ⟨_, rfl⟩
   rw [← hhb]
   clear b1 hhb
   cases hb1
   ·go_wp2_with fail
    all_goals (refine thenQ_mk ?_; exact ⟨_, _, _, _, _, _, _, _, _, _, _, _, _, _, _, _, _, _, _, _, _, _, _, _, _, _, _, _, _, _, _, _, _, _, _, _, _, _, _, _, _, _, _, _, _, _, _, _, _, _, _, _, _, _, _, _, _, _, _, _, _, _, _, _, _, _, _, _, _, _, _, _, _, rfl, HQ.out⟩)
   ·go_wp2_with fail
    all_goals (refine thenQ_mk ?_; exact ⟨_, _, _, _, _, _, _, _, _, _, _, _, _, _, _, _, _, _, _, _, _, _, _, _, _, _, _, _, _, _, _, _, _, _, _, _, _, _, _, _, _, _, _, _, _, _, _, _, _, _, _, _, _, _, _, _, _, _, _, _, _, _, _, _, _, _, _, _, _, _, _, _, _, rfl, HQ.out⟩)
 clear HP
 rintro a' W2 ⟨u4, u5, u6, u7, u8, u9, u10, u11, u12, u13, u14, u15, u16, u17, u18, u19, u20, u22, u23, u24, u25, u26, u27, u28, u29, u30, u31, u32, u33, u34, u35, u36, u37, u38, u39, u40, u41, u42, u43, u44, u45, u46, u47, u48, u49, u50, u51, u52, u53, u54, u55, u56, u57, u58, u59, u60, u61, u62, u63, u64, u65, u66, u67, u68, u69, u70, u71, u72, u73, u74, u75, u76, q, rfl, hP⟩
 have HP := Lib.hid hP
 clear hP
 simp only [List.drop_succ_cons, List.drop_zero]
 refine wpList_cut (UnJ30 x va an vc b W) 9 _ ?_ ?_
 ·simp only [List.take_succ_cons, List.take_zero]
  cases q
  ·have HQ := HP
   go_wp2_with fail
   all_goals (refine thenQ_mk ?_; exact ⟨_, _, _, _, _, _, _, _, _, _, _, _, _, _, _, _, _, _, _, _, _, _, _, _, _, _, _, _, _, _, _, _, _, _, _, _, _, _, _, _, _, _, _, _, _, _, _, _, _, _, _, _, _, _, _, _, _, _, _, _, _, _, _, _, _, _, _, _, _, _, _, _, _, rfl, HQ.out⟩)
  ·go_wp2_with fail
   refine (rHas_any x.op 98 _).mono ?_
   rintro e W1 ⟨rfl, b1⟩
   have HQ := Lib.hid (HP.out.below b1)
   have e0 := HQ.out.cell 0 rfl 3 rfl
   obtain ⟨hb1, hhb⟩ : ∃ q, q = hasB x.op 98 := ⟨_, rfl⟩
   rw [← hhb]
   clear b1 hhb
   cases hb1
   ·go_wp2_with fail
    all_goals (refine thenQ_mk ?_; exact ⟨_, _, _, _, _, _, _, _, _, _, _, _, _, _, _, _, _, _, _, _, _, _, _, _, _, _, _, _, _, _, _, _, _, _, _, _, _, _, _, _, _, _, _, _, _, _, _, _, _, _, _, _, _, _, _, _, _, _, _, _, _, _, _, _, _, _, _, _, _, _, _, _, _, rfl, HQ.out⟩)
   ·go_wp2_with fail
    all_goals (refine thenQ_mk ?_; exact ⟨_, _, _, _, _, _, _, _, _, _, _, _, _, _, _, _, _, _, _, _, _, _, _, _, _, _, _, _, _, _, _, _, _, _, _, _, _, _, _, _, _, _, _, _, _, _, _, _, _, _, _, _, _, _, _, _, _, _, _, _, _, _, _, _, _, _, _, _, _, _, _, _, _, rfl, HQ.out⟩)
 clear HP
 rintro a' W2 ⟨u4, u5, u6, u7, u8, u9, u10, u11, u12, u13, u14, u15, u16, u17, u18, u19, u20, u21, u22, u23, u24, u25, u26, u27, u28, u29, u31, u32, u33, u34, u35, u36, u37, u38, u39, u40, u41, u42, u43, u44, u45, u46, u47, u48, u49, u50, u51, u52, u53, u54, u55, u56, u57, u58, u59, u60, u61, u62, u63, u64, u65, u66, u67, u68, u69, u70, u71, u72, u73, u74, u75, u76, q, rfl, hP⟩
 have HP := Lib.hid hP
 clear hP
 simp only [List.drop_succ_cons, List.drop_zero]
 refine wpList_cut (UnJ39 x va an vc b W) 9 _ ?_ ?_
 ·simp only [List.take_succ_cons, List.take_zero]
  cases q
  ·have HQ := HP
   go_wp2_with fail
   all_goals (refine thenQ_mk ?_; exact ⟨_, _, _, _, _, _, _, _, _, _, _, _, _, _, _, _, _, _, _, _, _, _, _, _, _, _, _, _, _, _, _, _, _, _, _, _, _, _, _, _, _, _, _, _, _, _, _, _, _, _, _, _, _, _, _, _, _, _, _, _, _, _, _, _, _, _, _, _, _, _, _, _, _, rfl, HQ.out⟩)
  ·go_wp2_with fail
   refine (rHas_any x.op 110 _).mono ?_
   rintro e W1 ⟨rfl, b1⟩
   have HQ := Lib.hid (HP.out.below b1)
   have e0 := HQ.out.cell 0 rfl 4 rfl
   obtain ⟨hb1, hhb⟩ : ∃ q, q = hasB x.op 110 := ⟨_, rfl⟩
   rw [← hhb]
   clear b1 hhb
   cases hb1
   ·go_wp2_with fail
    all_goals (refine thenQ_mk ?_; exact ⟨_, _, _, _, _, _, _, _, _, _, _, _, _, _, _, _, _, _, _, _, _, _, _, _, _, _, _, _, _, _, _, _, _, _, _, _, _, _, _, _, _, _, _, _, _, _, _, _, _, _, _, _, _, _, _, _, _, _, _, _, _, _, _, _, _, _, _, _, _, _, _, _, _, rfl, HQ.out⟩)
   ·go_wp2_with fail
    all_goals (refine thenQ_mk ?_; exact ⟨_, _, _, _, _, _, _, _, _, _, _, _, _, _, _, _, _, _, _, _, _, _, _, _, _, _, _, _, _, _, _, _, _, _, _, _, _, _, _, _, _, _, _, _, _, _, _, _, _, _, _, _, _, _, _, _, _, _, _, _, _, _, _, _, _, _, _, _, _, _, _, _, _, rfl, HQ.out⟩)
 clear HP
 rintro a' W2 ⟨u4, u5, u6, u7, u8, u9, u10, u11, u12, u13, u14, u15, u16, u17, u18, u19, u20, u21, u22, u23, u24, u25, u26, u27, u28, u29, u30, u31, u32, u33, u34, u35, u36, u37, u38, u40, u41, u42, u43, u44, u45, u46, u47, u48, u49, u50, u51, u52, u53, u54, u55, u56, u57, u58, u59, u60, u61, u62, u63, u64, u65, u66, u67, u68, u69, u70, u71, u72, u73, u74, u75, u76, q, rfl, hP⟩
 have HP := Lib.hid hP
 clear hP
 simp only [List.drop_succ_cons, List.drop_zero]
 refine wpList_cut (UnJ48 x va an vc b W) 9 _ ?_ ?_
 ·simp only [List.take_succ_cons, List.take_zero]
  cases q
  ·have HQ := HP
   go_wp2_with fail
   all_goals (refine thenQ_mk ?_; exact ⟨_, _, _, _, _, _, _, _, _, _, _, _, _, _, _, _, _, _, _, _, _, _, _, _, _, _, _, _, _, _, _, _, _, _, _, _, _, _, _, _, _, _, _, _, _, _, _, _, _, _, _, _, _, _, _, _, _, _, _, _, _, _, _, _, _, _, _, _, _, _, _, _, _, rfl, HQ.out⟩)
  ·go_wp2_with fail
   refine (rHas_any x.op 99 _).mono ?_
   rintro e W1 ⟨rfl, b1⟩
   have HQ := Lib.hid (HP.out.below b1)
   have e0 := HQ.out.cell 0 rfl 5 rfl
   obtain ⟨hb1, hhb⟩ : ∃ q, q = hasB x.op 99 := ⟨_, rfl⟩
   rw [← hhb]
   clear b1 hhb
   cases hb1
   ·go_wp2_with fail
    all_goals (refine thenQ_mk ?_; exact ⟨_, _, _, _, _, _, _, _, _, _, _, _, _, _, _, _, _, _, _, _, _, _, _, _, _, _, _, _, _, _, _, _, _, _, _, _, _, _, _, _, _, _, _, _, _, _, _, _, _, _, _, _, _, _, _, _, _, _, _, _, _, _, _, _, _, _, _, _, _, _, _, _, _, rfl, HQ.out⟩)
   ·go_wp2_with fail
    all_goals (refine thenQ_mk ?_; exact ⟨_, _, _, _, _, _, _, _, _, _, _, _, _, _, _, _, _, _, _, _, _, _, _, _, _, _, _, _, _, _, _, _, _, _, _, _, _, _, _, _, _, _, _, _, _, _, _, _, _, _, _, _, _, _, _, _, _, _, _, _, _, _, _, _, _, _, _, _, _, _, _, _, _, rfl, HQ.out⟩)
 clear HP
 rintro a' W2 ⟨u4, u5, u6, u7, u8, u9, u10, u11, u12, u13, u14, u15, u16, u17, u18, u19, u20, u21, u22, u23, u24, u25, u26, u27, u28, u29, u30, u31, u32, u33, u34, u35, u36, u37, u38, u39, u40, u41, u42, u43, u44, u45, u46, u47, u49, u50, u51, u52, u53, u54, u55, u56, u57, u58, u59, u60, u61, u62, u63, u64, u65, u66, u67, u68, u69, u70, u71, u72, u73, u74, u75, u76, q, rfl, hP⟩
 have HP := Lib.hid hP
 clear hP
 simp only [List.drop_succ_cons, List.drop_zero]
 refine wpList_cut (UnJ57 x va an vc b W) 9 _ ?_ ?_
 ·simp only [List.take_succ_cons, List.take_zero]
  cases q
  ·have HQ := HP
   go_wp2_with fail
   all_goals (refine thenQ_mk ?_; exact ⟨_, _, _, _, _, _, _, _, _, _, _, _, _, _, _, _, _, _, _, _, _, _, _, _, _, _, _, _, _, _, _, _, _, _, _, _, _, _, _, _, _, _, _, _, _, _, _, _, _, _, _, _, _, _, _, _, _, _, _, _, _, _, _, _, _, _, _, _, _, _, _, _, _, rfl, HQ.out⟩)
  ·go_wp2_with fail
   refine (rHas_any x.op 109 _).mono ?_
   rintro e W1 ⟨rfl, b1⟩
   have HQ := Lib.hid (HP.out.below b1)
   have e0 := HQ.out.cell 0 rfl 6 rfl
   obtain ⟨hb1, hhb⟩ : ∃ q, q = hasB x.op 109 := ⟨_, rfl⟩
   rw [← hhb]
   clear b1 hhb
   cases hb1
   ·go_wp2_with fail
    all_goals (refine thenQ_mk ?_; exact ⟨_, _, _, _, _, _, _, _, _, _, _, _, _, _, _, _, _, _, _, _, _, _, _, _, _, _, _, _, _, _, _, _, _, _, _, _, _, _, _, _, _, _, _, _, _, _, _, _, _, _, _, _, _, _, _, _, _, _, _, _, _, _, _, _, _, _, _, _, _, _, _, _, _, rfl, HQ.out⟩)
   ·go_wp2_with fail
    all_goals (refine thenQ_mk ?_; exact ⟨_, _, _, _, _, _, _, _, _, _, _, _, _, _, _, _, _, _, _, _, _, _, _, _, _, _, _, _, _, _, _, _, _, _, _, _, _, _, _, _, _, _, _, _, _, _, _, _, _, _, _, _, _, _, _, _, _, _, _, _, _, _, _, _, _, _, _, _, _, _, _, _, _, rfl, HQ.out⟩)
 clear HP
 rintro a' W2 ⟨u4, u5, u6, u7, u8, u9, u10, u11, u12, u13, u14, u15, u16, u17, u18, u19, u20, u21, u22, u23, u24, u25, u26, u27, u28, u29, u30, u31, u32, u33, u34, u35, u36, u37, u38, u39, u40, u41, u42, u43, u44, u45, u46, u47, u48, u49, u50, u51, u52, u53, u54, u55, u56, u58, u59, u60, u61, u62, u63, u64, u65, u66, u67, u68, u69, u70, u71, u72, u73, u74, u75, u76, q, rfl, hP⟩
 have HP := Lib.hid hP
 clear hP
 simp only [List.drop_succ_cons, List.drop_zero]
 refine wpList_cut (UnJ67 x va an vc b W) 10 _ ?_ ?_
 ·simp only [List.take_succ_cons, List.take_zero]
  cases q
  ·have HQ := HP
   go_wp2_with fail
   all_goals (refine thenQ_mk ?_; exact ⟨_, _, _, _, _, _, _, _, _, _, _, _, _, _, _, _, _, _, _, _, _, _, _, _, _, _, _, _, _, _, _, _, _, _, _, _, _, _, _, _, _, _, _, _, _, _, _, _, _, _, _, _, _, _, _, _, _, _, _, _, _, _, _, _, _, _, _, _, _, _, _, _, _, rfl, HQ.out⟩)
  ·go_wp2_with fail
   refine (rHas_any x.op 108 _).mono ?_
   rintro e W1 ⟨rfl, b1⟩
   have HQ := Lib.hid (HP.out.below b1)
   have e0 := HQ.out.cell 0 rfl 7 rfl
   obtain ⟨hb1, hhb⟩ : ∃ q, q = hasB x.op 108 := ⟨_, rfl⟩
   rw [← hhb]
   clear b1 hhb
   cases hb1
   ·go_wp2_with fail
    all_goals (refine thenQ_mk ?_; exact ⟨_, _, _, _, _, _, _, _, _, _, _, _, _, _, _, _, _, _, _, _, _, _, _, _, _, _, _, _, _, _, _, _, _, _, _, _, _, _, _, _, _, _, _, _, _, _, _, _, _, _, _, _, _, _, _, _, _, _, _, _, _, _, _, _, _, _, _, _, _, _, _, _, _, rfl, HQ.out⟩)
   ·go_wp2_with fail
    all_goals (refine thenQ_mk ?_; exact ⟨_, _, _, _, _, _, _, _, _, _, _, _, _, _, _, _, _, _, _, _, _, _, _, _, _, _, _, _, _, _, _, _, _, _, _, _, _, _, _, _, _, _, _, _, _, _, _, _, _, _, _, _, _, _, _, _, _, _, _, _, _, _, _, _, _, _, _, _, _, _, _, _, _, rfl, HQ.out⟩)
 clear HP
 rintro a' W2 ⟨u4, u5, u6, u7, u8, u9, u10, u11, u12, u13, u14, u15, u16, u17, u18, u19, u20, u21, u22, u23, u24, u25, u26, u27, u28, u29, u30, u31, u32, u33, u34, u35, u36, u37, u38, u39, u40, u41, u42, u43, u44, u45, u46, u47, u48, u49, u50, u51, u52, u53, u54, u55, u56, u57, u58, u59, u60, u61, u62, u63, u64, u65, u66, u68, u69, u70, u71, u72, u73, u74, u75, u76, q, rfl, hP⟩
 have HP := Lib.hid hP
 clear hP
 simp only [List.drop_succ_cons, List.drop_zero]
 cases q
 ·have HQ := HP
  go_wp2_with fail
  all_goals (go_ret; exact ⟨_, rfl, HQ.out.bel⟩)
 ·go_wp2_with fail
  refine (rHas_any x.op 103 _).mono ?_
  rintro e W1 ⟨rfl, b1⟩
  have HQ := Lib.hid (HP.out.below b1)
  have e0 := HQ.out.cell 0 rfl 8 rfl
  obtain ⟨hb1, hhb⟩ : ∃ q, q = hasB x.op 103 := ⟨_, rfl⟩
  rw [← hhb]
  clear b1 hhb
  cases hb1
  ·go_wp2_with fail
   all_goals (go_ret; exact ⟨_, rfl, HQ.out.bel⟩)
  ·go_wp2_with fail
   all_goals (go_ret; exact ⟨_, rfl, HQ.out.bel⟩)
end Go.Proofs.YtnklnklkblgnfaaGreat
end
section
namespace Go.Proofs.YtnklnklkblgnfaaGreat
open Go.RowKit Go.Dfl Go.Obs Go.Hir
open Go.Gra (gen_code gen_calls)
def InstrR (cs : List Cl) (f : Fu) (i : Nat) (W : World) (e : Ending) (W' : World) : Prop := ∃ n : Int, e = .returned (.int .i64 n) ∧ (n = 0 → IOk cs f i) ∧ Below W.heap.size W W'
set_option maxHeartbeats 6400000 in
set_option maxRecDepth 8000 in
theorem rInstr_any (cs : List Cl) (hv : Value) (f : Fu) (vv cv : Value) (i : Nat) (W : World) (h : InS vCl W hv cs) (hl : cs.length ≤ 1000000) (hvv : InS vVd W vv f.vs) (hcv : InS vIs W cv f.cd) (hi : i < f.cd.length) (hal : (nth f.cd i).ar.length ≤ 1048576) :
  Calls Tryz.prog 74 #[.agg #[hv], fuV f vv cv, .int .i64 (i : Int)] W (InstrR cs f i W) := by
 obtain ⟨ha, hc, rfl⟩ := h.shape
 have hvv0 := hvv
 have hcv0 := hcv
 obtain ⟨va, vc, rfl, hvl⟩ := InS.vd hvv
 obtain ⟨ca, cc, rfl, hcl, cidx, ccell⟩ := InS.is hcv
 obtain ⟨n, hn⟩ : ∃ n, n = f.vs.length := ⟨_, rfl⟩
 obtain ⟨m, hm⟩ : ∃ n, n = f.cd.length := ⟨_, rfl⟩
 rw [← hm] at cidx ccell hcl hi
 rw [← hn] at hvv0
 rw [← hm] at hcv0
 rw [← hn, ← hm]
 obtain ⟨-, v7, hin, hz⟩ := ccell i hi
 obtain ⟨x, hx⟩ : ∃ x, x = nth f.cd i := ⟨_, rfl⟩
 rw [← hx] at hz hin hal
 have HE := Lib.hid (((Env.refl W).alloc [.slice ha cs.length hc] 24).alloc (fuC f (.slice va n vc) (.slice ca m cc)) 45)
 obtain ⟨xa, xc, hv7⟩ := hin.2.2.2.2.2.2.2.2.2.shape
 subst hv7
 have hin0 := hin
 obtain ⟨k, hk⟩ : ∃ n, n = x.ar.length := ⟨_, rfl⟩
 rw [← hk] at hz hin0
 have HC := Lib.hid (And.intro (And.intro h (And.intro hvv0 hcv0)) (And.intro hz (And.intro hx (And.intro hin0 (And.intro hm (And.intro hi hal))))))
 have j0 := cidx (i : Int) (by omega) (by omega)
 rw [Int.toNat_natCast] at j0
 have hcl2 := hcl
 clear hvl cidx ccell hvv hcv hn hm hk hz hx hin hin0 hcl hvv0 hcv0 h hal
 unfold fuV
 go_enter Tryz.func74, Tryz.ntmps74
 go_upto_region 1 with fail
 refine gen_code (fun Z => Env W [fkC (W.heap.size + 1) (fuC f (.slice va n vc) (.slice ca m cc)), fkC W.heap.size [.slice ha cs.length hc]] Z) (by have h := HE.out; rw [World.size_alloc] at h; exact h) ?_
 intro Z hZ
 obtain ⟨b, hb⟩ : ∃ b, b = W.heap.size := ⟨_, rfl⟩
 obtain ⟨bf, hbf⟩ : ∃ b, b = W.heap.size + 1 := ⟨_, rfl⟩
 rw [← hbf, ← hb] at hZ ⊢
 have HZ := Lib.hid hZ
 have d6 := hZ.cell 0 rfl 6 rfl
 obtain ⟨p0, p1, p2, p3, p4, p5, p6, p7, p8, p9⟩ := HC.out.2.1 Z hZ.bel
 clear hZ hb hbf HE
 go_upto_region 2 with fail
 refine gen_code (fun Z' => Env W [fkC Z.heap.size (isC' x (.slice xa k xc)), fkC bf (fuC f (.slice va n vc) (.slice ca m cc)), fkC b [.slice ha cs.length hc]] Z') (HZ.out.alloc (isC' x (.slice xa k xc)) 87) ?_
 intro Z2 hZ2
 obtain ⟨bx, hbx⟩ : ∃ b, b = Z.heap.size := ⟨_, rfl⟩
 rw [← hbx] at hZ2 ⊢
 have H2 := Lib.hid hZ2
 clear hZ2 hbx d6 p0 p1 p2 p3 p4 p5 p6 p7 p8 p9 HZ
 go_cut [31] (fun q wx => ∃ en : Bool, q = .bool en ∧ (en = false → 0 ≤ x.op ∧ x.op ≤ 16) ∧ Env W [fkC bx (isC' x (.slice xa k xc)), fkC bf (fuC f (.slice va n vc) (.slice ca m cc)), fkC b [.slice ha cs.length hc]] wx)
 case first =>
  have e0 := H2.out.cell 0 rfl 0 rfl
  go_wp2_with fail
  refine (rName_any x.op _).mono ?_
  rintro e W1 ⟨rfl, b1⟩
  have H3 := Lib.hid (H2.out.below b1)
  clear b1 e0
  by_cases ho : 0 ≤ x.op ∧ x.op < 17
  ·have hne := nmP_ne ho
   obtain ⟨y, hy⟩ : ∃ y, y = nmP x.op := ⟨_, rfl⟩
   rw [← hy] at hne ⊢
   have t0 := tl_ne hne
   have t1 := te_ne hne
   have HO := Lib.hid ho
   clear ho hne hy
   have e0 := H3.out.cell 0 rfl 0 rfl
   have e4 := H3.out.cell 0 rfl 4 rfl
   by_cases h4 : x.op = 4
   ·have t4 : (x.op == 4) = true := by simp [h4]
    clear h4
    by_cases h1 : x.n < 1
    ·have t5 : decide (x.n < 1) = true := decide_eq_true h1
     clear h1
     go_wp2_with fail
     go_meet
     case rel => exact ⟨true, rfl, (fun h => by cases h), H3.out⟩
    ·have t5 : decide (x.n < 1) = false := decide_eq_false h1
     obtain ⟨q, hq⟩ : ∃ q, decide (5 < x.n) = q := ⟨_, rfl⟩
     clear h1
     go_wp2_with fail
     go_meet
     case rel => exact ⟨q, by rw [← hq]; try rfl, (fun _ => by have := HO.out; omega), H3.out⟩
   ·have t4 : (x.op == 4) = false := by simpa using h4
    clear h4
    go_wp2_with fail
    go_meet
    case rel => exact ⟨false, rfl, (fun _ => by have := HO.out; omega), H3.out⟩
  ·have he : nmP x.op = ⟨#[]⟩ := by unfold nmP; rw [if_neg ho]
   rw [he]
   clear ho he
   go_wp2_with fail
   go_meet
   case rel => exact ⟨true, rfl, (fun h => by cases h), H3.out⟩
 case rest =>
 obtain ⟨en, rfl, hop, hE⟩ := hcut
 have H3 := Lib.hid (And.intro hE hop)
 clear hE hop H2
 cases en
 case true =>
  go_wp2_with fail
  go_ret
  exact ⟨12, rfl, (fun h => by cases h), H3.out.1.bel⟩
 have e0 := H3.out.1.cell 0 rfl 0 rfl
 have e1 := H3.out.1.cell 0 rfl 1 rfl
 have e2 := H3.out.1.cell 0 rfl 2 rfl
 have e3 := H3.out.1.cell 0 rfl 3 rfl
 have e4 := H3.out.1.cell 0 rfl 4 rfl
 have e5 := H3.out.1.cell 0 rfl 5 rfl
 have e6 := H3.out.1.cell 0 rfl 6 rfl
 have e7 := H3.out.1.cell 0 rfl 7 rfl
 have e8 := H3.out.1.cell 0 rfl 8 rfl
 have e9 := H3.out.1.cell 0 rfl 9 rfl
 go_wp2_with fail
 refine (rUnused_any x _ _ (HC.out.2.2.2.1.2.2.2.2.2.2.2.2.2.below H3.out.1.bel)).mono ?_
 rintro e W4 ⟨q, rfl, b4⟩
 have H4 := Lib.hid (H3.out.1.below b4)
 clear b4 e0 e1 e2 e3 e4 e5 e6 e7 e8 e9
 cases q
 case false =>
  go_wp2_with fail
  go_ret
  exact ⟨1, rfl, (fun h => by cases h), H4.out.bel⟩
 have d0 := H4.out.cell 1 rfl 0 rfl
 have d1 := H4.out.cell 1 rfl 1 rfl
 have d2 := H4.out.cell 1 rfl 2 rfl
 have d3 := H4.out.cell 1 rfl 3 rfl
 have d4 := H4.out.cell 1 rfl 4 rfl
 have d5 := H4.out.cell 1 rfl 5 rfl
 have d6 := H4.out.cell 1 rfl 6 rfl
 have e0 := H4.out.cell 0 rfl 0 rfl
 have e1 := H4.out.cell 0 rfl 1 rfl
 have e2 := H4.out.cell 0 rfl 2 rfl
 have e3 := H4.out.cell 0 rfl 3 rfl
 have e4 := H4.out.cell 0 rfl 4 rfl
 have e5 := H4.out.cell 0 rfl 5 rfl
 have e6 := H4.out.cell 0 rfl 6 rfl
 have e7 := H4.out.cell 0 rfl 7 rfl
 have e8 := H4.out.cell 0 rfl 8 rfl
 have e9 := H4.out.cell 0 rfl 9 rfl
 go_wp2_with fail
 refine (rRanges_any f _ _ x _ _ (HC.out.1.2.1.below H4.out.bel) (HC.out.1.2.2.below H4.out.bel) (HC.out.2.2.2.1.2.2.2.2.2.2.2.2.2.below H4.out.bel) HC.out.2.2.2.2.2.2 HC.out.2.2.2.1.2.2.1 HC.out.2.2.2.1.2.2.2.1).mono ?_
 rintro e W5 ⟨q, rfl, hr, b5⟩
 have H5 := Lib.hid (And.intro (H4.out.below b5) hr)
 clear b5 hr
 clear d0 d1 d2 d3 d4 d5 d6 e0 e1 e2 e3 e4 e5 e6 e7 e8 e9
 cases q
 case false =>
  go_wp2_with fail
  go_ret
  exact ⟨4, rfl, (fun h => by cases h), H5.out.1.bel⟩
 have d0 := H5.out.1.cell 1 rfl 0 rfl
 have d1 := H5.out.1.cell 1 rfl 1 rfl
 have d2 := H5.out.1.cell 1 rfl 2 rfl
 have d3 := H5.out.1.cell 1 rfl 3 rfl
 have d4 := H5.out.1.cell 1 rfl 4 rfl
 have d5 := H5.out.1.cell 1 rfl 5 rfl
 have d6 := H5.out.1.cell 1 rfl 6 rfl
 go_wp2_with fail
 refine (rLeaves_any f _ _ i _ (HC.out.1.2.1.below H5.out.1.bel) (HC.out.1.2.2.below H5.out.1.bel) (by rw [← HC.out.2.2.2.2.1]; exact HC.out.2.2.2.2.2.1) (by rw [← HC.out.2.2.1]; exact H5.out.2 trivial)).mono ?_
 rintro e W6 ⟨q, rfl, hs, b6⟩
 have H6 := Lib.hid (And.intro (H5.out.1.below b6) hs)
 clear b6 hs d0 d1 d2 d3 d4 d5 d6
 cases q
 case true =>
  go_wp2_with fail
  go_ret
  exact ⟨1, rfl, (fun h => by cases h), H6.out.1.bel⟩
 have c0 := H6.out.1.cell 2 rfl 0 rfl
 have d0 := H6.out.1.cell 1 rfl 0 rfl
 have d1 := H6.out.1.cell 1 rfl 1 rfl
 have d2 := H6.out.1.cell 1 rfl 2 rfl
 have d3 := H6.out.1.cell 1 rfl 3 rfl
 have d4 := H6.out.1.cell 1 rfl 4 rfl
 have d5 := H6.out.1.cell 1 rfl 5 rfl
 have d6 := H6.out.1.cell 1 rfl 6 rfl
 have e0 := H6.out.1.cell 0 rfl 0 rfl
 have e1 := H6.out.1.cell 0 rfl 1 rfl
 have e2 := H6.out.1.cell 0 rfl 2 rfl
 have e3 := H6.out.1.cell 0 rfl 3 rfl
 have e4 := H6.out.1.cell 0 rfl 4 rfl
 have e5 := H6.out.1.cell 0 rfl 5 rfl
 have e6 := H6.out.1.cell 0 rfl 6 rfl
 have e7 := H6.out.1.cell 0 rfl 7 rfl
 have e8 := H6.out.1.cell 0 rfl 8 rfl
 have e9 := H6.out.1.cell 0 rfl 9 rfl
 go_wp2_with fail
 refine (rTypes12_any cs _ f _ _ x _ _ (HC.out.1.1.below H6.out.1.bel) hl (HC.out.1.2.1.below H6.out.1.bel) (HC.out.1.2.2.below H6.out.1.bel) (HC.out.2.2.2.1.2.2.2.2.2.2.2.2.2.below H6.out.1.bel) (H5.out.2 trivial)).mono ?_
 rintro e W7 ⟨q, rfl, ht, b7⟩
 have H7 := Lib.hid (And.intro (H6.out.1.below b7) ht)
 clear b7 ht
 clear d0 d1 d2 d3 d4 d5 d6 e0 e1 e2 e3 e4 e5 e6 e7 e8 e9
 clear c0
 go_wp2_with fail
 go_ret
 exact ⟨q, rfl, fun h => ⟨by rw [← HC.out.2.2.1]; exact H3.out.2 trivial, by rw [← HC.out.2.2.1]; exact H5.out.2 trivial, H6.out.2 trivial, by rw [← HC.out.2.2.1]; exact H7.out.2 h⟩, H7.out.1.bel⟩
end Go.Proofs.YtnklnklkblgnfaaGreat
end
section
namespace Go.Proofs.YtnklnklkblgnfaaGreat
open Go.RowKit Go.Dfl Go.Obs Go.Hir
open Go.Gra (gen_code gen_calls)
theorem byte_at {s : ByteArray} {j : Nat} (hlt : j < s.size) : ∀ W, (Instr.index 9 (.string s) (.int .i64 (j : Int))).run Tryz.prog W = .ok (.int .u8 (bt s j : Int)) W := fun W => by
 rw [run_index_string 9 s .i64 _ Tryz.underlying9 (w := W), dif_pos ⟨by omega, by omega⟩]
 simp only [Int.toNat_natCast]
 unfold bt
 rw [dif_pos hlt]
set_option maxHeartbeats 1600000 in
theorem rNatural_any (s : ByteArray) (W : World) (hs : s.size ≤ maxLen) : Calls Tryz.prog 104 #[.string s] W (AnyB W) := by
 unfold maxLen at hs
 go_enter Tryz.func104, Tryz.ntmps104
 go_wp2_with fail
 go_loop [3] (fun x => ∃ k : Nat, k ≤ s.size ∧ x = .int .i64 (k : Int)) (fun x => s.size - (intOf x).toNat)
 case atStart => exact ⟨0, by omega, rfl⟩
 case round =>
  obtain ⟨k, hk, rfl⟩ := hrel
  by_cases hlt : k < s.size
  ·have hki : (k : Int) < (s.size : Int) := by omega
   have hix := byte_at hlt
   obtain ⟨c, hc⟩ : ∃ c, c = bt s k := ⟨_, rfl⟩
   rw [← hc] at hix
   clear hc
   obtain ⟨q1, h1⟩ : ∃ q, (decide ((c : Int) < 48)) = q := ⟨_, rfl⟩
   obtain ⟨q2, h2⟩ : ∃ q, (decide (57 < (c : Int))) = q := ⟨_, rfl⟩
   have h3 : (decide (c < 48)) = q1 := by rw [← h1]; exact decide_eq_decide.2 (by omega)
   have h4 : (decide (57 < c)) = q2 := by rw [← h2]; exact decide_eq_decide.2 (by omega)
   cases q1
   ·cases q2
    ·go_wp2_with fail
     go_round
     case rel => exact ⟨k + 1, by omega, by go_num⟩
     case measure => simp [intOf]; omega
    ·go_wp2_with fail
     go_ret
     exact ⟨⟨_, rfl⟩, rfl⟩
   ·go_wp2_with fail
    go_ret
    exact ⟨⟨_, rfl⟩, rfl⟩
  ·obtain rfl : k = s.size := by omega
   clear hlt hk
   by_cases h1 : s.size = 1
   ·have t1 : ((s.size : Int) == 1) = true := by simp; omega
    go_wp2_with fail
    go_ret
    exact ⟨⟨_, rfl⟩, rfl⟩
   ·have t1 : ((s.size : Int) == 1) = false := by simp; omega
    by_cases h2 : 1 < s.size
    ·have t2 : (decide (1 < (s.size : Int))) = true := decide_eq_true (by omega)
     have hix := byte_at (s := s) (j := 0) (by omega)
     go_wp2_with fail
     all_goals (go_ret; exact ⟨⟨_, rfl⟩, rfl⟩)
    ·have t2 : (decide (1 < (s.size : Int))) = false := decide_eq_false (by omega)
     go_wp2_with fail
     go_ret
     exact ⟨⟨_, rfl⟩, rfl⟩
set_option maxHeartbeats 6400000 in
set_option maxRecDepth 8000 in
theorem rNames_any (cs : List Cl) (hv : Value) (f : Fu) (vv cv : Value) (W : World) (h : InS vCl W hv cs) (hvv : InS vVd W vv f.vs) (hcv : InS vIs W cv f.cd) :
  Calls Tryz.prog 73 #[.agg #[hv], fuV f vv cv] W (SomeC W) := by
 obtain ⟨ha, hc, rfl⟩ := h.shape
 obtain ⟨va, vc, rfl, hvl, vidx, vcell⟩ := InS.vd hvv
 obtain ⟨ca, cc, rfl⟩ := hcv.shape
 obtain ⟨n, hn⟩ : ∃ n, n = f.vs.length := ⟨_, rfl⟩
 obtain ⟨m, hm⟩ : ∃ n, n = f.cd.length := ⟨_, rfl⟩
 rw [← hn] at vidx vcell hvl
 rw [← hn, ← hm]
 have HE := Lib.hid (((Env.refl W).alloc [.slice ha cs.length hc] 24).alloc (fuC f (.slice va n vc) (.slice ca m cc)) 45)
 have HC := Lib.hid (And.intro h (And.intro vidx vcell))
 have hcl2 := hvl
 clear h hvv hcv hn hm vidx vcell hvl
 unfold fuV
 go_enter Tryz.func73, Tryz.ntmps73
 go_wp2_with fail
 refine gen_code (fun Z => Env W [fkC (W.heap.size + 1) (fuC f (.slice va n vc) (.slice ca m cc)), fkC W.heap.size [.slice ha cs.length hc]] Z) (by have h := HE.out; rw [World.size_alloc] at h; exact h) ?_
 intro Z hZ
 obtain ⟨b, hb⟩ : ∃ b, b = W.heap.size := ⟨_, rfl⟩
 obtain ⟨bf, hbf⟩ : ∃ b, b = W.heap.size + 1 := ⟨_, rfl⟩
 rw [← hbf, ← hb] at hZ ⊢
 have HZ := Lib.hid hZ
 clear hZ hb hbf HE
 go_loopw [5] (fun z wr => ∃ k : Nat, k ≤ n ∧ z = .int .i64 (k : Int) ∧ Hid (Env W [fkC bf (fuC f (.slice va n vc) (.slice ca m cc)), fkC b [.slice ha cs.length hc]] wr)) (fun z _ => n - (intOf z).toNat)
 case atStart => exact ⟨0, by omega, rfl, HZ.out⟩
 case round =>
  clear HZ
  obtain ⟨k, hk, rfl, hh⟩ := hrel
  have d4 := hh.out.cell 0 rfl 4 rfl
  by_cases hlt : k < n
  ·have hki : (k : Int) < (n : Int) := by omega
   obtain ⟨-, hsz, hz⟩ := HC.out.2.2 k hlt
   obtain ⟨p0, p1⟩ := hz wr hh.out.bel
   have j1 := HC.out.2.1 (k : Int) (by omega) (by omega)
   rw [Int.toNat_natCast] at j1
   obtain ⟨y, hy⟩ : ∃ y, y = nth f.vs k := ⟨_, rfl⟩
   rw [← hy] at p0 p1 hsz
   have HSZ := Lib.hid hsz
   clear hz hy hsz
   go_upto_region 4 with fail
   go_cut [6, 7] (fun p q wx => p = .string y.n ∧ q = .string y.t ∧ Env W [fkC bf (fuC f (.slice va n vc) (.slice ca m cc)), fkC b [.slice ha cs.length hc]] wx)
   case first =>
    go_quiet (fail)
    go_wp2_with fail
    go_meet
    case rel => exact ⟨rfl, rfl, hh.out.below (qt_below (Qt.drewN _ _))⟩
   case rest =>
   obtain ⟨rfl, rfl, hE⟩ := hcut
   have H1 := Lib.hid hE
   clear hE d4 p0 p1 j1
   go_upto_region 5 with fail
   go_cut [8] (fun q wx => ∃ en : Bool, q = .bool en ∧ Env W [fkC bf (fuC f (.slice va n vc) (.slice ca m cc)), fkC b [.slice ha cs.length hc]] wx)
   case first =>
    have d2 := H1.out.cell 0 rfl 2 rfl
    by_cases h0 : k = 0
    ·have t0 : ((k : Int) == 0) = true := by simp; omega
     clear h0
     rcases Bool.eq_false_or_eq_true f.st with hst | hst
     ·go_wp2_with fail
      go_meet
      case rel => exact ⟨_, rfl, H1.out⟩
     ·by_cases he : y.n = ⟨#[116, 104, 105, 115]⟩
      ·have t1 : (y.n.toList == [116, 104, 105, 115]) = true := tl_lit he
       clear he
       go_wp2_with fail
       go_meet
       case rel => exact ⟨_, rfl, H1.out⟩
      ·have t1 : (y.n.toList == [116, 104, 105, 115]) = false := tl_litn he
       clear he
       go_wp2_with fail
       go_meet
       case rel => exact ⟨_, rfl, H1.out⟩
    ·have t0 : ((k : Int) == 0) = false := by simp; omega
     clear h0
     go_wp2_with fail
     go_meet
     case rel => exact ⟨_, rfl, H1.out⟩
   case rest =>
   obtain ⟨en, rfl, hE⟩ := hcut
   have H2 := Lib.hid hE
   clear hE H1
   go_upto_region 6 with fail
   go_cut [66] (fun q wx => ∃ en : Bool, q = .bool en ∧ Env W [fkC bf (fuC f (.slice va n vc) (.slice ca m cc)), fkC b [.slice ha cs.length hc]] wx)
   case first =>
    cases en
    case true =>
     go_wp2_with fail
     go_meet
     case rel => exact ⟨_, rfl, H2.out⟩
    go_wp2_with fail
    refine (rIdent_any y.n _ HSZ.out.1).mono ?_
    rintro e W3 ⟨q, rfl, -, b3⟩
    have H3 := Lib.hid (H2.out.below b3)
    clear b3
    cases q
    case true =>
     go_wp2_with fail
     go_meet
     case rel => exact ⟨_, rfl, H3.out⟩
    by_cases h2 : y.n.size < 2
    ·have t2 : decide ((y.n.size : Int) < 2) = true := decide_eq_true (by omega)
     clear h2
     go_wp2_with fail
     go_meet
     case rel => exact ⟨_, rfl, H3.out⟩
    have t2 : decide ((y.n.size : Int) < 2) = false := decide_eq_false (by omega)
    by_cases h3 : 32 < y.n.size
    ·have t3 : decide (32 < (y.n.size : Int)) = true := decide_eq_true (by omega)
     clear h2 h3
     go_wp2_with fail
     go_meet
     case rel => exact ⟨_, rfl, H3.out⟩
    have t3 : decide (32 < (y.n.size : Int)) = false := decide_eq_false (by omega)
    have h0 : 0 < y.n.size := by omega
    by_cases h4 : ((y.n[0]'h0).toNat : Int) = 36
    ·have hts : (y.n.extract 1 y.n.size).size ≤ maxLen := by
      have := HSZ.out.1
      rw [ByteArray.size_extract]; omega
     clear h2 h3
     go_wp2_with fail
     refine (rNatural_any _ _ hts).mono ?_
     rintro e W4 ⟨⟨q, rfl⟩, rfl⟩
     cases q
     ·go_wp2_with fail
      go_meet
      case rel => exact ⟨_, rfl, H3.out⟩
     ·go_wp2_with fail
      go_meet
      case rel => exact ⟨_, rfl, H3.out⟩
    ·have t4 : (((y.n[0]'h0).toNat : Int) == 36) = false := by simpa using h4
     clear h2 h3
     go_wp2_with fail
     go_meet
     case rel => exact ⟨_, rfl, H3.out⟩
   case rest =>
   obtain ⟨en, rfl, hE⟩ := hcut
   have H3 := Lib.hid hE
   clear hE H2
   cases en
   case true =>
    go_wp2_with fail
    go_ret
    exact ⟨5, rfl, H3.out.bel⟩
   have c0 := H3.out.cell 1 rfl 0 rfl
   by_cases ht : y.t = tN
   ·have t1 : (y.t.toList == [110, 117, 108, 108]) = true := tl_lit ht
    have t2 : (y.t.toList != [110, 117, 108, 108]) = false := by rw [bne, t1]; rfl
    clear ht
    go_wp2_with fail
    go_roundw
    case rel => exact ⟨k + 1, by omega, by go_num, H3.out⟩
    case measure => simp [intOf]; omega
   ·have t1 : (y.t.toList == [110, 117, 108, 108]) = false := tl_litn ht
    have t2 : (y.t.toList != [110, 117, 108, 108]) = true := by rw [bne, t1]; rfl
    clear ht
    go_wp2_with fail
    refine (rType_any cs _ y.t _ (HC.out.1.below H3.out.bel)).mono ?_
    rintro e W4 ⟨q, rfl, b4⟩
    have H4 := Lib.hid (H3.out.below b4)
    clear b4 c0
    cases q
    ·go_wp2_with fail
     go_ret
     exact ⟨8, rfl, H4.out.bel⟩
    ·go_wp2_with fail
     go_roundw
     case rel => exact ⟨k + 1, by omega, by go_num, H4.out⟩
     case measure => simp [intOf]; omega
  ·obtain rfl : k = n := by omega
   clear hlt hk
   go_wp2_with fail
   go_ret
   exact ⟨0, rfl, hh.out.bel⟩
end Go.Proofs.YtnklnklkblgnfaaGreat
end
section
namespace Go.Proofs.YtnklnklkblgnfaaGreat
open Go.RowKit Go.Dfl Go.Obs Go.Hir
open Go.Gra (gen_code gen_calls)
def FitR (f : Fu) (c : ByteArray) (s : Sg) (W : World) (e : Ending) (W' : World) : Prop := ∃ b : Bool, e = .returned (.bool b) ∧ (b = true → FitF f c s) ∧ Below W.heap.size W W'
set_option maxHeartbeats 6400000 in
set_option maxRecDepth 8000 in
theorem rFitF_any (f : Fu) (vv cv : Value) (c : ByteArray) (s : Sg) (pv : Value) (W : World) (hvv : InS vVd W vv f.vs) (hcv : InS vIs W cv f.cd) (hp : InS vS W pv s.ps) (hpb : s.ps.length ≤ 1048576) :
  Calls Tryz.prog 72 #[fuV f vv cv, .string c, sgV s pv] W (FitR f c s W) := by
 obtain ⟨va, vc, rfl, hvl, vidx, vcell⟩ := InS.vd hvv
 obtain ⟨ca, cc, rfl⟩ := hcv.shape
 obtain ⟨pa, pc, rfl, hpl, -⟩ := InS.strs hp
 obtain ⟨n, hn⟩ : ∃ n, n = f.vs.length := ⟨_, rfl⟩
 obtain ⟨m, hm⟩ : ∃ n, n = f.cd.length := ⟨_, rfl⟩
 obtain ⟨pn, hpn⟩ : ∃ n, n = s.ps.length := ⟨_, rfl⟩
 rw [← hn] at vidx vcell hvl
 rw [← hpn] at hp hpl hpb
 rw [← hn, ← hm, ← hpn]
 have HE := Lib.hid (((Env.refl W).alloc (fuC f (.slice va n vc) (.slice ca m cc)) 45).alloc [.string s.n, .bool s.st, .slice pa pn pc, .string s.r] 132)
 have HC := Lib.hid (And.intro (And.intro vidx vcell) (And.intro hp (And.intro hn hpn)))
 have hvl2 := hvl
 have hpl2 := hpl
 clear hvv hcv hp hn hm hpn vidx vcell hvl hpl
 unfold fuV sgV
 go_enter Tryz.func72, Tryz.ntmps72
 go_upto_region 1 with fail
 refine gen_code (fun Z => Env W [fkC (W.heap.size + 1) [.string s.n, .bool s.st, .slice pa pn pc, .string s.r], fkC W.heap.size (fuC f (.slice va n vc) (.slice ca m cc))] Z) (by have h := HE.out; rw [World.size_alloc] at h; exact h) ?_
 intro Z hZ
 obtain ⟨bf, hbf⟩ : ∃ b, b = W.heap.size := ⟨_, rfl⟩
 obtain ⟨bs, hbs⟩ : ∃ b, b = W.heap.size + 1 := ⟨_, rfl⟩
 rw [← hbs, ← hbf] at hZ ⊢
 have HZ := Lib.hid hZ
 have d0 := hZ.cell 1 rfl 0 rfl
 have d1 := hZ.cell 1 rfl 1 rfl
 have d2 := hZ.cell 1 rfl 2 rfl
 have d3 := hZ.cell 1 rfl 3 rfl
 have d4 := hZ.cell 1 rfl 4 rfl
 have d5 := hZ.cell 1 rfl 5 rfl
 have s0 := hZ.cell 0 rfl 0 rfl
 have s1 := hZ.cell 0 rfl 1 rfl
 have s2 := hZ.cell 0 rfl 2 rfl
 have s3 := hZ.cell 0 rfl 3 rfl
 clear hZ hbs hbf HE
 go_cut [33] (fun q wx => ∃ en : Bool, q = .bool en ∧ (en = false → f.c = c ∧ f.m = s.n ∧ f.st = s.st ∧ f.r = s.r) ∧ Z = wx)
 case first =>
  by_cases h1 : f.c = c
  case neg =>
   have t1 := tn_ne h1
   have t1b := tl_ne h1
   clear h1
   go_wp2_with fail
   go_meet
   case rel => exact ⟨true, rfl, (fun h => by cases h), rfl⟩
  have t1 := tn_eq h1
  have t1b := tl_eq h1
  by_cases h2 : f.m = s.n
  case neg =>
   have t2 := tn_ne h2
   have t2b := tl_ne h2
   clear h1 h2
   go_wp2_with fail
   go_meet
   case rel => exact ⟨true, rfl, (fun h => by cases h), rfl⟩
  have t2 := tn_eq h2
  have t2b := tl_eq h2
  by_cases h4 : f.r = s.r
  ·have t4 := tn_eq h4
   have t4b := tl_eq h4
   have HF := Lib.hid (And.intro h1 (And.intro h2 h4))
   clear h1 h2 h4
   rcases Bool.eq_false_or_eq_true f.st with hf | hf
   ·rcases Bool.eq_false_or_eq_true s.st with hs | hs
    ·have HT := Lib.hid (hf.trans hs.symm)
     go_wp2_with fail
     go_meet
     case rel => exact ⟨false, rfl, fun _ => ⟨HF.out.1, HF.out.2.1, HT.out, HF.out.2.2⟩, rfl⟩
    ·go_wp2_with fail
     go_meet
     case rel => exact ⟨true, rfl, (fun h => by cases h), rfl⟩
   ·rcases Bool.eq_false_or_eq_true s.st with hs | hs
    ·go_wp2_with fail
     go_meet
     case rel => exact ⟨true, rfl, (fun h => by cases h), rfl⟩
    ·have HT := Lib.hid (hf.trans hs.symm)
     go_wp2_with fail
     go_meet
     case rel => exact ⟨false, rfl, fun _ => ⟨HF.out.1, HF.out.2.1, HT.out, HF.out.2.2⟩, rfl⟩
  ·have t4 := tn_ne h4
   have t4b := tl_ne h4
   clear h1 h2 h4
   rcases Bool.eq_false_or_eq_true f.st with hf | hf
   ·rcases Bool.eq_false_or_eq_true s.st with hs | hs
    ·go_wp2_with fail
     go_meet
     case rel => exact ⟨true, rfl, (fun h => by cases h), rfl⟩
    ·go_wp2_with fail
     go_meet
     case rel => exact ⟨true, rfl, (fun h => by cases h), rfl⟩
   ·rcases Bool.eq_false_or_eq_true s.st with hs | hs
    ·go_wp2_with fail
     go_meet
     case rel => exact ⟨true, rfl, (fun h => by cases h), rfl⟩
    ·go_wp2_with fail
     go_meet
     case rel => exact ⟨true, rfl, (fun h => by cases h), rfl⟩
 case rest =>
 obtain ⟨en, rfl, hen, rfl⟩ := hcut
 cases en
 case true =>
  clear hen
  go_wp2_with fail
  go_ret
  exact ⟨false, rfl, (fun h => by cases h), HZ.out.bel⟩
 have HF := Lib.hid (hen rfl)
 clear hen
 obtain ⟨o, ho⟩ : ∃ o : Nat, o = if s.st then 0 else 1 := ⟨_, rfl⟩
 obtain ⟨N, hN⟩ : ∃ N, N = pn + o := ⟨_, rfl⟩
 have ho1 : o ≤ 1 := by rw [ho]; split <;> omega
 have HO := Lib.hid (And.intro ho (And.intro hN ho1))
 clear ho hN ho1
 obtain ⟨st, hst⟩ : ∃ q, q = s.st := ⟨_, rfl⟩
 have HST := Lib.hid hst
 rw [← hst] at s1
 clear hst
 go_upto_if 39 with fail
 go_cut [7] (fun q wx => q = .int .i64 (N : Int) ∧ Z = wx)
 case first =>
  cases st
  case true =>
   have hst := HST.out.symm
   have HT := Lib.hid (show N = pn by have h1 := HO.out.2.1; have h2 := HO.out.1; rw [hst, if_pos rfl] at h2; omega)
   clear hst
   go_wp2_with fail
   go_meet
   case rel => exact ⟨by rw [HT.out], rfl⟩
  case false =>
   have hst := HST.out.symm
   have HT := Lib.hid (show N = pn + 1 by have h1 := HO.out.2.1; have h2 := HO.out.1; rw [hst, if_neg (by decide)] at h2; omega)
   clear hst
   go_wp2_with fail
   go_meet
   case rel => exact ⟨by rw [HT.out]; go_num, rfl⟩
 case rest =>
 obtain ⟨rfl, rfl⟩ := hcut
 have hN2 : N ≤ 9223372036854775807 := by have := HO.out.2.1; have := HO.out.2.2; omega
 by_cases h5 : f.ps = (N : Int)
 case neg =>
  have t5 : (f.ps != (N : Int)) = true := by simpa using h5
  have t5b : (f.ps == (N : Int)) = false := by simpa using h5
  clear h5
  go_wp2_with fail
  go_ret
  exact ⟨false, rfl, (fun h => by cases h), HZ.out.bel⟩
 have t5 : (f.ps != (N : Int)) = false := by simpa using h5
 have t5b : (f.ps == (N : Int)) = true := by simpa using h5
 clear h5
 by_cases h6 : n < N
 ·have t6 : decide ((n : Int) < (N : Int)) = true := decide_eq_true (by omega)
  have t6n : decide (n < N) = true := decide_eq_true h6
  clear h6
  go_wp2_with fail
  go_ret
  exact ⟨false, rfl, (fun h => by cases h), HZ.out.bel⟩
 have t6 : decide ((n : Int) < (N : Int)) = false := decide_eq_false (by omega)
 have t6n : decide (n < N) = false := decide_eq_false h6
 have HL := Lib.hid (show N ≤ n by omega)
 clear h6
 go_upto_region 8 with fail
 clear t5 t5b t6 t6n
 go_cut [72] (fun q wx => ∃ en : Bool, q = .bool en ∧ (en = false → s.st = false → 0 < f.vs.length ∧ (nth f.vs 0).t = c) ∧ Z = wx)
 case first =>
  cases st
  case true =>
   have hst := HST.out.symm
   have HT := Lib.hid (show s.st ≠ false by rw [hst]; decide)
   clear hst
   go_wp2_with fail
   go_meet
   case rel => exact ⟨false, rfl, fun _ h => absurd h HT.out, rfl⟩
  case false =>
   have hst := HST.out.symm
   have h0 : 0 < n := by
    have h1 := HO.out.2.1; have h2 := HO.out.1; have h3 := HL.out
    rw [hst, if_neg (by decide)] at h2; omega
   clear hst
   obtain ⟨-, -, hz⟩ := HC.out.1.2 0 h0
   obtain ⟨p0, p1⟩ := hz Z HZ.out.bel
   have j1 := HC.out.1.1 0 (by omega) (by omega)
   simp only [Int.toNat_zero, Nat.zero_mul, Nat.add_zero] at p0 p1 j1
   obtain ⟨y, hy⟩ : ∃ y, y = nth f.vs 0 := ⟨_, rfl⟩
   rw [← hy] at p0 p1
   have HY := Lib.hid (And.intro hy (show 0 < f.vs.length by rw [← HC.out.2.2.1]; exact h0))
   clear hy hz
   by_cases he : y.n = ⟨#[116, 104, 105, 115]⟩
   ·have t1 : (y.n.toList == [116, 104, 105, 115]) = true := tl_lit he
    have t2 : (y.n.toList != [116, 104, 105, 115]) = false := by rw [bne, t1]; rfl
    clear he
    by_cases hc : y.t = c
    ·have t3 := tn_eq hc
     have t3b := tl_eq hc
     have HT := Lib.hid hc
     clear hc
     go_wp2_with fail
     go_meet
     case rel => exact ⟨false, rfl, fun _ _ => ⟨HY.out.2, by rw [← HY.out.1]; exact HT.out⟩, rfl⟩
    ·have t3 := tn_ne hc
     have t3b := tl_ne hc
     clear hc
     go_wp2_with fail
     go_meet
     case rel => exact ⟨true, rfl, (fun h => by cases h), rfl⟩
   ·have t1 : (y.n.toList == [116, 104, 105, 115]) = false := tl_litn he
    have t2 : (y.n.toList != [116, 104, 105, 115]) = true := by rw [bne, t1]; rfl
    clear he
    go_wp2_with fail
    go_meet
    case rel => exact ⟨true, rfl, (fun h => by cases h), rfl⟩
 case rest =>
 obtain ⟨en, rfl, hthis, rfl⟩ := hcut
 have HTH := Lib.hid hthis
 clear hthis
 cases en
 case true =>
  go_wp2_with fail
  go_ret
  exact ⟨false, rfl, (fun h => by cases h), HZ.out.bel⟩
 clear d0 d1 d2 d3 d4 d5 s0 s1 s2 s3
 go_wp2_with fail
 go_loopw [8] (fun z wr => ∃ k : Nat, k ≤ pn ∧ z = .int .i64 (k : Int) ∧ Hid (Env W [fkC bs [.string s.n, .bool s.st, .slice pa pn pc, .string s.r], fkC bf (fuC f (.slice va n vc) (.slice ca m cc))] wr) ∧ Hid (∀ i, i < k → (nth f.vs (o + i)).t = nth s.ps i)) (fun z _ => pn - (intOf z).toNat)
 case atStart => exact ⟨0, by omega, rfl, HZ.out, fun i hi => by omega⟩
 case round =>
  obtain ⟨k, hk, rfl, hh, hF⟩ := hrel
  have s2 := hh.out.cell 0 rfl 2 rfl
  by_cases hlt : k < pn
  ·have hki : (k : Int) < (pn : Int) := by omega
   have d4 := hh.out.cell 1 rfl 4 rfl
   obtain ⟨J, hJ⟩ : ∃ J, J = o + k := ⟨_, rfl⟩
   have hJn : J < n := by have := HO.out.2.1; have := HL.out; omega
   obtain ⟨-, -, hz⟩ := HC.out.1.2 J hJn
   obtain ⟨p0, p1⟩ := hz wr hh.out.bel
   have j1 := HC.out.1.1 (J : Int) (by omega) (by omega)
   rw [Int.toNat_natCast] at j1
   obtain ⟨j2, z2⟩ := str_at HC.out.2.1 HC.out.2.2.2 hlt
   have p2 := z2 wr hh.out.bel
   have w1 : IntKind.i64.wrap ((N : Int) - (pn : Int)) = (o : Int) := by rw [IntWalk.i64_in _ (by have := HO.out.2.1; have := HO.out.2.2; omega)]; have := HO.out.2.1; omega
   have w2 : IntKind.i64.wrap ((o : Int) + (k : Int)) = (J : Int) := by rw [IntWalk.i64_in _ (by omega)]; omega
   obtain ⟨yt, hyt⟩ : ∃ y, y = (nth f.vs J).t := ⟨_, rfl⟩
   obtain ⟨us, hus⟩ : ∃ q, q = nth s.ps k := ⟨_, rfl⟩
   rw [← hyt] at p1
   rw [← hus] at p2
   have HV := Lib.hid (And.intro hyt (And.intro hus (And.intro hJ hF)))
   clear hz z2 hyt hus hJ hF p0
   by_cases he : yt = us
   ·have t1 := tn_eq he
    have t1b := tl_eq he
    have HT := Lib.hid he
    clear he
    go_wp2_with fail
    go_quiet (fail)
    go_wp2_with fail
    go_roundw
    case rel => exact ⟨k + 1, by omega, by go_num, hh.out.below (qt_below (Qt.drewN _ _)), fun i hi => by
     by_cases e : i = k
     ·rw [e, ← HV.out.2.2.1, ← HV.out.1, ← HV.out.2.1]; exact HT.out
     ·exact HV.out.2.2.2.out i (by omega)⟩
    case measure => simp [intOf]; omega
   ·have t1 := tn_ne he
    have t1b := tl_ne he
    clear he
    go_wp2_with fail
    go_quiet (fail)
    go_wp2_with fail
    go_ret
    exact ⟨false, rfl, (fun h => by cases h), (hh.out.below (qt_below (Qt.drewN _ _))).bel⟩
  ·obtain rfl : pn = k := by omega
   have HP := Lib.hid hF.out
   clear hlt hk hF
   go_wp2_with fail
   go_ret
   refine ⟨true, rfl, fun _ => ⟨HF.out.1, HF.out.2.1, HF.out.2.2.1, HF.out.2.2.2, HTH.out (by first | rfl | trivial), fun i hi => ?_⟩, hh.out.bel⟩
   have h1 := HP.out i (by rw [HC.out.2.2.2]; exact hi)
   have h2 := HO.out.1
   have h3 := HO.out.2.1
   have h4 := HL.out
   have h5 := HC.out.2.2.1
   have h6 := HC.out.2.2.2
   rcases Bool.eq_false_or_eq_true s.st with hst | hst
   ·rw [hst, if_pos rfl] at h2
    rw [hst, if_pos rfl]
    rw [h2, Nat.zero_add] at h1
    exact ⟨by omega, h1⟩
   ·rw [hst, if_neg (by decide)] at h2
    rw [hst, if_neg (by decide), Nat.add_comm i 1]
    rw [h2] at h1
    exact ⟨by omega, h1⟩
end Go.Proofs.YtnklnklkblgnfaaGreat
end
section
namespace Go.Proofs.YtnklnklkblgnfaaGreat
open Go.RowKit Go.Dfl Go.Obs Go.Hir
open Go.Gra (gen_code gen_calls)
def FuncR (cs : List Cl) (f : Fu) (c : ByteArray) (s : Sg) (W : World) (e : Ending) (W' : World) : Prop := ∃ i n : Int, e = .returned (.tuple #[.int .i64 i, .int .i64 n]) ∧ (n = 0 → FitF f c s ∧ FOk cs f) ∧ Below W.heap.size W W'
set_option maxHeartbeats 6400000 in
set_option maxRecDepth 8000 in
theorem rFunc_any (cs : List Cl) (hv : Value) (f : Fu) (vv cv : Value) (c : ByteArray) (s : Sg) (pv : Value) (W : World) (h : InS vCl W hv cs) (hl : cs.length ≤ 1000000) (hvv : InS vVd W vv f.vs) (hcv : InS vIs W cv f.cd) (hp : InS vS W pv s.ps) (hpb : s.ps.length ≤ 1048576) (hal : ∀ i, i < f.cd.length → (nth f.cd i).ar.length ≤ 1048576) :
  Calls Tryz.prog 57 #[.agg #[hv], fuV f vv cv, .string c, sgV s pv] W (FuncR cs f c s W) := by
 obtain ⟨ha, hc, rfl⟩ := h.shape
 have hcl2 := ins_len hcv
 have hvl2 := ins_len hvv
 obtain ⟨va, vc, rfl⟩ := hvv.shape
 obtain ⟨ca, cc, rfl⟩ := hcv.shape
 obtain ⟨pa, pc, rfl⟩ := hp.shape
 obtain ⟨n, hn⟩ : ∃ n, n = f.vs.length := ⟨_, rfl⟩
 obtain ⟨m, hm⟩ : ∃ n, n = f.cd.length := ⟨_, rfl⟩
 obtain ⟨pn, hpn⟩ : ∃ n, n = s.ps.length := ⟨_, rfl⟩
 rw [← hn] at hvv hvl2
 rw [← hm] at hcv hcl2
 rw [← hpn] at hp
 rw [← hn, ← hm, ← hpn]
 have HE := Lib.hid ((((Env.refl W).alloc [.slice ha cs.length hc] 24).alloc (fuC f (.slice va n vc) (.slice ca m cc)) 45).alloc [.string s.n, .bool s.st, .slice pa pn pc, .string s.r] 132)
 have HC := Lib.hid (And.intro h (And.intro (And.intro hvv hcv) (And.intro hp (And.intro hn (And.intro hm hal)))))
 clear h hvv hcv hp hn hm hpn hal
 unfold fuV sgV
 go_enter Tryz.func57, Tryz.ntmps57
 go_upto_region 1 with fail
 refine gen_code (fun Z => Env W [fkC (W.heap.size + 2) [.string s.n, .bool s.st, .slice pa pn pc, .string s.r], fkC (W.heap.size + 1) (fuC f (.slice va n vc) (.slice ca m cc)), fkC W.heap.size [.slice ha cs.length hc]] Z) (by have h := HE.out; rw [World.size_alloc, World.size_alloc] at h; exact h) ?_
 intro Z hZ
 obtain ⟨b, hb⟩ : ∃ b, b = W.heap.size := ⟨_, rfl⟩
 obtain ⟨bf, hbf⟩ : ∃ b, b = W.heap.size + 1 := ⟨_, rfl⟩
 obtain ⟨bs, hbs⟩ : ∃ b, b = W.heap.size + 2 := ⟨_, rfl⟩
 rw [← hbs, ← hbf, ← hb] at hZ ⊢
 have HZ := Lib.hid hZ
 clear hZ hb hbf hbs HE
 have c0 := HZ.out.cell 2 rfl 0 rfl
 have d0 := HZ.out.cell 1 rfl 0 rfl
 have d1 := HZ.out.cell 1 rfl 1 rfl
 have d2 := HZ.out.cell 1 rfl 2 rfl
 have d3 := HZ.out.cell 1 rfl 3 rfl
 have d4 := HZ.out.cell 1 rfl 4 rfl
 have d5 := HZ.out.cell 1 rfl 5 rfl
 have d6 := HZ.out.cell 1 rfl 6 rfl
 have s0 := HZ.out.cell 0 rfl 0 rfl
 have s1 := HZ.out.cell 0 rfl 1 rfl
 have s2 := HZ.out.cell 0 rfl 2 rfl
 have s3 := HZ.out.cell 0 rfl 3 rfl
 go_wp2_with fail
 refine (rFitF_any f _ _ c s _ _ (HC.out.2.1.1.below HZ.out.bel) (HC.out.2.1.2.below HZ.out.bel) (HC.out.2.2.1.below HZ.out.bel) hpb).mono ?_
 rintro e W1 ⟨q, rfl, hf, b1⟩
 have H1 := Lib.hid (And.intro (HZ.out.below b1) hf)
 clear b1 hf s0 s1 s2 s3
 clear c0 d0 d1 d2 d3 d4 d5 d6
 cases q
 case false =>
  go_wp2_with fail
  go_ret2
  exact ⟨-1, 20, rfl, (fun h => by cases h), H1.out.1.bel⟩
 have c0 := H1.out.1.cell 2 rfl 0 rfl
 have d0 := H1.out.1.cell 1 rfl 0 rfl
 have d1 := H1.out.1.cell 1 rfl 1 rfl
 have d2 := H1.out.1.cell 1 rfl 2 rfl
 have d3 := H1.out.1.cell 1 rfl 3 rfl
 have d4 := H1.out.1.cell 1 rfl 4 rfl
 have d5 := H1.out.1.cell 1 rfl 5 rfl
 have d6 := H1.out.1.cell 1 rfl 6 rfl
 by_cases h1 : 256 < n
 ·have t1 : decide ((256 : Int) < (n : Int)) = true := decide_eq_true (by omega)
  have t2 : decide (256 < n) = true := decide_eq_true h1
  clear h1
  go_wp2_with fail
  go_ret2
  exact ⟨-1, 3, rfl, (fun h => by cases h), H1.out.1.bel⟩
 have t1 : decide ((256 : Int) < (n : Int)) = false := decide_eq_false (by omega)
 have t2 : decide (256 < n) = false := decide_eq_false h1
 by_cases h2 : 1024 < m
 ·have t3 : decide ((1024 : Int) < (m : Int)) = true := decide_eq_true (by omega)
  have t4 : decide (1024 < m) = true := decide_eq_true h2
  clear h1 h2
  go_wp2_with fail
  go_ret2
  exact ⟨-1, 3, rfl, (fun h => by cases h), H1.out.1.bel⟩
 have t3 : decide ((1024 : Int) < (m : Int)) = false := decide_eq_false (by omega)
 have t4 : decide (1024 < m) = false := decide_eq_false h2
 have HL := Lib.hid (And.intro (show f.vs.length ≤ 256 by rw [← HC.out.2.2.2.1]; omega) (show f.cd.length ≤ 1024 by rw [← HC.out.2.2.2.2.1]; omega))
 clear h1 h2
 go_wp2_with fail
 refine (rNames_any cs _ f _ _ _ (HC.out.1.below H1.out.1.bel) (HC.out.2.1.1.below H1.out.1.bel) (HC.out.2.1.2.below H1.out.1.bel)).mono ?_
 rintro e W2 ⟨q, rfl, b2⟩
 have H2 := Lib.hid (H1.out.1.below b2)
 clear b2 t1 t2 t3 t4
 clear c0 d0 d1 d2 d3 d4 d5 d6
 by_cases hq : q = 0
 case neg =>
  have t1 : (q != 0) = true := by simpa using hq
  have t2 : (q == 0) = false := by simpa using hq
  have HQ := Lib.hid hq
  clear hq
  go_wp2_with fail
  go_ret2
  exact ⟨-1, q, rfl, fun h => absurd h HQ.out, H2.out.bel⟩
 subst hq
 have d6 := H2.out.cell 1 rfl 6 rfl
 by_cases hm0 : m = 0
 ·have t1 : ((m : Int) == 0) = true := by simp; omega
  have t2 : (m == 0) = true := by simp; omega
  clear hm0
  go_wp2_with fail
  go_ret2
  exact ⟨-1, 1, rfl, (fun h => by cases h), H2.out.bel⟩
 have t1 : ((m : Int) == 0) = false := by simp; omega
 have t2 : (m == 0) = false := by simp; omega
 have HM := Lib.hid (show 0 < f.cd.length by rw [← HC.out.2.2.2.2.1]; omega)
 clear hm0
 go_wp2_with fail
 clear d6 t1 t2
 go_loopw [10, 11] (fun y z wr => ∃ k : Nat, k ≤ m ∧ y = .int .i64 0 ∧ z = .int .i64 (k : Int) ∧ Hid (Env W [fkC bs [.string s.n, .bool s.st, .slice pa pn pc, .string s.r], fkC bf (fuC f (.slice va n vc) (.slice ca m cc)), fkC b [.slice ha cs.length hc]] wr) ∧ Hid (∀ i, i < k → IOk cs f i)) (fun _ z _ => m - (intOf z).toNat)
 case atStart => exact ⟨0, by omega, rfl, rfl, H2.out, fun i hi => by omega⟩
 case round =>
  obtain ⟨k, hk, rfl, rfl, hh, hF⟩ := hrel
  have c0 := hh.out.cell 2 rfl 0 rfl
  have d0 := hh.out.cell 1 rfl 0 rfl
  have d1 := hh.out.cell 1 rfl 1 rfl
  have d2 := hh.out.cell 1 rfl 2 rfl
  have d3 := hh.out.cell 1 rfl 3 rfl
  have d4 := hh.out.cell 1 rfl 4 rfl
  have d5 := hh.out.cell 1 rfl 5 rfl
  have d6 := hh.out.cell 1 rfl 6 rfl
  by_cases hlt : k < m
  ·have hki : (k : Int) < (m : Int) := by omega
   have HLT := Lib.hid (show k < f.cd.length by rw [← HC.out.2.2.2.2.1]; exact hlt)
   have HF := Lib.hid hF.out
   clear hF
   go_wp2_with fail
   refine (rInstr_any cs _ f _ _ k _ (HC.out.1.below hh.out.bel) hl (HC.out.2.1.1.below hh.out.bel) (HC.out.2.1.2.below hh.out.bel) HLT.out (HC.out.2.2.2.2.2 k HLT.out)).mono ?_
   rintro e W3 ⟨q, rfl, hi, b3⟩
   have H3 := Lib.hid (And.intro (hh.out.below b3) hi)
   clear b3 hi
   clear c0 d0 d1 d2 d3 d4 d5 d6
   by_cases hq : q = 0
   ·subst hq
    go_wp2_with fail
    go_roundw
    case rel => exact ⟨k + 1, by omega, rfl, by go_num, H3.out.1, fun i hi => by
     by_cases e : i = k
     ·rw [e]; exact H3.out.2 (by first | rfl | trivial)
     ·exact HF.out i (by omega)⟩
    case measure => simp [intOf]; omega
   ·have t1 : (q != 0) = true := by simpa using hq
    have t2 : (q == 0) = false := by simpa using hq
    have HQ := Lib.hid hq
    clear hq
    go_wp2_with fail
    go_ret2
    exact ⟨k, q, rfl, fun h => absurd h HQ.out, H3.out.1.bel⟩
  ·obtain rfl : m = k := by omega
   have HF := Lib.hid hF.out
   clear hlt hk hF
   go_wp2_with fail
   go_ret2
   exact ⟨0, 0, rfl, fun _ => ⟨H1.out.2 (by first | rfl | trivial), HM.out, fun i hi => HF.out i (by rw [HC.out.2.2.2.2.1]; exact hi), HL.out⟩, hh.out.bel⟩
end Go.Proofs.YtnklnklkblgnfaaGreat
end
section
namespace Go.Proofs.YtnklnklkblgnfaaGreat
open Go.RowKit Go.Dfl Go.Obs Go.Hir
open Go.Gra (gen_code gen_calls)
def NumR (cs : List Cl) (n : Nat) (W : World) (e : Ending) (W' : World) : Prop :=
 ∃ (c : ByteArray) (s : Sg) (pv : Value) (ok : Bool), e = .returned (.tuple #[.string c, sgV s pv, .bool ok]) ∧ InS vS W pv s.ps ∧ (∀ i j, i < cs.length → j < (nth cs i).ms.length → n = off cs i + j → c = (nth cs i).n ∧ s = nth (nth cs i).ms j) ∧ Below W.heap.size W W'
theorem off_uniq {cs : List Cl} {i j i' j' : Nat} (hi : i < cs.length) (hj : j < (nth cs i).ms.length) (hi' : i' < cs.length) (hj' : j' < (nth cs i').ms.length) (h : off cs i + j = off cs i' + j') : i = i' ∧ j = j' := by
 have h1 := off_succ hi
 have h2 := off_succ hi'
 rcases Nat.lt_trichotomy i i' with e | e | e
 ·have := off_mono (cs := cs) (i := i + 1) (j := i') (by omega) (by omega); omega
 ·subst e; exact ⟨rfl, by omega⟩
 ·have := off_mono (cs := cs) (i := i' + 1) (j := i) (by omega) (by omega); omega
set_option maxHeartbeats 6400000 in
set_option maxRecDepth 8000 in
theorem rNumbered_any (cs : List Cl) (hv : Value) (n0 : Nat) (W : World) (h : InS vCl W hv cs) (hn0 : n0 ≤ 1048576) :
  Calls Tryz.prog 56 #[.agg #[hv], .int .i64 (n0 : Int)] W (NumR cs n0 W) := by
 obtain ⟨ha, hc, rfl, hlen, hidx, hcell⟩ := InS.cl h
 have HE := Lib.hid (((((Env.refl W).alloc [.slice ha cs.length hc] 24).below ((Below.refl _ _).alloc (Nat.le_refl _) (.cells #[.string ⟨#[]⟩, .bool false, .slice none 0 0, .string ⟨#[]⟩] 132))).add (q := fkH (W.heap.size + 1) (.cells #[.string ⟨#[]⟩, .bool false, .slice none 0 0, .string ⟨#[]⟩] 132)) (by
  have := heap_alloc_new (W.alloc (.cells #[.slice ha cs.length hc] 24)) (.cells #[.string ⟨#[]⟩, .bool false, .slice none 0 0, .string ⟨#[]⟩] 132)
  rw [World.size_alloc] at this
  exact this)))
 obtain ⟨N, hN⟩ : ∃ N, N = cs.length := ⟨_, rfl⟩
 rw [← hN] at HE hidx hcell hlen ⊢
 have HC := Lib.hid (And.intro hidx (And.intro hcell hN))
 clear h hidx hcell hN
 go_enter Tryz.func56, Tryz.ntmps56
 go_wp2_with fail
 refine gen_code (fun Z => Env W [fkH (W.heap.size + 1) (.cells #[.string ⟨#[]⟩, .bool false, .slice none 0 0, .string ⟨#[]⟩] 132), fkC W.heap.size [.slice ha N hc]] Z) HE.out ?_
 intro Z hZ
 obtain ⟨b, hb⟩ : ∃ b, b = W.heap.size := ⟨_, rfl⟩
 obtain ⟨br, hbr⟩ : ∃ br, br = W.heap.size + 1 := ⟨_, rfl⟩
 have HB := Lib.hid (And.intro hb hbr)
 rw [← hbr, ← hb] at hZ ⊢
 have HZ := Lib.hid hZ
 clear hZ hb hbr HE
 go_loopw [1, 7] (fun x z wr => ∃ k r : Nat, k ≤ N ∧ z = .int .i64 (k : Int) ∧ x = .int .i64 (r : Int) ∧ Hid (n0 = off cs k + r) ∧ Hid (Env W [fkH br (.cells #[.string ⟨#[]⟩, .bool false, .slice none 0 0, .string ⟨#[]⟩] 132), fkC b [.slice ha N hc]] wr)) (fun _ z _ => N - (intOf z).toNat)
 case atStart => exact ⟨0, n0, by omega, rfl, rfl, by unfold Hid off; simp, HZ.out⟩
 case round =>
  clear HZ
  obtain ⟨k, r, hk, rfl, rfl, hr, hh⟩ := hrel
  have c0 := hh.out.cell 1 rfl 0 rfl
  have hrb : r ≤ 1048576 := by have := hr.out; omega
  by_cases hlt : k < N
  ·have hki : (k : Int) < (N : Int) := by omega
   obtain ⟨hab, v2, v3, ⟨-, -, -, hms⟩, hz⟩ := HC.out.2.1 k hlt
   obtain ⟨p0, -, -, p3⟩ := hz wr hh.out.bel
   have j1 := HC.out.1 (k : Int) (by omega) (by omega)
   rw [Int.toNat_natCast] at j1
   obtain ⟨za, zc, rfl, hzl, sidx, scell⟩ := InS.sg hms
   obtain ⟨cl, hcl⟩ : ∃ cl, cl = nth cs k := ⟨_, rfl⟩
   rw [← hcl] at p0 p3 hzl sidx scell hms
   obtain ⟨zn, hzn⟩ : ∃ zn, zn = cl.ms.length := ⟨_, rfl⟩
   rw [← hzn] at p3 hzl sidx scell
   have HK := Lib.hid (And.intro hcl (And.intro hzn (And.intro hab (show k < cs.length by rw [← HC.out.2.2]; exact hlt))))
   clear hz hcl hzn hms hab
   by_cases hrz : r < zn
   ·have t1 : decide ((r : Int) < (zn : Int)) = true := decide_eq_true (by omega)
    have t2 : decide (r < zn) = true := decide_eq_true hrz
    have hri : (r : Int) < (zn : Int) := by omega
    obtain ⟨hzb, pv, ⟨-, -, hps⟩, hsc⟩ := scell r hrz
    obtain ⟨s0, s1, s2, s3⟩ := hsc wr hh.out.bel
    have j2 := sidx (r : Int) (by omega) (by omega)
    rw [Int.toNat_natCast] at j2
    obtain ⟨sg, hsg⟩ : ∃ sg, sg = nth cl.ms r := ⟨_, rfl⟩
    rw [← hsg] at s0 s1 s3 hps
    obtain ⟨pa, pn, pc, rfl⟩ : ∃ pa pn pc, pv = .slice pa pn pc := by obtain ⟨a, c, e⟩ := hps.shape; exact ⟨a, _, c, e⟩
    have HR := Lib.hid (And.intro hsg (And.intro hps (show ∀ i j, i < cs.length → j < (nth cs i).ms.length → n0 = off cs i + j → cl.n = (nth cs i).n ∧ sg = nth (nth cs i).ms j from fun i j hi hj e => by
     have h1 := hr.out
     rw [h1] at e
     obtain ⟨rfl, rfl⟩ := off_uniq HK.out.2.2.2 (by rw [← HK.out.1, ← HK.out.2.1]; exact hrz) hi hj e
     exact ⟨by rw [HK.out.1], by rw [hsg, HK.out.1]⟩)))
    have HN := Lib.hid (show b ≠ br ∧ blk ha ≠ br ∧ blk za ≠ br from ⟨by have := HB.out; omega, by have := HB.out; have := HK.out.2.2.1; omega, by have := HB.out; omega⟩)
    have HED := Lib.hid hh.out.drew
    have HS := Lib.hid (show wr.drew.cell? ⟨b, 0, none⟩ = some (.slice ha N hc) ∧ wr.drew.cell? ⟨blk ha, ofs ha + k * 4, none⟩ = some (.string cl.n) ∧ wr.drew.cell? ⟨blk za, ofs za + r * 4, none⟩ = some (.string sg.n) ∧ wr.drew.cell? ⟨blk za, ofs za + r * 4 + 1, none⟩ = some (.bool sg.st) ∧ wr.drew.cell? ⟨blk za, ofs za + r * 4 + 2, none⟩ = some (.slice pa pn pc) ∧ wr.drew.cell? ⟨blk za, ofs za + r * 4 + 3, none⟩ = some (.string sg.r) from ⟨c0, p0, s0, s1, s2, s3⟩)
    clear hsg hps hsc hzb sidx scell
    go_wp2_with fail
    clear c0 p0 p3 s0 s1 s2 s3
    refine wp_region_mix [0, 1, 2, 3, 4, 5, 6, 7, 8, 9] [10, 11, 12] (fun w' => w'.cell? ⟨b, 0, none⟩ = some (.slice ha N hc) ∧ w'.cell? ⟨blk ha, ofs ha + k * 4, none⟩ = some (.string cl.n) ∧ w'.cell? ⟨blk za, ofs za + r * 4, none⟩ = some (.string sg.n) ∧ w'.cell? ⟨blk za, ofs za + r * 4 + 1, none⟩ = some (.bool sg.st) ∧ w'.cell? ⟨blk za, ofs za + r * 4 + 2, none⟩ = some (.slice pa pn pc) ∧ w'.cell? ⟨blk za, ofs za + r * 4 + 3, none⟩ = some (.string sg.r)) (by kernel_rfl) (by kernel_rfl) (by kernel_rfl) HS.out ?_
    repeat (
     refine wpHeads_cons (v := ?_) rfl (Or.inl ⟨by rfl, ?_⟩) ?_
     rotate_left
     ·(intro W hW; obtain ⟨x1, x2, x3, x4, x5, x6⟩ := hW; (try go_simp); try with_reducible rfl)
     simp only [Act.put, List.setIfInBounds_toArray, List.getElem_toArray, List.getElem_cons_zero, List.getElem_cons_succ, List.set_cons_succ, List.set_cons_zero])
    refine wpHeads_nil ?_
    generalize wr.drew = V at *
    have hNB : V.heap[br]? = some (.cells #[.string ⟨#[]⟩, .bool false, .slice none 0 0, .string ⟨#[]⟩] 132) := HED.out.fact 0 rfl
    obtain ⟨⟨z0, z1, z2, z3, zf⟩, hC, hG⟩ := store4 (y0 := .string sg.n) (y1 := .bool sg.st) (y2 := .slice pa pn pc) (y3 := .string sg.r) hNB
    have f0 := zf 0
    have f1 := zf 1
    have f2 := zf 2
    have f3 := zf 3
    have hS2 := And.intro (hG.cell HS.out.1 (fun e => HN.out.1 (Option.some.inj e))) (And.intro (hG.cell HS.out.2.1 (fun e => HN.out.2.1 (Option.some.inj e))) (And.intro (hG.cell HS.out.2.2.1 (fun e => HN.out.2.2 (Option.some.inj e))) (And.intro (hG.cell HS.out.2.2.2.1 (fun e => HN.out.2.2 (Option.some.inj e))) (And.intro (hG.cell HS.out.2.2.2.2.1 (fun e => HN.out.2.2 (Option.some.inj e))) (hG.cell HS.out.2.2.2.2.2 (fun e => HN.out.2.2 (Option.some.inj e)))))))
    have hb4 : Below W.heap.size W _ := HED.out.bel.grown hG HED.out.bel.size (fun q e => by injection e with e; have := HB.out.2; omega)
    have H4 := Lib.hid (And.intro hS2 hb4)
    clear hS2 hb4 hG hC hNB zf
    refine wpTails_cons rfl ?_
    go_wp2_with fail
    refine tail_mk HS.out ?_
    refine wpTails_cons rfl ?_
    go_wp2_with fail
    refine tail_mk H4.out.1 ?_
    refine wpTails_one rfl ?_
    go_wp2_with fail
    refine thenQ_mk ?_
    go_wp2_with fail
    (try simp only [Exit.inBlock, Exit.then])
    refine bodyPost_ret (v := .tuple #[.string cl.n, sgV sg (.slice pa pn pc), .bool true]) (by rw [results_mid rfl]; go_simp; try rfl) rfl ?_
    exact ⟨cl.n, sg, _, true, rfl, HR.out.2.1, HR.out.2.2, H4.out.2⟩
   ·have t1 : decide ((r : Int) < (zn : Int)) = false := decide_eq_false (by omega)
    have t2 : decide (r < zn) = false := decide_eq_false hrz
    have HR := Lib.hid (show n0 = off cs (k + 1) + (r - zn) by
     have h1 := hr.out
     have h2 := off_succ HK.out.2.2.2
     rw [← HK.out.1, ← HK.out.2.1] at h2
     omega)
    have hsub : (r : Int) - (zn : Int) = ((r - zn : Nat) : Int) := by omega
    obtain ⟨r2, hr2⟩ : ∃ r2, r2 = r - zn := ⟨_, rfl⟩
    rw [← hr2] at HR hsub
    have hr2b : r2 ≤ 1048576 := by omega
    have HS2 := Lib.hid hsub
    clear hrz hr2 sidx scell hsub
    go_wp2_with fail
    go_roundw
    case rel => exact ⟨k + 1, r2, by omega, by go_num, by rw [← HS2.out], HR.out, hh.out⟩
    case measure => simp [intOf]; omega
  ·obtain rfl : N = k := by omega
   have hNB : wr.heap[br]? = some (.cells #[.string ⟨#[]⟩, .bool false, .slice none 0 0, .string ⟨#[]⟩] 132) := hh.out.fact 0 rfl
   obtain ⟨⟨z0, z1, z2, z3, zf⟩, hC, hG⟩ := store4 (y0 := .string ⟨#[]⟩) (y1 := .bool false) (y2 := .slice none 0 0) (y3 := .string ⟨#[]⟩) hNB
   have f0 := zf 0
   have f1 := zf 1
   have f2 := zf 2
   have f3 := zf 3
   have HG := Lib.hid hG
   clear hlt hk hNB hC hG zf
   go_wp2_with fail
   (try simp only [Exit.inBlock, Exit.then])
   refine bodyPost_ret (v := .tuple #[.string ⟨#[]⟩, .agg #[.string ⟨#[]⟩, .bool false, .slice none 0 0, .string ⟨#[]⟩], .bool false]) (by rw [results_mid rfl]; go_simp; try rfl) rfl ?_
   refine ⟨_, sg0, _, false, rfl, InS.nil _ _, fun i j hi hj e => ?_, hh.out.bel.grown HG.out hh.out.bel.size (fun q e => by injection e with e; have := HB.out.2; omega)⟩
   exfalso
   have h1 := off_mono (cs := cs) (i := i + 1) (j := cs.length) (by omega) (Nat.le_refl _)
   have h2 := off_succ hi
   have h3 := hr.out
   rw [HC.out.2.2] at h3
   omega
end Go.Proofs.YtnklnklkblgnfaaGreat
end
section
namespace Go.Hir
open Go.Dfl (nth)
open Go.Obs
structure UnW (u : Un) : Prop where
 off : off u.cs u.cs.length ≤ 1048576
 ps : ∀ c ∈ u.cs, ∀ s ∈ c.ms, s.ps.length ≤ 1048576
 ar : ∀ f ∈ u.fs, ∀ x ∈ f.cd, x.ar.length ≤ 1048576
structure WhOk (u : Un) : Prop where
 h : HOk u.cs
 cl : u.cs.length ≤ 64
 fl : u.fs.length ≤ 256
 len : u.fs.length = Go.Hir.off u.cs u.cs.length
 mn : 0 ≤ u.mn ∧ u.mn < u.fs.length
 main : (nth u.fs u.mn.toNat).st = true ∧ (nth u.fs u.mn.toNat).r = ⟨#[]⟩
end Go.Hir
namespace Go.Proofs.YtnklnklkblgnfaaGreat
open Go.RowKit Go.Dfl Go.Obs Go.Hir
open Go.Gra (gen_code gen_calls)
def WholeR (u : Un) (W : World) (e : Ending) (W' : World) : Prop := ∃ n : Int, e = .returned (.int .i64 n) ∧ (n = 0 → WhOk u) ∧ Below W.heap.size W W'
set_option maxHeartbeats 6400000 in
set_option maxRecDepth 8000 in
theorem rWhole_any (u : Un) (v0 v1 : Value) (W : World) (h : UnIn W v0 v1 u) (hw : UnW u) :
  Calls Tryz.prog 55 #[unV u v0 v1] W (WholeR u W) := by
 have hcs := h.1
 have hfs := h.2
 have hfl2 := ins_len hfs
 have hcl2 := ins_len hcs
 obtain ⟨ha, hc, rfl, -, hidx, hcell⟩ := InS.cl hcs
 obtain ⟨fa, fc, rfl, -, fidx, fcell⟩ := InS.fu hfs
 obtain ⟨N, hN⟩ : ∃ N, N = u.cs.length := ⟨_, rfl⟩
 obtain ⟨F, hF⟩ : ∃ F, F = u.fs.length := ⟨_, rfl⟩
 rw [← hN] at hidx hcell hcs hcl2
 rw [← hF] at fidx fcell hfs hfl2
 rw [← hN, ← hF]
 have HE := Lib.hid ((Env.refl W).alloc [.slice ha N hc, .slice fa F fc, .int .i64 u.mn] 27)
 have HC := Lib.hid (And.intro hcs (And.intro (And.intro hidx hcell) (And.intro (And.intro fidx fcell) (And.intro hN (And.intro hF hw)))))
 clear h hcs hfs hidx hcell fidx fcell hN hF hw
 unfold unV
 go_enter Tryz.func55, Tryz.ntmps55
 go_upto_region 1 with fail
 refine gen_code (fun Z => Env W [fkC W.heap.size [.slice ha N hc, .slice fa F fc, .int .i64 u.mn]] Z) HE.out ?_
 intro Z hZ
 obtain ⟨b, hb⟩ : ∃ b, b = W.heap.size := ⟨_, rfl⟩
 rw [← hb] at hZ ⊢
 have HZ := Lib.hid hZ
 have c0 := hZ.cell 0 rfl 0 rfl
 clear hZ hb HE
 go_wp2_with fail
 refine (rHier_any u.cs _ _ (HC.out.1.below HZ.out.bel)).mono ?_
 rintro e W1 ⟨i1, n1, rfl, hh, b1⟩
 have H1 := Lib.hid (And.intro (HZ.out.below b1) hh)
 clear b1 hh c0 HZ
 by_cases hn1 : n1 = 0
 case neg =>
  have t1 : (n1 != 0) = true := by simpa using hn1
  have t2 : (n1 == 0) = false := by simpa using hn1
  have HQ := Lib.hid hn1
  clear hn1
  go_wp2_with fail
  go_ret
  exact ⟨n1, rfl, fun h => absurd h HQ.out, H1.out.1.bel⟩
 subst hn1
 have HH := Lib.hid (H1.out.2 (by first | rfl | trivial))
 have c1 := H1.out.1.cell 0 rfl 1 rfl
 by_cases h2 : 256 < F
 ·have t1 : decide ((256 : Int) < (F : Int)) = true := decide_eq_true (by omega)
  have t2 : decide (256 < F) = true := decide_eq_true h2
  clear h2
  go_wp2_with fail
  go_ret
  exact ⟨3, rfl, (fun h => by cases h), H1.out.1.bel⟩
 have t1 : decide ((256 : Int) < (F : Int)) = false := decide_eq_false (by omega)
 have t2 : decide (256 < F) = false := decide_eq_false h2
 have HL := Lib.hid (show u.fs.length ≤ 256 by rw [← HC.out.2.2.2.2.1]; omega)
 clear h2
 go_wp2_with fail
 clear c1 t1 t2
 go_loopw [5, 6] (fun x z wr => ∃ k q : Nat, k ≤ N ∧ z = .int .i64 (k : Int) ∧ x = .int .i64 (q : Int) ∧ Hid (q = off u.cs k) ∧ Hid (Env W [fkC b [.slice ha N hc, .slice fa F fc, .int .i64 u.mn]] wr)) (fun _ z _ => N - (intOf z).toNat)
 case atStart => exact ⟨0, 0, by omega, rfl, rfl, by unfold Hid off; simp, H1.out.1⟩
 case round =>
  obtain ⟨k, q, hk, rfl, rfl, hq, hh⟩ := hrel
  have c0 := hh.out.cell 0 rfl 0 rfl
  by_cases hlt : k < N
  ·have hki : (k : Int) < (N : Int) := by omega
   obtain ⟨-, v2, v3, ⟨-, -, -, hms⟩, hz⟩ := HC.out.2.1.2 k hlt
   obtain ⟨-, -, -, p3⟩ := hz wr hh.out.bel
   have j1 := HC.out.2.1.1 (k : Int) (by omega) (by omega)
   rw [Int.toNat_natCast] at j1
   obtain ⟨za, zc, rfl⟩ := hms.shape
   obtain ⟨zn, hzn⟩ : ∃ zn, zn = (nth u.cs k).ms.length := ⟨_, rfl⟩
   rw [← hzn] at p3
   have hkc : k < u.cs.length := by rw [← HC.out.2.2.2.1]; exact hlt
   have hs : q + zn = off u.cs (k + 1) := by rw [off_succ hkc, ← hzn, hq.out]
   have hsb : q + zn ≤ 1048576 := by rw [hs]; exact Nat.le_trans (off_mono (by omega) (Nat.le_refl _)) HC.out.2.2.2.2.2.off
   have HS := Lib.hid hs
   obtain ⟨q2, hq2⟩ : ∃ q2, q2 = q + zn := ⟨_, rfl⟩
   have HQ2 := Lib.hid hq2
   clear hz hzn hms hs hkc hq hq2
   go_wp2_with fail
   go_roundw
   case rel => exact ⟨k + 1, q2, by omega, by go_num, by rw [HQ2.out]; go_num, by rw [HQ2.out]; exact HS.out, hh.out⟩
   case measure => simp [intOf]; omega
  ·obtain rfl : N = k := by omega
   have HQ := Lib.hid (show q = off u.cs u.cs.length by rw [← HC.out.2.2.2.1]; exact hq.out)
   have c1 := hh.out.cell 0 rfl 1 rfl
   have c2 := hh.out.cell 0 rfl 2 rfl
   clear hlt hk hq H1
   by_cases h3 : q = F
   case neg =>
    have t1 : ((q : Int) != (F : Int)) = true := by simp; omega
    have t2 : ((q : Int) == (F : Int)) = false := by simp; omega
    clear h3
    go_wp2_with fail
    go_ret
    exact ⟨20, rfl, (fun h => by cases h), hh.out.bel⟩
   have t1 : ((q : Int) != (F : Int)) = false := by simp; omega
   have t2 : ((q : Int) == (F : Int)) = true := by simp; omega
   have HQF := Lib.hid h3
   clear h3
   by_cases h4 : u.mn < 0
   ·have t3 : decide (u.mn < 0) = true := decide_eq_true h4
    clear h4
    go_wp2_with fail
    go_ret
    exact ⟨14, rfl, (fun h => by cases h), hh.out.bel⟩
   have t3 : decide (u.mn < 0) = false := decide_eq_false h4
   by_cases h5 : (q : Int) ≤ u.mn
   ·have t4 : decide ((q : Int) ≤ u.mn) = true := decide_eq_true h5
    clear h4 h5
    go_wp2_with fail
    go_ret
    exact ⟨14, rfl, (fun h => by cases h), hh.out.bel⟩
   have t4 : decide ((q : Int) ≤ u.mn) = false := decide_eq_false h5
   have hmF : u.mn.toNat < F := by have := HQF.out; omega
   have HM := Lib.hid (show 0 ≤ u.mn ∧ u.mn < u.fs.length by rw [← HC.out.2.2.2.2.1]; have := HQF.out; omega)
   obtain ⟨-, v4, v6, ⟨-, -, -, -, hv4, hv6⟩, hz⟩ := HC.out.2.2.1.2 u.mn.toNat hmF
   obtain ⟨p0, p1, p2, p3, p4, p5, p6⟩ := hz wr hh.out.bel
   have j1 := HC.out.2.2.1.1 u.mn (by omega) (by omega)
   obtain ⟨wa, wc, rfl⟩ := hv4.shape
   obtain ⟨xa, xc, rfl⟩ := hv6.shape
   obtain ⟨f, hf⟩ : ∃ f, f = nth u.fs u.mn.toNat := ⟨_, rfl⟩
   rw [← hf] at p0 p1 p2 p3 p4 p5 p6
   obtain ⟨st, hst⟩ : ∃ q, q = f.st := ⟨_, rfl⟩
   rw [← hst] at p2
   have HF := Lib.hid (And.intro hf hst)
   clear hz hv4 hv6 hf hst h4 h5
   go_upto_region 15 with fail
   clear t1 t2 t3 t4
   go_upto_region 16 with fail
   clear p0 p1 p2 p3 p4 p5 p6 c0 c1 c2
   have HA := Lib.hid (hh.out.alloc [.string f.c, .string f.m, .bool st, .int .i64 f.ps, .slice wa f.vs.length wc, .string f.r, .slice xa f.cd.length xc] 45)
   refine gen_code (fun Z' => Env W [fkC wr.heap.size [.string f.c, .string f.m, .bool st, .int .i64 f.ps, .slice wa f.vs.length wc, .string f.r, .slice xa f.cd.length xc], fkC b [.slice ha N hc, .slice fa F fc, .int .i64 u.mn]] Z') HA.out ?_
   intro Z2 hZ2
   obtain ⟨bx, hbx⟩ : ∃ b, b = wr.heap.size := ⟨_, rfl⟩
   rw [← hbx] at hZ2 ⊢
   have H2 := Lib.hid hZ2
   have d0 := hZ2.cell 0 rfl 0 rfl
   have d1 := hZ2.cell 0 rfl 1 rfl
   have d2 := hZ2.cell 0 rfl 2 rfl
   have d3 := hZ2.cell 0 rfl 3 rfl
   have d5 := hZ2.cell 0 rfl 5 rfl
   clear hZ2 hbx HA
   go_cut [81] (fun q wx => ∃ en : Bool, q = .bool en ∧ (en = false → st = true ∧ f.r = ⟨#[]⟩) ∧ Z2 = wx)
   case first =>
    obtain ⟨q1, h1⟩ : ∃ q, (f.c.toList == [77, 97, 105, 110]) = q := ⟨_, rfl⟩
    obtain ⟨q2, h2⟩ : ∃ q, (f.m.toList == [109, 97, 105, 110]) = q := ⟨_, rfl⟩
    cases q1
    case false =>
     go_wp2_with fail
     go_meet
     case rel => exact ⟨true, rfl, (fun h => by cases h), rfl⟩
    cases q2
    case false =>
     go_wp2_with fail
     go_meet
     case rel => exact ⟨true, rfl, (fun h => by cases h), rfl⟩
    cases st
    case false =>
     go_wp2_with fail
     go_meet
     case rel => exact ⟨true, rfl, (fun h => by cases h), rfl⟩
    by_cases h3 : f.ps = 0
    case neg =>
     have t3 : (f.ps != 0) = true := by simpa using h3
     have t4 : (f.ps == 0) = false := by simpa using h3
     clear h3
     go_wp2_with fail
     go_meet
     case rel => exact ⟨true, rfl, (fun h => by cases h), rfl⟩
    have t3 : (f.ps != 0) = false := by simpa using h3
    have t4 : (f.ps == 0) = true := by simpa using h3
    clear h3
    by_cases hr : f.r = ⟨#[]⟩
    ·have t1 := tl_eq hr
     have t2 := te_eq hr
     have HR := Lib.hid hr
     clear hr
     go_wp2_with fail
     go_meet
     case rel => exact ⟨false, rfl, fun _ => ⟨by first | rfl | trivial, HR.out⟩, rfl⟩
    ·have t1 := tl_ne hr
     have t2 := te_ne hr
     clear hr
     go_wp2_with fail
     go_meet
     case rel => exact ⟨true, rfl, (fun h => by cases h), rfl⟩
   case rest =>
   obtain ⟨en, rfl, hen, rfl⟩ := hcut
   cases en
   case true =>
    clear hen
    go_wp2_with fail
    go_ret
    exact ⟨14, rfl, (fun h => by cases h), H2.out.bel⟩
   obtain ⟨hst, hr⟩ := hen rfl
   have HX := Lib.hid (And.intro hst hr)
   clear hen hst hr
   go_wp2_with fail
   go_ret
   exact ⟨0, rfl, fun _ => ⟨hier_ok HH.out.2, HH.out.1, HL.out, by rw [← HQ.out, ← HC.out.2.2.2.2.1]; exact HQF.out.symm, HM.out, by rw [← HF.out.1, ← HF.out.2]; exact HX.out⟩, H2.out.bel⟩
end Go.Proofs.YtnklnklkblgnfaaGreat
end
section
namespace Go.Proofs.YtnklnklkblgnfaaGreat
open Go.RowKit Go.Dfl Go.Obs Go.Hir
open Go.Gra (gen_code gen_calls)
def CheckR (u : Un) (W : World) (e : Ending) (W' : World) : Prop := ∃ i j n : Int, e = .returned (.tuple #[.int .i64 i, .int .i64 j, .int .i64 n]) ∧ (n = 0 → UOk u ∧ u.cs.length ≤ 64 ∧ u.fs.length ≤ 256) ∧ Below W.heap.size W W'
def FsOk (u : Un) (k : Nat) : Prop := ∀ p, p < k → FOk u.cs (nth u.fs p) ∧ ∀ i j, i < u.cs.length → j < (nth u.cs i).ms.length → p = off u.cs i + j → FitF (nth u.fs p) (nth u.cs i).n (nth (nth u.cs i).ms j)
theorem uok_of {u : Un} (h : WhOk u) (hf : FsOk u u.fs.length) : UOk u := by
 refine ⟨h.h, h.len, fun i j hi hj => ?_, fun i hi => (hf i hi).1, h.mn, h.main⟩
 have hk : off u.cs i + j < u.fs.length := by
  have h1 := off_succ hi
  have h2 := off_mono (cs := u.cs) (i := i + 1) (j := u.cs.length) (by omega) (Nat.le_refl _)
  rw [h.len]; omega
 exact (hf _ hk).2 i j hi hj rfl
set_option maxHeartbeats 6400000 in
set_option maxRecDepth 8000 in
theorem rCheck12_any (u : Un) (v0 v1 : Value) (W : World) (h : UnIn W v0 v1 u) (hw : UnW u) :
  Calls Tryz.prog 35 #[unV u v0 v1] W (CheckR u W) := by
 have hu := h
 have hcs := h.1
 have hfs := h.2
 have hfl2 := ins_len hfs
 obtain ⟨ha, hc, rfl⟩ := hcs.shape
 obtain ⟨fa, fc, rfl, -, fidx, fcell⟩ := InS.fu hfs
 obtain ⟨N, hN⟩ : ∃ N, N = u.cs.length := ⟨_, rfl⟩
 obtain ⟨F, hF⟩ : ∃ F, F = u.fs.length := ⟨_, rfl⟩
 rw [← hN] at hcs hu
 rw [← hF] at fidx fcell hfs hfl2 hu
 rw [← hN, ← hF]
 have HE := Lib.hid ((Env.refl W).alloc [.slice ha N hc, .slice fa F fc, .int .i64 u.mn] 27)
 have HC := Lib.hid (And.intro hcs (And.intro hu (And.intro (And.intro fidx fcell) (And.intro hN (And.intro hF hw)))))
 clear h hcs hfs fidx fcell hN hF hw hu
 unfold unV
 go_enter Tryz.func35, Tryz.ntmps35
 go_upto_region 1 with fail
 refine gen_code (fun Z => Env W [fkC W.heap.size [.slice ha N hc, .slice fa F fc, .int .i64 u.mn]] Z) HE.out ?_
 intro Z hZ
 obtain ⟨b, hb⟩ : ∃ b, b = W.heap.size := ⟨_, rfl⟩
 rw [← hb] at hZ ⊢
 have HZ := Lib.hid hZ
 have c0 := hZ.cell 0 rfl 0 rfl
 have c1 := hZ.cell 0 rfl 1 rfl
 have c2 := hZ.cell 0 rfl 2 rfl
 clear hZ hb HE
 go_wp2_with fail
 refine (rWhole_any u _ _ _ (HC.out.2.1.below HZ.out.bel) HC.out.2.2.2.2.2).mono ?_
 rintro e W1 ⟨n1, rfl, hh, b1⟩
 have H1 := Lib.hid (And.intro (HZ.out.below b1) hh)
 clear b1 hh c0 c1 c2 HZ
 by_cases hn1 : n1 = 0
 case neg =>
  have t1 : (n1 != 0) = true := by simpa using hn1
  have t2 : (n1 == 0) = false := by simpa using hn1
  have HQ := Lib.hid hn1
  clear hn1
  go_wp2_with fail
  go_ret3
  exact ⟨-1, -1, n1, rfl, fun h => absurd h HQ.out, H1.out.1.bel⟩
 subst hn1
 have HH := Lib.hid (H1.out.2 (by first | rfl | trivial))
 have hF256 : F ≤ 256 := by rw [HC.out.2.2.2.2.1]; exact HH.out.fl
 go_wp2_with fail
 go_loopw [6, 7] (fun x z wr => ∃ k q : Nat, k ≤ F ∧ z = .int .i64 (k : Int) ∧ x = .int .i64 (q : Int) ∧ q ≤ 1024 * k ∧ Hid (FsOk u k) ∧ Hid (Env W [fkC b [.slice ha N hc, .slice fa F fc, .int .i64 u.mn]] wr)) (fun _ z _ => F - (intOf z).toNat)
 case atStart => exact ⟨0, 0, by omega, rfl, rfl, by omega, (fun p hp => by omega), H1.out.1⟩
 case round =>
  obtain ⟨k, q, hk, rfl, rfl, hq, hf, hh⟩ := hrel
  have HF := Lib.hid hf.out
  clear hf
  have c0 := hh.out.cell 0 rfl 0 rfl
  have c1 := hh.out.cell 0 rfl 1 rfl
  by_cases hlt : k < F
  ·have hki : (k : Int) < (F : Int) := by omega
   go_wp2_with fail
   refine (rNumbered_any u.cs _ k _ (HC.out.1.below hh.out.bel) (by omega)).mono ?_
   rintro e W2 ⟨c, s, pv, ok, rfl, hps, hcs, b2⟩
   obtain ⟨pa, pn, pc, rfl⟩ : ∃ pa pn pc, pv = .slice pa pn pc := by obtain ⟨a, c, e⟩ := hps.shape; exact ⟨a, _, c, e⟩
   have hkl : k < u.fs.length := by rw [← HC.out.2.2.2.2.1]; exact hlt
   obtain ⟨i0, j0, hi0, hj0, hk0⟩ := off_find (cs := u.cs) (k := k) (n := u.cs.length) (Nat.le_refl _) (by rw [← HH.out.len]; exact hkl)
   have hcs0 := hcs i0 j0 hi0 hj0 hk0
   have hpb : s.ps.length ≤ 1048576 := by rw [hcs0.2]; exact HC.out.2.2.2.2.2.ps _ (nth_mem _ _ hi0) _ (nth_mem _ _ hj0)
   have HR := Lib.hid (And.intro hcs (And.intro (hps.below (b2.alloc b2.size (.cells #[.string s.n, .bool s.st, .slice pa pn pc, .string s.r] 132))) (And.intro hpb hkl)))
   have H2 := Lib.hid (hh.out.below b2)
   obtain ⟨-, v4, v6, ⟨-, -, -, -, hv4, hv6⟩, hz⟩ := HC.out.2.2.1.2 k hlt
   obtain ⟨wa, wc, rfl⟩ := hv4.shape
   obtain ⟨xa, xc, rfl, hml, xidx, xcell⟩ := InS.is hv6
   have j1 := HC.out.2.2.1.1 (k : Int) (by omega) (by omega)
   rw [Int.toNat_natCast] at j1
   obtain ⟨f, hf⟩ : ∃ f, f = nth u.fs k := ⟨_, rfl⟩
   obtain ⟨m, hm⟩ : ∃ m, m = f.cd.length := ⟨_, rfl⟩
   rw [← hf] at hz hv4 hv6 hml xidx xcell
   rw [← hm] at hz hv6 hml xidx xcell
   have HFF := Lib.hid (And.intro hf (And.intro hm (And.intro (And.intro hv4 hv6) (And.intro (And.intro xidx xcell) hz))))
   clear b2 c0 c1 hcs hps hcs0 hpb hkl hi0 hj0 hk0 hf hm hv4 hv6 xidx xcell hz
   go_upto_region 9 with fail
   have HA := Lib.hid (H2.out.alloc [.string s.n, .bool s.st, .slice pa pn pc, .string s.r] 132)
   refine gen_code (fun Z' => Env W [fkC W2.heap.size [.string s.n, .bool s.st, .slice pa pn pc, .string s.r], fkC b [.slice ha N hc, .slice fa F fc, .int .i64 u.mn]] Z' ∧ InS vS Z' (.slice pa pn pc) s.ps) ⟨HA.out, HR.out.2.1⟩ ?_
   rintro Z2 ⟨hZ2, hps2⟩
   obtain ⟨bs, hbs⟩ : ∃ b, b = W2.heap.size := ⟨_, rfl⟩
   rw [← hbs] at hZ2 ⊢
   have HZ2 := Lib.hid (And.intro hZ2 hps2)
   have c0 := hZ2.cell 1 rfl 0 rfl
   have c1 := hZ2.cell 1 rfl 1 rfl
   have s0 := hZ2.cell 0 rfl 0 rfl
   have s1 := hZ2.cell 0 rfl 1 rfl
   have s2 := hZ2.cell 0 rfl 2 rfl
   have s3 := hZ2.cell 0 rfl 3 rfl
   obtain ⟨p0, p1, p2, p3, p4, p5, p6⟩ := HFF.out.2.2.2.2 Z2 hZ2.bel
   have HE2 := Lib.hid HZ2.out.1.drew
   have HPD := Lib.hid (HZ2.out.2.below ((Below.refl _ _).drew))
   clear hZ2 hps2 hbs HA c0 c1 s0 s1 s2 s3 p0 p1 p2 p3 p4 p5 p6
   refine wp_region_plan (.take 0 (.take 1 (.take 2 (.take 3 (.take 4 (.take 5 (.take 6 (.take 7 (.take 8 (.alt 9 (.take 10 (.take 11 (.take 12 (.take 13 (.take 14 .done))))) .stop)))))))))) (fun w' => Env W [fkC bs [.string s.n, .bool s.st, .slice pa pn pc, .string s.r], fkC b [.slice ha N hc, .slice fa F fc, .int .i64 u.mn]] w') (by kernel_rfl) (by kernel_rfl) (by kernel_rfl) (by kernel_rfl) HE2.out ?_
   generalize Z2.drew = V at *
   repeat (
    refine plan_take (v := ?_) rfl (Or.inl ⟨by rfl, ?_⟩) ?_
    rotate_left
    ·(intro W hW; have c0 := hW.cell 1 rfl 0 rfl; have c1 := hW.cell 1 rfl 1 rfl; have s0 := hW.cell 0 rfl 0 rfl; have s1 := hW.cell 0 rfl 1 rfl; have s2 := hW.cell 0 rfl 2 rfl; have s3 := hW.cell 0 rfl 3 rfl; obtain ⟨p0, p1, p2, p3, p4, p5, p6⟩ := HFF.out.2.2.2.2 W hW.bel; (try go_simp); try with_reducible rfl)
    simp only [Act.put, List.setIfInBounds_toArray, List.getElem_toArray, List.getElem_cons_zero, List.getElem_cons_succ, List.set_cons_succ, List.set_cons_zero])
   refine plan_alt rfl ?_ plan_stop
   go_wp2_with fail
   refine (rFunc_any u.cs _ f _ _ c s _ _ (HC.out.1.below HE2.out.bel) (by have := HH.out.cl; omega) (HFF.out.2.2.1.1.below HE2.out.bel) (HFF.out.2.2.1.2.below HE2.out.bel) HPD.out HR.out.2.2.1 (fun i hi => by
    refine HC.out.2.2.2.2.2.ar f ?_ _ (nth_mem _ _ hi)
    rw [HFF.out.1]; exact nth_mem _ _ HR.out.2.2.2)).mono ?_
   rintro e W3 ⟨i3, n3, rfl, hf3, b3⟩
   have H3 := Lib.hid (And.intro (HE2.out.below b3) hf3)
   clear b3 hf3
   go_wp2_with fail
   refine tail_mk H3.out.1 ?_
   repeat (
    refine plan_take (v := ?_) rfl (Or.inl ⟨by rfl, ?_⟩) ?_
    rotate_left
    ·(intro W hW; have c0 := hW.cell 1 rfl 0 rfl; have c1 := hW.cell 1 rfl 1 rfl; have s0 := hW.cell 0 rfl 0 rfl; have s1 := hW.cell 0 rfl 1 rfl; have s2 := hW.cell 0 rfl 2 rfl; have s3 := hW.cell 0 rfl 3 rfl; obtain ⟨p0, p1, p2, p3, p4, p5, p6⟩ := HFF.out.2.2.2.2 W hW.bel; (try go_simp); try with_reducible rfl)
    simp only [Act.put, List.setIfInBounds_toArray, List.getElem_toArray, List.getElem_cons_zero, List.getElem_cons_succ, List.set_cons_succ, List.set_cons_zero])
   refine plan_done ?_
   by_cases hn3 : n3 = 0
   case neg =>
    have t1 : (n3 != 0) = true := by simpa using hn3
    have t2 : (n3 == 0) = false := by simpa using hn3
    have HQ := Lib.hid hn3
    clear hn3
    go_wp2_with fail
    go_ret3
    exact ⟨k, i3, n3, rfl, fun h => absurd h HQ.out, H3.out.1.bel⟩
   subst hn3
   have hFO := H3.out.2 (by first | rfl | trivial)
   have HFS := Lib.hid (show FsOk u (k + 1) from fun p hp => by
    by_cases e : p = k
    ·subst e
     rw [← HFF.out.1]
     refine ⟨hFO.2, fun i j hi hj e => ?_⟩
     obtain ⟨h1, h2⟩ := HR.out.1 i j hi hj e
     rw [← h1, ← h2]; exact hFO.1
    ·exact HF.out p (by omega))
   have hm1024 : m ≤ 1024 := by rw [HFF.out.2.1]; exact hFO.2.len.2
   have c1 := H3.out.1.cell 1 rfl 1 rfl
   obtain ⟨-, -, -, -, -, -, p6⟩ := HFF.out.2.2.2.2 W3 H3.out.1.bel
   clear hFO
   go_wp2_with fail
   go_loop [6, 13] (fun x z => ∃ j r : Nat, j ≤ m ∧ z = .int .i64 (j : Int) ∧ x = .int .i64 (r : Int) ∧ r ≤ 1024 * k + j) (fun _ z => m - (intOf z).toNat)
   case atStart => exact ⟨0, q, by omega, rfl, rfl, by omega⟩
   case round =>
    obtain ⟨j, r, hj, rfl, rfl, hr⟩ := hrel
    by_cases hjm : j < m
    ·have hji : (j : Int) < (m : Int) := by omega
     obtain ⟨-, v7, -, hy⟩ := HFF.out.2.2.2.1.2 j hjm
     have y0 := (hy W3 H3.out.1.bel).1
     have j2 := HFF.out.2.2.2.1.1 (j : Int) (by omega) (by omega)
     rw [Int.toNat_natCast] at j2
     clear hy
     obtain ⟨op, hop⟩ : ∃ o, o = (nth f.cd j).op := ⟨_, rfl⟩
     rw [← hop] at y0
     clear hop
     by_cases h6 : op = 6
     ·subst h6
      go_wp2_with fail
      go_round
      case rel => exact ⟨j + 1, r + 1, by omega, by go_num, by go_num, by omega⟩
      case measure => simp [intOf]; omega
     ·have t6 : (op == 6) = false := by simpa using h6
      clear h6
      go_wp2_with fail
      go_round
      case rel => exact ⟨j + 1, r, by omega, by go_num, rfl, by omega⟩
      case measure => simp [intOf]; omega
    ·obtain rfl : m = j := by omega
     clear hjm hj
     go_wp2_with fail
     go_roundw
     case rel => exact ⟨k + 1, r, by omega, by go_num, rfl, by omega, HFS.out, H3.out.1.sub (by simp)⟩
     case measure => simp [intOf]; omega
  ·obtain rfl : F = k := by omega
   have HU := Lib.hid (uok_of HH.out (by rw [← HC.out.2.2.2.2.1]; exact HF.out))
   clear hlt hk
   by_cases hq2 : 1024 < q
   ·have t1 : decide ((1024 : Int) < (q : Int)) = true := decide_eq_true (by omega)
    have t2 : decide (1024 < q) = true := decide_eq_true hq2
    clear hq2
    go_wp2_with fail
    go_ret3
    exact ⟨-1, -1, 3, rfl, (fun h => by cases h), hh.out.bel⟩
   ·have t1 : decide ((1024 : Int) < (q : Int)) = false := decide_eq_false (by omega)
    have t2 : decide (1024 < q) = false := decide_eq_false hq2
    clear hq2
    go_wp2_with fail
    go_ret3
    exact ⟨0, 0, 0, rfl, fun _ => ⟨HU.out, HH.out.cl, HH.out.fl⟩, hh.out.bel⟩
end Go.Proofs.YtnklnklkblgnfaaGreat
end
section
namespace Go.Hir
open Go.Dfl (nth nth_mem mem_nth nth_eq nth_ext take_snoc nth_set nth_append nth_out)
open Go.Obs
structure Frm where
 f : Nat
 i : Nat
 no : Int
 cl : Int
 vs : List Vl
 ex : Vl
deriving Inhabited
structure Obj where
 c : ByteArray
 sl : List (ByteArray × Vl)
deriving Inhabited
structure Mch where
 inp : List Int
 hp : List Obj
 fr : List Frm
 n : Int
 ob : List Ob
deriving Inhabited
def zV (t : ByteArray) : Vl := if t = tI then ⟨1, 0, 0⟩ else ⟨2, 0, 0⟩
def tpN (m : Mch) : Nat := m.fr.length - 1
def tp (m : Mch) : Frm := nth m.fr (tpN m)
def fnOf (u : Un) (g : Frm) : Fu := nth u.fs g.f
def isOf (u : Un) (g : Frm) : Is := nth (fnOf u g).cd g.i
def rd (u : Un) (g : Frm) (v : Int) : Vl := if (nth g.vs v.toNat).k = 0 then zV (vty (fnOf u g) v) else nth g.vs v.toNat
def up (m : Mch) (g : Frm) : Mch := { m with fr := m.fr.set (tpN m) g }
def setG (g : Frm) (v : Int) (x : Vl) : Frm := { g with vs := g.vs.set v.toNat x, i := g.i + 1 }
def setV (m : Mch) (v : Int) (x : Vl) : Mch := up m (setG (tp m) v x)
def goN (m : Mch) (i : Nat) : Mch := up m { tp m with i := i }
def flds (cs : List Cl) (c : ByteArray) : List Vd := (sups cs c).flatMap fun d => (clOf cs d).fs
def newO (u : Un) (c : ByteArray) : Obj := ⟨c, (flds u.cs c).map fun f => (f.n, zV f.t)⟩
def slF (l : List (ByteArray × Vl)) (m : ByteArray) : Nat → Nat → Nat
 | 0, _ => 0
 | n + 1, k => if (nth l k).1 = m then k else slF l m n (k + 1)
def slt (o : Obj) (m : ByteArray) : Nat := slF o.sl m o.sl.length 0
def dsp (u : Un) (c m : ByteArray) : Int := match methP u.cs c m with
 | none => -1
 | some (d, s) => if s.st then -1 else fuI u.fs d m
def pad (a : List Vl) (n : Nat) : List Vl := a ++ List.replicate (n - a.length) default
def entP (u : Un) (m : Mch) (fn : Int) (a : List Vl) : Mch :=
 { m with fr := m.fr ++ [⟨fn.toNat, 0, m.n, (m.ob.length : Int) - 1, pad a (nth u.fs fn.toNat).vs.length, default⟩], n := m.n + 1 }
def rsK (u : Un) (e : Vl) (fr : List Frm) : Nat → List Frm
 | 0 => []
 | k + 1 => if (isOf u (nth fr k)).ct ≠ -1 then fr.take k ++ [{ nth fr k with i := (isOf u (nth fr k)).ct.toNat, ex := e }] else rsK u e fr k
def rsP (u : Un) (m : Mch) (e : Vl) : Mch × Int := ({ m with fr := rsK u e m.fr m.fr.length }, if rsK u e m.fr m.fr.length = [] then 2 else 0)
def binV (op a b : Int) : Int :=
 if op = 1 then IntKind.i64.wrap (a + b) else if op = 2 then IntKind.i64.wrap (a - b) else if op = 3 then IntKind.i64.wrap (a * b)
 else if op = 4 ∧ a < b ∨ op = 5 ∧ a = b then 1 else 0
def eqV (a b : Vl) : Int := if a.k = b.k ∧ (a.k = 2 ∨ a.n = b.n) then 1 else 0
def cpV (u : Un) (m : Mch) (x : Is) : Vl :=
 if x.op = 1 then ⟨1, x.n, 0⟩ else if x.op = 2 then ⟨2, 0, 0⟩ else if x.op = 3 then rd u (tp m) x.a else if x.op = 16 then ⟨1, IntKind.i64.wrap ((rd u (tp m) x.a).n + x.n), 0⟩
 else if x.op = 5 then ⟨1, nth m.inp 0, 0⟩
 else ⟨1, if (rd u (tp m) x.a).k = 1 then binV x.n (rd u (tp m) x.a).n (rd u (tp m) x.b).n else eqV (rd u (tp m) x.a) (rd u (tp m) x.b), 0⟩
def cpM (u : Un) (m : Mch) (x : Is) : Mch :=
 if x.op = 5 then { m with inp := m.inp.tail } else if x.op = 6 then { m with hp := m.hp ++ [newO u x.c] } else m
def cpW (u : Un) (m : Mch) (x : Is) : Vl := if x.op = 6 then ⟨3, (m.hp.length : Int), ((siU u.fs (tp m).f (tp m).i).length : Int)⟩ else cpV u m x
def cpP (u : Un) (m : Mch) (x : Is) : Mch := setV (cpM u m x) x.d (cpW u m x)
def slotOf (m : Mch) (a : Vl) (nm : ByteArray) : Nat := slt (nth m.hp a.n.toNat) nm
def putS (m : Mch) (b k : Nat) (v : Vl) : Mch := { m with hp := m.hp.set b { nth m.hp b with sl := (nth m.hp b).sl.set k ((nth (nth m.hp b).sl k).1, v) } }
def memP (u : Un) (m : Mch) (x : Is) : Mch × Int :=
 if (rd u (tp m) x.a).k ≠ 3 then (m, 3)
 else if x.op = 7 then (setV m x.d (nth (nth m.hp (rd u (tp m) x.a).n.toNat).sl (slotOf m (rd u (tp m) x.a) x.m)).2, 0)
 else (goN (putS m (rd u (tp m) x.a).n.toNat (slotOf m (rd u (tp m) x.a) x.m) (rd u (tp m) x.b)) ((tp m).i + 1), 0)
def callee (u : Un) (m : Mch) (x : Is) : Int := if x.op = 9 then dsp u (nth m.hp (rd u (tp m) x.a).n.toNat).c x.m else fuI u.fs x.c x.m
def args (u : Un) (m : Mch) (x : Is) : List Vl := (if x.op = 9 then [rd u (tp m) x.a] else []) ++ x.ar.map (rd u (tp m))
def callP (u : Un) (m : Mch) (x : Is) : Mch × Int :=
 if x.op = 9 ∧ (rd u (tp m) x.a).k ≠ 3 then (m, 3) else if 64 ≤ m.fr.length then (m, 5) else (entP u m (callee u m x) (args u m x), 0)
def retV (u : Un) (m : Mch) (x : Is) : Vl := if x.a ≠ -1 then rd u (tp m) x.a else ⟨0, 0, 0⟩
def popM (m : Mch) : Mch := { m with fr := m.fr.take (m.fr.length - 1) }
def retG (u : Un) (g : Frm) (r : Vl) : Frm := { g with vs := if (isOf u g).d ≠ -1 then g.vs.set (isOf u g).d.toNat r else g.vs, i := g.i + 1 }
def retP (u : Un) (m : Mch) (x : Is) : Mch × Int :=
 if m.fr.length = 1 then (popM m, 1) else (up (popM m) (retG u (tp (popM m)) (retV u m x)), 0)
def thrP (u : Un) (m : Mch) (x : Is) : Mch × Int := if (rd u (tp m) x.a).k ≠ 3 then (m, 3) else rsP u m (rd u (tp m) x.a)
def catP (u : Un) (m : Mch) (x : Is) : Mch × Int :=
 if x.c ∈ sups u.cs (nth m.hp (tp m).ex.n.toNat).c then (setV m x.d (tp m).ex, 0) else rsP u m (tp m).ex
def stepP (u : Un) (m : Mch) : Mch × Int :=
 let x := isOf u (tp m)
 if x.op = 0 then (goN m ((tp m).i + 1), 0)
 else if x.op = 11 then (if (rd u (tp m) x.a).n ≠ 0 then (goN m x.g.toNat, 0) else (goN m ((tp m).i + 1), 0))
 else if x.op = 12 then (goN m x.g.toNat, 0)
 else if x.op = 7 ∨ x.op = 8 then memP u m x
 else if x.op = 9 ∨ x.op = 10 then callP u m x
 else if x.op = 13 then retP u m x
 else if x.op = 14 then thrP u m x
 else if x.op = 15 then catP u m x
 else (cpP u m x, 0)
def recO (m : Mch) : Ob := ⟨(tp m).f, (tp m).i, (tp m).no, (tp m).cl, (tp m).vs⟩
def recM (m : Mch) : Mch := { m with ob := m.ob ++ [recO m] }
def runN (u : Un) : Nat → Mch → Mch × Int
 | 0, m => (m, 0)
 | n + 1, m => if (stepP u (recM m)).2 ≠ 0 then stepP u (recM m) else runN u n (stepP u (recM m)).1
def startM (u : Un) (inp : List Int) : Mch := entP u ⟨inp, [], [], 0, []⟩ u.mn []
variable {u : Un}
def RefK (hc ss : List ByteArray) (v : Vl) : Prop := 0 ≤ v.n ∧ v.n < hc.length ∧ 0 ≤ v.s ∧ v.s < ss.length ∧ nth ss v.s.toNat = nth hc v.n.toNat
def TV (cs : List Cl) (hc ss : List ByteArray) (t : ByteArray) (v : Vl) : Prop :=
 (v.k = 1 ∧ t = tI) ∨ (v.k = 2 ∧ t ≠ tI) ∨ (v.k = 3 ∧ t ≠ tI ∧ RefK hc ss v ∧ t ∈ sups cs (nth hc v.n.toNat))
def TU (cs : List Cl) (hc ss : List ByteArray) (t : ByteArray) (v : Vl) : Prop := v.k = 0 ∨ TV cs hc ss t v
section
variable {cs : List Cl} {hc hc' ss : List ByteArray} {f t : ByteArray} {v : Vl}
theorem TV.fits (H : HOk cs) (h : TV cs hc ss f v) (hf : Fits cs f t) : TV cs hc ss t v := by
 rcases hf with rfl | ⟨rfl, h1⟩ | ⟨h1, h2, h3⟩
 ·exact h
 ·rcases h with ⟨-, e⟩ | ⟨h2, -⟩ | ⟨-, -, -, h2⟩
  ·exact absurd e (by decide)
  ·exact .inr (.inl ⟨h2, h1⟩)
  ·exact absurd (sups_isC h2) (H.notC (.inr (.inl rfl)))
 ·have ht : t ≠ tI := fun e => H.notC (.inl e) h2
  rcases h with ⟨-, e⟩ | ⟨h4, -⟩ | ⟨h4, -, h5, h6⟩
  ·exact absurd h1 (H.notC (.inl e))
  ·exact .inr (.inl ⟨h4, ht⟩)
  ·exact .inr (.inr ⟨h4, ht, h5, sups_trans H.acyc h6 h3⟩)
def Ext (hc hc' : List ByteArray) : Prop := hc.length ≤ hc'.length ∧ ∀ i, i < hc.length → nth hc' i = nth hc i
theorem Ext.snoc (hc : List ByteArray) (c : ByteArray) : Ext hc (hc ++ [c]) := ⟨by simp, fun i hi => by rw [nth_append, if_pos hi]⟩
theorem RefK.ext (h : RefK hc ss v) (he : Ext hc hc') : RefK hc' ss v := by
 obtain ⟨h1, h2, h3, h4, h5⟩ := h
 have := he.1
 exact ⟨h1, by omega, h3, h4, by rw [he.2 _ (by omega)]; exact h5⟩
theorem TV.ext (h : TV cs hc ss t v) (he : Ext hc hc') : TV cs hc' ss t v := by
 rcases h with h | h | ⟨h1, h2, h3, h4⟩
 ·exact .inl h
 ·exact .inr (.inl h)
 ·exact .inr (.inr ⟨h1, h2, h3.ext he, by rw [he.2 _ (by have := h3.1; have := h3.2.1; omega)]; exact h4⟩)
theorem TU.ext (h : TU cs hc ss t v) (he : Ext hc hc') : TU cs hc' ss t v := h.imp id fun h => h.ext he
theorem TV.zero (t : ByteArray) : TV cs hc ss t (zV t) := by
 unfold zV
 by_cases e : t = tI
 ·rw [if_pos e]; exact .inl ⟨rfl, e⟩
 ·rw [if_neg e]; exact .inr (.inl ⟨rfl, e⟩)
end
def sts (u : Un) : List ByteArray := (sites u).map fun x => x.2.2
def hcs (m : Mch) : List ByteArray := m.hp.map Obj.c
structure FrT (u : Un) (hc : List ByteArray) (g : Frm) : Prop where
 f : g.f < u.fs.length
 i : g.i < (fnOf u g).cd.length
 len : g.vs.length = (fnOf u g).vs.length
 vs : ∀ j, j < g.vs.length → TU u.cs hc (sts u) (nth (fnOf u g).vs j).t (nth g.vs j)
 ex : (isOf u g).op = 15 → g.ex.k = 3 ∧ RefK hc (sts u) g.ex
structure Wt (u : Un) (g h : Frm) : Prop where
 op : (isOf u g).op = 9 ∨ (isOf u g).op = 10
 r : (isOf u g).d ≠ -1 → (fnOf u h).r ≠ ⟨#[]⟩ ∧ Fits u.cs (fnOf u h).r (vty (fnOf u g) (isOf u g).d)
structure ObjT (u : Un) (hc : List ByteArray) (o : Obj) : Prop where
 c : isC u.cs o.c
 len : o.sl.length = (flds u.cs o.c).length
 sl : ∀ j, j < o.sl.length → (nth o.sl j).1 = (nth (flds u.cs o.c) j).n ∧ TV u.cs hc (sts u) (nth (flds u.cs o.c) j).t (nth o.sl j).2
structure ObT (u : Un) (hc : List ByteArray) (o : Ob) : Prop where
 f : 0 ≤ o.f ∧ o.f < u.fs.length
 i : 0 ≤ o.i ∧ o.i < (nth u.fs o.f.toNat).cd.length
 len : o.vs.length = (nth u.fs o.f.toNat).vs.length
 vs : ∀ j, j < o.vs.length → TU u.cs hc (sts u) (nth (nth u.fs o.f.toNat).vs j).t (nth o.vs j)
def May (u : Un) (x : Is) (f : Nat) : Prop := (x.op = 10 ∧ fuI u.fs x.c x.m = (f : Int)) ∨ (x.op = 9 ∧ ∃ c, isC u.cs c ∧ x.c ∈ sups u.cs c ∧ dsp u c x.m = (f : Int))
def CallK (u : Un) (ob : List Ob) (c : Int) (f : Nat) : Prop := c = -1 ∨ (0 ≤ c ∧ c < ob.length ∧ May u (nth (nth u.fs (nth ob c.toNat).f.toNat).cd (nth ob c.toNat).i.toNat) f)
structure MT (u : Un) (m : Mch) : Prop where
 hp : ∀ j, j < m.hp.length → ObjT u (hcs m) (nth m.hp j)
 fr : ∀ j, j < m.fr.length → FrT u (hcs m) (nth m.fr j)
 wt : ∀ j, j + 1 < m.fr.length → Wt u (nth m.fr j) (nth m.fr (j + 1))
 cl : ∀ j, j < m.fr.length → CallK u m.ob (nth m.fr j).cl (nth m.fr j).f
 ob : ∀ j, j < m.ob.length → ObT u (hcs m) (nth m.ob j)
 oc : ∀ j, j < m.ob.length → CallK u (m.ob.take j) (nth m.ob j).c (nth m.ob j).f.toNat
 dep : m.fr.length ≤ 64
 hl : m.hp.length ≤ m.ob.length
 nl : 0 ≤ m.n ∧ m.n ≤ (m.ob.length : Int) + 1
end Go.Hir
end
section
namespace Go.Hir
open Go.Dfl (nth nth_mem mem_nth nth_eq nth_ext take_snoc nth_set nth_append nth_out)
open Go.Obs
theorem nth_take {α : Type} [Inhabited α] (l : List α) (k i : Nat) (h : i < k) : nth (l.take k) i = nth l i := by
 unfold nth
 simp [h]
theorem nth_mapO (l : List Obj) (i : Nat) (h : i < l.length) : nth (l.map Obj.c) i = (nth l i).c := by
 rw [nth_eq _ _ (by rw [List.length_map]; exact h), nth_eq _ _ h, List.getElem_map]
theorem flat_find {cs : List Cl} {m c t : ByteArray} : ∀ {l : List ByteArray}, fieldL cs m l = some (c, t) → ∃ k, k < (l.flatMap fun d => (clOf cs d).fs).length ∧ (nth (l.flatMap fun d => (clOf cs d).fs) k).n = m ∧ (nth (l.flatMap fun d => (clOf cs d).fs) k).t = t ∧ ∀ j, j < k → (nth (l.flatMap fun d => (clOf cs d).fs) j).n ≠ m
 | [], h => by cases h
 | a :: l, h => by
   have key : ∀ (L : List Vd) (t : ByteArray), fdV L m = some t → ∃ k, k < L.length ∧ (nth L k).n = m ∧ (nth L k).t = t ∧ ∀ j, j < k → (nth L j).n ≠ m := by
    intro L
    induction L with
    | nil => intro t h; cases h
    | cons f L ih =>
      intro t h
      unfold fdV at h
      by_cases e : f.n = m
      ·rw [if_pos e] at h
       exact ⟨0, by simp, e, Option.some.inj h, fun j hj => by omega⟩
      ·rw [if_neg e] at h
       obtain ⟨k, h1, h2, h3, h4⟩ := ih t h
       refine ⟨k + 1, by simp; omega, h2, h3, fun j hj => ?_⟩
       cases j with
       | zero => exact e
       | succ j => exact h4 j (by omega)
   rw [List.flatMap_cons]
   unfold fieldL at h
   cases e : fdV (clOf cs a).fs m with
   | some t' =>
     rw [e] at h
     obtain ⟨rfl, rfl⟩ : a = c ∧ t' = t := by simpa using h
     obtain ⟨k, h1, h2, h3, h4⟩ := key _ _ e
     refine ⟨k, by rw [List.length_append]; omega, ?_, ?_, fun j hj => ?_⟩
     ·rw [nth_append, if_pos h1]; exact h2
     ·rw [nth_append, if_pos h1]; exact h3
     ·rw [nth_append, if_pos (by omega)]; exact h4 j hj
   | none =>
     rw [e] at h
     obtain ⟨k, h1, h2, h3, h4⟩ := flat_find h
     refine ⟨(clOf cs a).fs.length + k, by rw [List.length_append]; omega, ?_, ?_, fun j hj => ?_⟩
     ·rw [nth_append, if_neg (by omega), Nat.add_sub_cancel_left]; exact h2
     ·rw [nth_append, if_neg (by omega), Nat.add_sub_cancel_left]; exact h3
     ·rw [nth_append]
      by_cases e2 : j < (clOf cs a).fs.length
      ·rw [if_pos e2]; exact fdV_none e _ (nth_mem _ _ e2)
      ·rw [if_neg e2]; exact h4 _ (by omega)
theorem slF_eq {l : List (ByteArray × Vl)} {m : ByteArray} {k : Nat} (h : (nth l k).1 = m) (hb : ∀ j, j < k → (nth l j).1 ≠ m) : ∀ (n i : Nat), i ≤ k → k < i + n → slF l m n i = k
 | 0, i, _, _ => by omega
 | n + 1, i, h1, h2 => by
   unfold slF
   by_cases e : i = k
   ·subst e; rw [if_pos h]
   ·rw [if_neg (hb i (by omega))]
    exact slF_eq h hb n (i + 1) (by omega) (by omega)
section
variable {u : Un} {hc : List ByteArray} {o : Obj}
theorem slot_ok (H : HOk u.cs) (h : ObjT u hc o) {t m c ty : ByteArray} (h1 : t ∈ sups u.cs o.c) (h2 : fieldP u.cs t m = some (c, ty)) : slt o m < o.sl.length ∧ (nth (flds u.cs o.c) (slt o m)).t = ty ∧ (nth o.sl (slt o m)).1 = m := by
 have h3 := H.field h1 h2
 obtain ⟨k, k1, k2, k3, k4⟩ := flat_find h3
 have k1 : k < (flds u.cs o.c).length := k1
 have e : slt o m = k := by
  refine slF_eq ?_ (fun j hj => ?_) _ 0 (Nat.zero_le _) (by rw [h.len]; omega)
  ·rw [(h.sl k (by rw [h.len]; exact k1)).1]; exact k2
  ·rw [(h.sl j (by rw [h.len]; omega)).1]; exact k4 j hj
 rw [e]
 exact ⟨by rw [h.len]; exact k1, k3, by rw [(h.sl k (by rw [h.len]; exact k1)).1]; exact k2⟩
theorem ObjT.ext (h : ObjT u hc o) {hc' : List ByteArray} (he : Ext hc hc') : ObjT u hc' o := ⟨h.c, h.len, fun j hj => ⟨(h.sl j hj).1, (h.sl j hj).2.ext he⟩⟩
theorem newO_ok {c : ByteArray} (h : isC u.cs c) : ObjT u hc (newO u c) := by
 refine ⟨h, by simp [newO], fun j hj => ?_⟩
 have hj' : j < (flds u.cs c).length := by simpa [newO] using hj
 have e : nth (newO u c).sl j = ((nth (flds u.cs c) j).n, zV (nth (flds u.cs c) j).t) := by
  rw [nth_eq _ _ hj, nth_eq _ _ hj']
  simp [newO]
 rw [e]
 exact ⟨rfl, TV.zero _⟩
theorem ObT.ext {b : Ob} (h : ObT u hc b) {hc' : List ByteArray} (he : Ext hc hc') : ObT u hc' b := ⟨h.f, h.i, h.len, fun j hj => (h.vs j hj).ext he⟩
theorem FrT.ext {g : Frm} (h : FrT u hc g) {hc' : List ByteArray} (he : Ext hc hc') : FrT u hc' g := ⟨h.f, h.i, h.len, fun j hj => (h.vs j hj).ext he, fun e => ⟨(h.ex e).1, (h.ex e).2.ext he⟩⟩
structure IO (u : Un) (g : Frm) : Prop where
 op : 0 ≤ (isOf u g).op ∧ (isOf u g).op ≤ 16
 rng : Rng (fnOf u g) (isOf u g)
 stay : Stay (fnOf u g) g.i (isOf u g)
 typ : Typd u.cs (fnOf u g) (isOf u g)
theorem rd_ok {g : Frm} (h : FrT u hc g) {v : Int} (h1 : v < (fnOf u g).vs.length) (_ : 0 ≤ v) : TV u.cs hc (sts u) (vty (fnOf u g) v) (rd u g v) := by
 unfold rd
 by_cases e : (nth g.vs v.toNat).k = 0
 ·rw [if_pos e]; exact TV.zero _
 ·rw [if_neg e]
  rcases h.vs v.toNat (by rw [h.len]; omega) with h2 | h2
  ·exact absurd h2 e
  ·exact h2
theorem FrT.iok {g : Frm} (H : UOk u) (h : FrT u hc g) : IO u g :=
 have I := (H.fn _ h.f).ins _ h.i
 ⟨I.op, I.rng, I.stay, I.typ⟩
theorem FrT.at {g g' : Frm} (h : FrT u hc g) {i : Nat} (hi : i < (fnOf u g).cd.length) (ho : (nth (fnOf u g).cd i).op ≠ 15) (ef : g'.f = g.f) (ei : g'.i = i) (ev : g'.vs = g.vs) : FrT u hc g' := by
 have e : fnOf u g' = fnOf u g := by unfold fnOf; rw [ef]
 refine ⟨by rw [ef]; exact h.f, by rw [e, ei]; exact hi, by rw [e, ev]; exact h.len, fun j hj => ?_, fun h15 => ?_⟩
 ·rw [e, ev]; exact h.vs j (by rw [← ev]; exact hj)
 ·exact absurd (by unfold isOf at h15; rw [e, ei] at h15; exact h15) ho
theorem FrT.put {g g' : Frm} (h : FrT u hc g) {i : Nat} (hi : i < (fnOf u g).cd.length) (ho : (nth (fnOf u g).cd i).op ≠ 15) (ef : g'.f = g.f) (ei : g'.i = i) {v : Int} {x : Vl} (_h0 : 0 ≤ v) (ev : g'.vs = g.vs.set v.toNat x)
  (hx : TV u.cs hc (sts u) (vty (fnOf u g) v) x) : FrT u hc g' := by
 have e : fnOf u g' = fnOf u g := by unfold fnOf; rw [ef]
 refine ⟨by rw [ef]; exact h.f, by rw [e, ei]; exact hi, by rw [e, ev, List.length_set]; exact h.len, fun j hj => ?_, fun h15 => ?_⟩
 ·rw [e, ev, nth_set]
  by_cases e2 : v.toNat = j ∧ v.toNat < g.vs.length
  ·rw [if_pos e2, ← e2.1]; exact .inr hx
  ·rw [if_neg e2]; exact h.vs j (by rw [ev, List.length_set] at hj; exact hj)
 ·exact absurd (by unfold isOf at h15; rw [e, ei] at h15; exact h15) ho
end
theorem siL_pre {i : Nat} {f : Fu} {k : Nat} : ∀ n, ∃ r, siL i f (k + n) = siL i f k ++ r
 | 0 => ⟨[], by simp⟩
 | n + 1 => by
   obtain ⟨r, h⟩ := siL_pre (i := i) (f := f) (k := k) n
   by_cases e : (nth f.cd (k + n)).op = 6
   ·exact ⟨r ++ [((i : Int), ((k + n : Nat) : Int), (nth f.cd (k + n)).c)], by rw [← Nat.add_assoc, siL_yes e, h, List.append_assoc]⟩
   ·exact ⟨r, by rw [← Nat.add_assoc, siL_no e, h]⟩
theorem siU_pre {fs : List Fu} {i k : Nat} (hk : k ≤ (nth fs i).cd.length) : ∀ n, ∃ r, siU fs (i + 1 + n) 0 = siU fs i k ++ r
 | 0 => by
   obtain ⟨r, h⟩ := siL_pre (i := i) (f := nth fs i) (k := k) ((nth fs i).cd.length - k)
   refine ⟨r, ?_⟩
   rw [Nat.add_zero, siU_next]
   unfold siU
   rw [List.append_assoc, ← h, show k + ((nth fs i).cd.length - k) = (nth fs i).cd.length by omega]
 | n + 1 => by
   obtain ⟨r, h⟩ := siU_pre hk n
   refine ⟨r ++ siL (i + 1 + n) (nth fs (i + 1 + n)) (nth fs (i + 1 + n)).cd.length, ?_⟩
   rw [← Nat.add_assoc, siU_next, ← List.append_assoc, ← h]
   unfold siU
   rw [siL_zero, List.append_nil]
theorem site_ok {u : Un} {f i : Nat} (hf : f < u.fs.length) (hi : i < (nth u.fs f).cd.length) (h : (nth (nth u.fs f).cd i).op = 6) : (siU u.fs f i).length < (sts u).length ∧ nth (sts u) (siU u.fs f i).length = (nth (nth u.fs f).cd i).c := by
 obtain ⟨r, hr⟩ := siU_pre (fs := u.fs) (i := f) (k := i + 1) (by omega) (u.fs.length - f - 1)
 rw [show f + 1 + (u.fs.length - f - 1) = u.fs.length by omega, siU_yes h] at hr
 have e : sts u = ((siU u.fs f i).map fun x => x.2.2) ++ ((nth (nth u.fs f).cd i).c :: r.map fun x => x.2.2) := by
  unfold sts sites
  rw [hr, List.map_append, List.map_append, List.append_assoc]; rfl
 rw [e]
 refine ⟨by simp, ?_⟩
 rw [nth_append, if_neg (by simp)]
 simp [nth]
end Go.Hir
end
section
namespace Go.Hir
open Go.Dfl (nth nth_mem mem_nth nth_eq nth_ext take_snoc nth_set nth_append nth_out)
open Go.Obs
variable {u : Un} {m : Mch}
structure Rcd (m : Mch) : Prop where
 pos : 0 < m.fr.length
 ob : 0 < m.ob.length
 f : (nth m.ob (m.ob.length - 1)).f = (tp m).f
 i : (nth m.ob (m.ob.length - 1)).i = (tp m).i
 hl : m.hp.length + 1 ≤ m.ob.length
 nl : m.n ≤ m.ob.length
theorem MT.top (M : MT u m) (hp : 0 < m.fr.length) : FrT u (hcs m) (tp m) := M.fr _ (by unfold tpN; omega)
theorem MT.upG (M : MT u m) (hp : 0 < m.fr.length) {g : Frm} (hg : FrT u (hcs m) g) (hf : g.f = (tp m).f) (hc : g.cl = (tp m).cl) : MT u (up m g) := by
 have hn : ∀ j, nth (up m g).fr j = if tpN m = j ∧ tpN m < m.fr.length then g else nth m.fr j := fun j => nth_set _ _ _ _
 have hl : (up m g).fr.length = m.fr.length := List.length_set
 refine ⟨M.hp, fun j hj => ?_, fun j hj => ?_, fun j hj => ?_, M.ob, M.oc, by rw [hl]; exact M.dep, M.hl, M.nl⟩
 ·rw [hn]
  by_cases e : tpN m = j ∧ tpN m < m.fr.length
  ·rw [if_pos e]; exact hg
  ·rw [if_neg e]; exact M.fr j (by omega)
 ·rw [hl] at hj
  have h1 := M.wt j hj
  rw [hn, hn, if_neg (by unfold tpN; omega)]
  by_cases e : tpN m = j + 1 ∧ tpN m < m.fr.length
  ·rw [if_pos e]
   have e2 : fnOf u g = fnOf u (nth m.fr (j + 1)) := by
    unfold fnOf; rw [hf]; unfold tp; rw [e.1]
   exact ⟨h1.op, fun h => by rw [e2]; exact h1.r h⟩
  ·rw [if_neg e]; exact h1
 ·rw [hn]
  by_cases e : tpN m = j ∧ tpN m < m.fr.length
  ·rw [if_pos e, hf, hc]
   exact M.cl _ e.2
  ·rw [if_neg e]; exact M.cl j (by omega)
theorem MT.inp (M : MT u m) (l : List Int) : MT u { m with inp := l } := ⟨M.hp, M.fr, M.wt, M.cl, M.ob, M.oc, M.dep, M.hl, M.nl⟩
theorem MT.cut (M : MT u m) (k : Nat) : MT u { m with fr := m.fr.take k } := by
 refine ⟨M.hp, fun j hj => ?_, fun j hj => ?_, fun j hj => ?_, M.ob, M.oc, ?_, M.hl, M.nl⟩
 ·rw [List.length_take] at hj; rw [nth_take _ _ _ (by omega)]; exact M.fr j (by omega)
 ·have hj : j + 1 < (m.fr.take k).length := hj
  rw [List.length_take] at hj; rw [nth_take _ _ _ (by omega), nth_take _ _ _ (by omega)]; exact M.wt j (by omega)
 ·rw [List.length_take] at hj; rw [nth_take _ _ _ (by omega)]; exact M.cl j (by omega)
 ·have := M.dep
  show (m.fr.take k).length ≤ 64
  rw [List.length_take]; omega
theorem MT.obj (M : MT u m) {o : Obj} (ho : ∀ hc, ObjT u hc o) (hl : m.hp.length + 1 ≤ m.ob.length) : MT u { m with hp := m.hp ++ [o] } := by
 have he : Ext (hcs m) (hcs { m with hp := m.hp ++ [o] }) := by
  unfold hcs; rw [List.map_append]; exact Ext.snoc _ _
 refine ⟨fun j hj => ?_, fun j hj => (M.fr j hj).ext he, M.wt, M.cl, fun j hj => (M.ob j hj).ext he, M.oc, M.dep, by rw [List.length_append]; exact hl, M.nl⟩
 show ObjT u _ (nth (m.hp ++ [o]) j)
 rw [nth_append]
 by_cases e : j < m.hp.length
 ·rw [if_pos e]; exact (M.hp j e).ext he
 ·have hj : j < (m.hp ++ [o]).length := hj
  rw [List.length_append, List.length_singleton] at hj
  rw [if_neg e, show j - m.hp.length = 0 by omega]; exact ho _
theorem MT.slot (M : MT u m) {b k : Nat} {v : Vl} (hb : b < m.hp.length) (hv : TV u.cs (hcs m) (sts u) (nth (flds u.cs (nth m.hp b).c) k).t v) : MT u (putS m b k v) := by
 have hn : ∀ j, nth (putS m b k v).hp j = if b = j ∧ b < m.hp.length then { nth m.hp b with sl := (nth m.hp b).sl.set k ((nth (nth m.hp b).sl k).1, v) } else nth m.hp j := fun j => nth_set _ _ _ _
 have hc : hcs (putS m b k v) = hcs m := by
  unfold hcs
  refine nth_ext (by simp [putS]) fun j hj => ?_
  have hj1 : j < m.hp.length := by simpa [putS] using hj
  rw [nth_mapO _ _ (by simpa [putS] using hj1), nth_mapO _ _ hj1, hn]
  by_cases e : b = j ∧ b < m.hp.length
  ·rw [if_pos e, ← e.1]
  ·rw [if_neg e]
 have hl : (putS m b k v).hp.length = m.hp.length := List.length_set
 refine ⟨fun j hj => ?_, fun j hj => by rw [hc]; exact M.fr j hj, M.wt, M.cl, fun j hj => by rw [hc]; exact M.ob j hj, M.oc, M.dep, by rw [hl]; exact M.hl, M.nl⟩
 rw [hc, hn]
 by_cases e : b = j ∧ b < m.hp.length
 ·rw [if_pos e]
  have h1 := M.hp b hb
  refine ⟨h1.c, by simp only [List.length_set]; exact h1.len, fun i hi => ?_⟩
  have hi : i < (nth m.hp b).sl.length := by simpa using hi
  have h2 := h1.sl i hi
  show (nth ((nth m.hp b).sl.set k _) i).1 = _ ∧ TV _ _ _ _ (nth ((nth m.hp b).sl.set k _) i).2
  rw [nth_set]
  by_cases e2 : k = i ∧ k < (nth m.hp b).sl.length
  ·rw [if_pos e2]
   obtain ⟨rfl, -⟩ := e2
   exact ⟨h2.1, hv⟩
  ·rw [if_neg e2]; exact h2
 ·rw [if_neg e]; exact M.hp j (by omega)
theorem MT.push (M : MT u m) (hp : 0 < m.fr.length) {g : Frm} (hd : m.fr.length < 64) (hg : FrT u (hcs m) g) (hw : Wt u (tp m) g) (hc : CallK u m.ob g.cl g.f) (hn : m.n ≤ m.ob.length) : MT u { m with fr := m.fr ++ [g], n := m.n + 1 } := by
 have key : ∀ j, j < (m.fr ++ [g]).length → nth (m.fr ++ [g]) j = if j < m.fr.length then nth m.fr j else g := fun j hj => by
  rw [nth_append]
  by_cases e : j < m.fr.length
  ·rw [if_pos e, if_pos e]
  ·rw [List.length_append, List.length_singleton] at hj
   rw [if_neg e, if_neg e, show j - m.fr.length = 0 by omega]; rfl
 have h0 := M.nl
 refine ⟨M.hp, fun j hj => ?_, fun j hj => ?_, fun j hj => ?_, M.ob, M.oc, ?_, M.hl, ?_⟩
 ·show FrT u _ (nth (m.fr ++ [g]) j)
  rw [key j hj]
  by_cases e : j < m.fr.length
  ·rw [if_pos e]; exact M.fr j e
  ·rw [if_neg e]; exact hg
 ·have hj : j + 1 < (m.fr ++ [g]).length := hj
  show Wt u (nth (m.fr ++ [g]) j) (nth (m.fr ++ [g]) (j + 1))
  have hl : (m.fr ++ [g]).length = m.fr.length + 1 := by simp
  rw [key j (by omega), key (j + 1) hj, if_pos (by omega)]
  by_cases e : j + 1 < m.fr.length
  ·rw [if_pos e]; exact M.wt j e
  ·rw [if_neg e]
   have : nth m.fr j = tp m := by unfold tp tpN; rw [show m.fr.length - 1 = j by omega]
   rw [this]; exact hw
 ·show CallK u _ (nth (m.fr ++ [g]) j).cl (nth (m.fr ++ [g]) j).f
  rw [key j hj]
  by_cases e : j < m.fr.length
  ·rw [if_pos e]; exact M.cl j e
  ·rw [if_neg e]; exact hc
 ·show (m.fr ++ [g]).length ≤ 64
  simp; omega
 ·show 0 ≤ m.n + 1 ∧ m.n + 1 ≤ (m.ob.length : Int) + 1; omega
theorem CallK.more {ob : List Ob} {c : Int} {f : Nat} (h : CallK u ob c f) (o : Ob) : CallK u (ob ++ [o]) c f := by
 rcases h with h | ⟨h1, h2, h3⟩
 ·exact .inl h
 ·exact .inr ⟨h1, by rw [List.length_append]; omega, by rw [nth_append, if_pos (by omega)]; exact h3⟩
theorem MT.recd (M : MT u m) (hp : 0 < m.fr.length) : MT u (recM m) ∧ Rcd (recM m) := by
 have ht := M.top hp
 have hnew : ObT u (hcs m) (recO m) := by
  refine ⟨⟨by show (0 : Int) ≤ ((tp m).f : Int); omega, by show ((tp m).f : Int) < _; have := ht.f; omega⟩, ⟨by show (0 : Int) ≤ ((tp m).i : Int); omega, ?_⟩, ?_, fun j hj => ?_⟩
  ·show ((tp m).i : Int) < ((nth u.fs ((tp m).f : Int).toNat).cd.length : Int)
   rw [Int.toNat_natCast]; have := ht.i; unfold fnOf at this; omega
  ·show (tp m).vs.length = (nth u.fs ((tp m).f : Int).toNat).vs.length
   rw [Int.toNat_natCast]; exact ht.len
  ·show TU _ _ _ (nth (nth u.fs ((tp m).f : Int).toNat).vs j).t _
   rw [Int.toNat_natCast]; exact ht.vs j hj
 have key : ∀ j, j < (m.ob ++ [recO m]).length → nth (m.ob ++ [recO m]) j = if j < m.ob.length then nth m.ob j else recO m := fun j hj => by
  rw [nth_append]
  by_cases e : j < m.ob.length
  ·rw [if_pos e, if_pos e]
  ·rw [List.length_append, List.length_singleton] at hj
   rw [if_neg e, if_neg e, show j - m.ob.length = 0 by omega]; rfl
 have hl : (m.ob ++ [recO m]).length = m.ob.length + 1 := by simp
 have h1 := M.hl
 have h2 := M.nl
 have hlast : nth (recM m).ob ((recM m).ob.length - 1) = recO m := by
  show nth (m.ob ++ [recO m]) ((m.ob ++ [recO m]).length - 1) = _
  rw [key _ (by omega), if_neg (by omega)]
 refine ⟨⟨M.hp, M.fr, M.wt, fun j hj => (M.cl j hj).more _, fun j hj => ?_, fun j hj => ?_, M.dep, by show m.hp.length ≤ (m.ob ++ [recO m]).length; omega, by show 0 ≤ m.n ∧ m.n ≤ (((m.ob ++ [recO m]).length : Nat) : Int) + 1; omega⟩, hp, by show 0 < (m.ob ++ [recO m]).length; omega, by rw [hlast]; rfl, by rw [hlast]; rfl, by show m.hp.length + 1 ≤ (m.ob ++ [recO m]).length; omega, by show m.n ≤ (((m.ob ++ [recO m]).length : Nat) : Int); omega⟩
 ·show ObT u _ (nth (m.ob ++ [recO m]) j)
  rw [key j hj]
  by_cases e : j < m.ob.length
  ·rw [if_pos e]; exact M.ob j e
  ·rw [if_neg e]; exact hnew
 ·have hj : j < (m.ob ++ [recO m]).length := hj
  show CallK u ((m.ob ++ [recO m]).take j) (nth (m.ob ++ [recO m]) j).c (nth (m.ob ++ [recO m]) j).f.toNat
  rw [List.take_append_of_le_length (by omega), key j hj]
  by_cases e : j < m.ob.length
  ·rw [if_pos e]; exact M.oc j e
  ·rw [if_neg e, List.take_of_length_le (by omega)]
   show CallK u m.ob (tp m).cl ((tp m).f : Int).toNat
   rw [Int.toNat_natCast]
   exact M.cl _ (by unfold tpN; omega)
section
variable (H : UOk u) (M : MT u m) (R : Rcd m)
include H M R
omit H in
theorem goN_ok {i : Nat} (hi : i < (fnOf u (tp m)).cd.length) (ho : (nth (fnOf u (tp m)).cd i).op ≠ 15) : MT u (goN m i) :=
 M.upG R.pos ((M.top R.pos).at hi ho rfl rfl rfl) rfl rfl
theorem next_ok (h : (isOf u (tp m)).op ≠ 12) (h2 : (isOf u (tp m)).op ≠ 13) (h3 : (isOf u (tp m)).op ≠ 14) : (tp m).i + 1 < (fnOf u (tp m)).cd.length ∧ (nth (fnOf u (tp m)).cd ((tp m).i + 1)).op ≠ 15 :=
 ((M.top R.pos).iok H).stay.next h h2 h3
theorem setV_ok {v : Int} {x : Vl} (h : (isOf u (tp m)).op ≠ 12) (h2 : (isOf u (tp m)).op ≠ 13) (h3 : (isOf u (tp m)).op ≠ 14) (h0 : 0 ≤ v) (hx : TV u.cs (hcs m) (sts u) (vty (fnOf u (tp m)) v) x) : MT u (setV m v x) := by
 obtain ⟨h4, h5⟩ := next_ok H M R h h2 h3
 exact M.upG R.pos ((M.top R.pos).put h4 h5 rfl rfl h0 rfl hx) rfl rfl
omit H M in
theorem pos_up {g : Frm} : 0 < (up m g).fr.length := by
 show 0 < (m.fr.set _ _).length
 rw [List.length_set]; exact R.pos
theorem dst_ok (h : hasB (isOf u (tp m)).op 100 = true) (h9 : (isOf u (tp m)).op ≠ 9) (h10 : (isOf u (tp m)).op ≠ 10) : 0 ≤ (isOf u (tp m)).d := by
 rcases ((M.top R.pos).iok H).rng.d h with h | ⟨h, -⟩
 ·exact h.1
 ·rcases h with h | h
  ·exact absurd h h9
  ·exact absurd h h10
theorem a_ok (h : hasB (isOf u (tp m)).op 97 = true) (h13 : (isOf u (tp m)).op ≠ 13) : TV u.cs (hcs m) (sts u) (vty (fnOf u (tp m)) (isOf u (tp m)).a) (rd u (tp m) (isOf u (tp m)).a) := by
 rcases ((M.top R.pos).iok H).rng.a h with h | ⟨h, -⟩
 ·exact rd_ok (M.top R.pos) h.2 h.1
 ·exact absurd h h13
theorem memP_ok (h : (isOf u (tp m)).op = 7 ∨ (isOf u (tp m)).op = 8) : MT u (memP u m (isOf u (tp m))).1 ∧ 0 < (memP u m (isOf u (tp m))).1.fr.length := by
 have I := (M.top R.pos).iok H
 have ha := a_ok H M R (by rcases h with h | h <;> rw [h] <;> rfl) (by omega)
 unfold memP
 by_cases h3 : (rd u (tp m) (isOf u (tp m)).a).k ≠ 3
 ·rw [if_pos h3]; exact ⟨M, R.pos⟩
 ·rw [if_neg h3]
  have hc : isC u.cs (vty (fnOf u (tp m)) (isOf u (tp m)).a) ∧ ∃ c t, fieldP u.cs (vty (fnOf u (tp m)) (isOf u (tp m)).a) (isOf u (tp m)).m = some (c, t) := by
   rcases h with h | h
   ·obtain ⟨h1, c, t, h2, -⟩ := I.typ.load h; exact ⟨h1, c, t, h2⟩
   ·obtain ⟨h1, c, t, h2, -⟩ := I.typ.store h; exact ⟨h1, c, t, h2⟩
  obtain ⟨h1, c, t, h2⟩ := hc
  rcases ha with ⟨hk, -⟩ | ⟨hk, -⟩ | ⟨-, -, hr, hs⟩
  ·omega
  ·omega
  have hlen : (hcs m).length = m.hp.length := by simp [hcs]
  have hb : (rd u (tp m) (isOf u (tp m)).a).n.toNat < m.hp.length := by have := hr.1; have := hr.2.1; omega
  have hO := M.hp _ hb
  have hsl := slot_ok H.h hO (by unfold hcs at hs; rw [nth_mapO _ _ hb] at hs; exact hs) h2
  rcases h with h | h
  ·rw [if_pos h]
   obtain ⟨-, c', t', h2', hf⟩ := I.typ.load h
   rw [h2] at h2'
   obtain ⟨rfl, rfl⟩ : c = c' ∧ t = t' := by simpa using h2'
   have hv := (hO.sl _ hsl.1).2
   rw [hsl.2.1] at hv
   exact ⟨setV_ok H M R (by omega) (by omega) (by omega) (dst_ok H M R (by rw [h]; rfl) (by omega) (by omega)) (hv.fits H.h hf), pos_up R⟩
  ·rw [if_neg (by omega)]
   obtain ⟨-, c', t', h2', hf⟩ := I.typ.store h
   rw [h2] at h2'
   obtain ⟨rfl, rfl⟩ : c = c' ∧ t = t' := by simpa using h2'
   obtain ⟨b0, b1⟩ := I.rng.b (by show hasB (isOf u (tp m)).op 98 = true; rw [h]; rfl)
   have hv := (rd_ok (M.top R.pos) b1 b0).fits H.h hf
   have M2 := M.slot hb (k := slotOf m (rd u (tp m) (isOf u (tp m)).a) (isOf u (tp m)).m) (v := rd u (tp m) (isOf u (tp m)).b) (by
    show TV _ _ _ (nth (flds u.cs _) (slt _ _)).t _
    rw [hsl.2.1]; exact hv)
   obtain ⟨h4, h5⟩ := next_ok H M R (by omega) (by omega) (by omega)
   exact ⟨M2.upG R.pos ((M2.top R.pos).at h4 h5 rfl rfl rfl) rfl rfl, by show 0 < (m.fr.set _ _).length; rw [List.length_set]; exact R.pos⟩
theorem cpP_ok (h : (isOf u (tp m)).op = 1 ∨ (isOf u (tp m)).op = 2 ∨ (isOf u (tp m)).op = 3 ∨ (isOf u (tp m)).op = 4 ∨ (isOf u (tp m)).op = 5 ∨ (isOf u (tp m)).op = 6 ∨ (isOf u (tp m)).op = 16) : MT u (cpP u m (isOf u (tp m))) ∧ 0 < (cpP u m (isOf u (tp m))).fr.length := by
 have I := (M.top R.pos).iok H
 have hd : 0 ≤ (isOf u (tp m)).d := dst_ok H M R (by rcases h with h | h | h | h | h | h | h <;> rw [h] <;> rfl) (by omega) (by omega)
 refine ⟨?_, by unfold cpP setV up; rw [List.length_set]; unfold cpM; (split; exact R.pos; split <;> exact R.pos)⟩
 unfold cpP
 by_cases h6 : (isOf u (tp m)).op = 6
 ·obtain ⟨hc, hf⟩ := I.typ.new (.inl h6)
  have M2 := M.obj (o := newO u (isOf u (tp m)).c) (fun hc' => newO_ok hc) R.hl
  have e : cpM u m (isOf u (tp m)) = { m with hp := m.hp ++ [newO u (isOf u (tp m)).c] } := by unfold cpM; rw [if_neg (by omega), if_pos h6]
  have e2 : cpW u m (isOf u (tp m)) = ⟨3, (m.hp.length : Int), ((siU u.fs (tp m).f (tp m).i).length : Int)⟩ := by unfold cpW; rw [if_pos h6]
  rw [e, e2]
  obtain ⟨h4, h5⟩ := next_ok H M R (by omega) (by omega) (by omega)
  obtain ⟨s1, s2⟩ := site_ok (u := u) (M.top R.pos).f (M.top R.pos).i h6
  have hne : isC u.cs (isOf u (tp m)).c := hc
  have hnc : nth (hcs { m with hp := m.hp ++ [newO u (isOf u (tp m)).c] }) m.hp.length = (isOf u (tp m)).c := by
   unfold hcs
   rw [nth_mapO _ _ (by simp), nth_append, if_neg (by omega), Nat.sub_self]; rfl
  refine M2.upG R.pos ((M2.top R.pos).put h4 h5 rfl rfl hd rfl ?_) rfl rfl
  refine TV.fits H.h (f := (isOf u (tp m)).c) ?_ hf
  refine .inr (.inr ⟨rfl, fun e => H.h.notC (.inl e) hne, ⟨by show (0 : Int) ≤ (m.hp.length : Int); omega, ?_, by show (0 : Int) ≤ ((siU u.fs (tp m).f (tp m).i).length : Int); omega, by show ((siU u.fs (tp m).f (tp m).i).length : Int) < _; omega, ?_⟩, ?_⟩)
  ·show ((m.hp.length : Nat) : Int) < ((hcs _).length : Int)
   simp [hcs]; omega
  ·show nth (sts u) ((siU u.fs (tp m).f (tp m).i).length : Int).toNat = nth (hcs _) (m.hp.length : Int).toNat
   rw [Int.toNat_natCast, Int.toNat_natCast, hnc, s2]; rfl
  ·show _ ∈ sups u.cs (nth (hcs _) (m.hp.length : Int).toNat)
   rw [Int.toNat_natCast, hnc]; exact sups_self hne
 ·have key : TV u.cs (hcs m) (sts u) (vty (fnOf u (tp m)) (isOf u (tp m)).d) (cpW u m (isOf u (tp m))) := by
   unfold cpW cpV
   rw [if_neg h6]
   rcases h with h | h | h | h | h | h | h
   ·rw [if_pos h]; exact .inl ⟨rfl, I.typ.const (.inl h)⟩
   ·rw [if_neg (by omega), if_pos h]; exact .inr (.inl ⟨rfl, I.typ.null h⟩)
   ·rw [if_neg (by omega), if_neg (by omega), if_pos h]
    exact (a_ok H M R (by rw [h]; rfl) (by omega)).fits H.h (I.typ.copy h)
   ·rw [if_neg (by omega), if_neg (by omega), if_neg (by omega), if_neg (by omega), if_neg (by omega)]; exact .inl ⟨rfl, I.typ.bin h⟩
   ·rw [if_neg (by omega), if_neg (by omega), if_neg (by omega), if_neg (by omega), if_pos h]; exact .inl ⟨rfl, I.typ.const (.inr h)⟩
   ·exact absurd h h6
   ·rw [if_neg (by omega), if_neg (by omega), if_neg (by omega), if_pos h]; exact .inl ⟨rfl, (I.typ.shift h).2⟩
  by_cases h5 : (isOf u (tp m)).op = 5
  ·have e : cpM u m (isOf u (tp m)) = { m with inp := m.inp.tail } := by unfold cpM; rw [if_pos h5]
   rw [e]
   exact setV_ok (m := { m with inp := m.inp.tail }) H (M.inp _) ⟨R.pos, R.ob, R.f, R.i, R.hl, R.nl⟩ (by show (isOf u (tp m)).op ≠ _; omega) (by show (isOf u (tp m)).op ≠ _; omega) (by show (isOf u (tp m)).op ≠ _; omega) hd key
  ·have e : cpM u m (isOf u (tp m)) = m := by unfold cpM; rw [if_neg h5, if_neg h6]
   rw [e]
   exact setV_ok H M R (by omega) (by omega) (by omega) hd key
omit R in
theorem rsP_ok {e : Vl} (he : e.k = 3 ∧ RefK (hcs m) (sts u) e) : MT u (rsP u m e).1 ∧ ((rsP u m e).2 = 0 → 0 < (rsP u m e).1.fr.length) := by
 have key : ∀ k, k ≤ m.fr.length → MT u { m with fr := rsK u e m.fr k } := by
  intro k
  induction k with
  | zero => intro _; exact M.cut 0
  | succ k ih =>
    intro hk
    unfold rsK
    by_cases h : (isOf u (nth m.fr k)).ct ≠ -1
    ·rw [if_pos h]
     have M2 := M.cut (k + 1)
     have hg := M.fr k (by omega)
     obtain ⟨c0, c1, c2⟩ : 0 ≤ (isOf u (nth m.fr k)).ct ∧ (isOf u (nth m.fr k)).ct < (fnOf u (nth m.fr k)).cd.length ∧ (nth (fnOf u (nth m.fr k)).cd (isOf u (nth m.fr k)).ct.toNat).op = 15 := by
      rcases (hg.iok H).rng.ct with h1 | h1
      ·exact absurd h1 h
      ·exact h1
     have hl : (m.fr.take (k + 1)).length = k + 1 := by rw [List.length_take]; omega
     have e1 : tpN { m with fr := m.fr.take (k + 1) } = k := by show (m.fr.take (k + 1)).length - 1 = k; omega
     have e2 : tp { m with fr := m.fr.take (k + 1) } = nth m.fr k := by
      show nth (m.fr.take (k + 1)) (tpN _) = _
      rw [e1, nth_take _ _ _ (by omega)]
     have M3 := M2.upG (by show 0 < (m.fr.take (k + 1)).length; omega) (g := { nth m.fr k with i := (isOf u (nth m.fr k)).ct.toNat, ex := e }) ⟨hg.f, by show (isOf u (nth m.fr k)).ct.toNat < (fnOf u (nth m.fr k)).cd.length; omega, hg.len, hg.vs, fun _ => he⟩ (by rw [e2]) (by rw [e2])
     have e3 : up { m with fr := m.fr.take (k + 1) } { nth m.fr k with i := (isOf u (nth m.fr k)).ct.toNat, ex := e } = { m with fr := m.fr.take k ++ [{ nth m.fr k with i := (isOf u (nth m.fr k)).ct.toNat, ex := e }] } := by
      unfold up
      rw [e1]
      show Mch.mk _ _ _ _ _ = Mch.mk _ _ _ _ _
      congr 1
      show (m.fr.take (k + 1)).set k _ = _
      rw [take_snoc _ _ (by omega), List.set_append_right _ _ (by rw [List.length_take]; omega)]
      rw [List.length_take, show k - min k m.fr.length = 0 by omega]; rfl
     rw [e3] at M3; exact M3
    ·rw [if_neg h]; exact ih (by omega)
 refine ⟨key _ (Nat.le_refl _), fun h => ?_⟩
 unfold rsP at h ⊢
 by_cases h2 : rsK u e m.fr m.fr.length = []
 ·rw [if_pos h2] at h; cases h
 ·exact List.length_pos_iff.2 h2
theorem callP_ok (h : (isOf u (tp m)).op = 9 ∨ (isOf u (tp m)).op = 10) : MT u (callP u m (isOf u (tp m))).1 ∧ 0 < (callP u m (isOf u (tp m))).1.fr.length := by
 have I := (M.top R.pos).iok H
 have ht := M.top R.pos
 unfold callP
 by_cases h3 : (isOf u (tp m)).op = 9 ∧ (rd u (tp m) (isOf u (tp m)).a).k ≠ 3
 ·rw [if_pos h3]; exact ⟨M, R.pos⟩
 rw [if_neg h3]
 by_cases h64 : 64 ≤ m.fr.length
 ·rw [if_pos h64]; exact ⟨M, R.pos⟩
 rw [if_neg h64]
 have hl := I.rng.l (by show hasB (isOf u (tp m)).op 108 = true; rcases h with h | h <;> rw [h] <;> rfl)
 obtain ⟨fn, d, s, hfn, hflt, hfit, hsig, hmay, hhead⟩ : ∃ (fn : Nat) (d : ByteArray) (s : Sg), callee u m (isOf u (tp m)) = (fn : Int) ∧ fn < u.fs.length ∧ FitF (nth u.fs fn) d s ∧ Sig u.cs (fnOf u (tp m)) (isOf u (tp m)) s ∧ May u (isOf u (tp m)) fn ∧
   ((s.st = true ∧ (isOf u (tp m)).op = 10) ∨ (s.st = false ∧ (isOf u (tp m)).op = 9 ∧ TV u.cs (hcs m) (sts u) d (rd u (tp m) (isOf u (tp m)).a))) := by
  rcases h with h | h
  ·obtain ⟨h1, h2, c, s, h4, h5, h6⟩ := I.typ.call h
   have ha := a_ok H M R (by rw [h]; rfl) (by omega)
   have hk : (rd u (tp m) (isOf u (tp m)).a).k = 3 := by
    by_cases e : (rd u (tp m) (isOf u (tp m)).a).k = 3
    ·exact e
    ·exact absurd ⟨h, e⟩ h3
   rcases ha with ⟨hk1, -⟩ | ⟨hk1, -⟩ | ⟨-, -, hr, hs⟩
   ·omega
   ·omega
   have hlen : (hcs m).length = m.hp.length := by simp [hcs]
   have hb : (rd u (tp m) (isOf u (tp m)).a).n.toNat < m.hp.length := by have := hr.1; have := hr.2.1; omega
   have hcc : nth (hcs m) (rd u (tp m) (isOf u (tp m)).a).n.toNat = (nth m.hp (rd u (tp m) (isOf u (tp m)).a).n.toNat).c := by unfold hcs; rw [nth_mapO _ _ hb]
   have hs : vty (fnOf u (tp m)) (isOf u (tp m)).a ∈ sups u.cs (nth m.hp (rd u (tp m) (isOf u (tp m)).a).n.toNat).c := by rw [hcc] at hs; exact hs
   have h2 : vty (fnOf u (tp m)) (isOf u (tp m)).a = (isOf u (tp m)).c := h2
   rw [h2] at hs
   obtain ⟨c', s', k1, k2, k3⟩ := H.h.meth hs h4 h5
   obtain ⟨k4, k5⟩ := H.meth k1
   have hd : dsp u (nth m.hp (rd u (tp m) (isOf u (tp m)).a).n.toNat).c (isOf u (tp m)).m = (fu u.fs c' (isOf u (tp m)).m : Int) := by
    unfold dsp
    rw [k1]
    show (if s'.st = true then _ else _) = _
    rw [k2]
    show fuI _ _ _ = _
    unfold fuI; rw [if_pos k4]
   obtain ⟨m1, -, -⟩ := methL_mem k1
   have hcc' := (M.hp _ hb).c
   have hne : isC u.cs c' := sups_isC m1
   refine ⟨_, c', s', by unfold callee; rw [if_pos h, hd], k4, k5, ?_, .inr ⟨h, _, hcc', hs, hd⟩, .inr ⟨k2, h, ?_⟩⟩
   ·unfold Sig; rw [← k3.1, ← k3.2]; exact h6
   ·exact .inr (.inr ⟨hk, fun e => H.h.notC (.inl e) hne, hr, by rw [hcc]; exact m1⟩)
  ·obtain ⟨s, h4, h5, h6⟩ := I.typ.static h
   obtain ⟨k4, k5⟩ := H.meth h4
   have e : fuI u.fs (isOf u (tp m)).c (isOf u (tp m)).m = (fu u.fs (isOf u (tp m)).c (isOf u (tp m)).m : Int) := if_pos k4
   exact ⟨_, _, s, by unfold callee; rw [if_neg (by omega)]; exact e, k4, k5, h6, .inl ⟨h, e⟩, .inl ⟨h5, h⟩⟩
 have hw : Wt u (tp m) ⟨(fn : Int).toNat, 0, m.n, (m.ob.length : Int) - 1, pad (args u m (isOf u (tp m))) (nth u.fs (fn : Int).toNat).vs.length, default⟩ := by
  refine ⟨h, fun hd => ?_⟩
  have e : fnOf u ⟨(fn : Int).toNat, 0, m.n, (m.ob.length : Int) - 1, pad (args u m (isOf u (tp m))) (nth u.fs (fn : Int).toNat).vs.length, default⟩ = nth u.fs fn := by unfold fnOf; rw [Int.toNat_natCast]
  rw [e, hfit.fr]
  exact hsig.2.2 hd
 have hargs : ∀ j, j < (args u m (isOf u (tp m))).length → j < (nth u.fs fn).vs.length ∧ TV u.cs (hcs m) (sts u) (nth (nth u.fs fn).vs j).t (nth (args u m (isOf u (tp m))) j) := by
  have harg : ∀ i, i < (isOf u (tp m)).ar.length → TV u.cs (hcs m) (sts u) (nth s.ps i) (nth ((isOf u (tp m)).ar.map (rd u (tp m))) i) := fun i hi => by
   have e : nth ((isOf u (tp m)).ar.map (rd u (tp m))) i = rd u (tp m) (nth (isOf u (tp m)).ar i) := by
    rw [nth_eq _ _ (by rw [List.length_map]; exact hi), nth_eq _ _ hi, List.getElem_map]
   rw [e]
   obtain ⟨h0, h1⟩ := hl _ (nth_mem _ _ hi)
   exact (rd_ok ht h1 h0).fits H.h (hsig.2.1 i hi)
  intro j hj
  unfold args at hj ⊢
  rcases hhead with ⟨hst, hop⟩ | ⟨hst, hop, hv⟩
  ·rw [if_neg (by omega), List.nil_append] at hj ⊢
   rw [List.length_map] at hj
   have h1 := hfit.ps j (by rw [hsig.1]; exact hj)
   rw [hst] at h1
   have h1 : j < (nth u.fs fn).vs.length ∧ (nth (nth u.fs fn).vs j).t = nth s.ps j := h1
   exact ⟨h1.1, by rw [h1.2]; exact harg j hj⟩
  ·rw [if_pos hop] at hj ⊢
   cases j with
   | zero =>
     have h1 := hfit.this hst
     refine ⟨h1.1, ?_⟩
     rw [h1.2]; exact hv
   | succ j =>
     have hj : j < (isOf u (tp m)).ar.length := by simpa using hj
     have h1 := hfit.ps j (by rw [hsig.1]; exact hj)
     rw [hst] at h1
     have h1 : j + 1 < (nth u.fs fn).vs.length ∧ (nth (nth u.fs fn).vs (j + 1)).t = nth s.ps j := h1
     refine ⟨h1.1, ?_⟩
     rw [h1.2]; exact harg j hj
 have hal : (args u m (isOf u (tp m))).length ≤ (nth u.fs fn).vs.length := by
  by_cases e : (args u m (isOf u (tp m))).length = 0
  ·omega
  ·have := (hargs ((args u m (isOf u (tp m))).length - 1) (by omega)).1; omega
 have hpl : (pad (args u m (isOf u (tp m))) (nth u.fs fn).vs.length).length = (nth u.fs fn).vs.length := by unfold pad; simp; omega
 have hfr : FrT u (hcs m) ⟨(fn : Int).toNat, 0, m.n, (m.ob.length : Int) - 1, pad (args u m (isOf u (tp m))) (nth u.fs (fn : Int).toNat).vs.length, default⟩ := by
  rw [Int.toNat_natCast]
  refine ⟨hflt, (H.fn fn hflt).pos, hpl, fun j hj => ?_, fun h15 => ?_⟩
  ·show TU _ _ _ (nth (nth u.fs fn).vs j).t (nth (pad _ _) j)
   unfold pad
   rw [nth_append]
   by_cases e : j < (args u m (isOf u (tp m))).length
   ·rw [if_pos e]; exact .inr (hargs j e).2
   ·rw [if_neg e]
    left
    unfold nth
    rw [List.getD_eq_getElem?_getD, List.getElem?_replicate]
    split <;> rfl
  ·exact absurd h15 (((H.fn fn hflt).ins 0 (H.fn fn hflt).pos).stay.top rfl)
 have hck : CallK u m.ob ((m.ob.length : Int) - 1) (fn : Int).toNat := by
  have h1 := R.ob
  refine .inr ⟨by omega, by omega, ?_⟩
  rw [Int.toNat_natCast, show ((m.ob.length : Int) - 1).toNat = m.ob.length - 1 by omega, R.f, R.i, Int.toNat_natCast, Int.toNat_natCast]
  exact hmay
 rw [hfn]
 have := M.push R.pos (by omega) hfr hw hck R.nl
 exact ⟨this, by show 0 < (m.fr ++ [_]).length; simp⟩
theorem retP_ok (h : (isOf u (tp m)).op = 13) : MT u (retP u m (isOf u (tp m))).1 ∧ ((retP u m (isOf u (tp m))).2 = 0 → 0 < (retP u m (isOf u (tp m))).1.fr.length) := by
 have I := (M.top R.pos).iok H
 have hp := R.pos
 unfold retP
 have M2 := M.cut (m.fr.length - 1)
 by_cases h1 : m.fr.length = 1
 ·rw [if_pos h1]; exact ⟨M2, fun h => by cases h⟩
 rw [if_neg h1]
 have hlen : (m.fr.take (m.fr.length - 1)).length = m.fr.length - 1 := by rw [List.length_take]; omega
 have e1 : tpN (popM m) = m.fr.length - 2 := by show (m.fr.take (m.fr.length - 1)).length - 1 = _; omega
 have e2 : tp (popM m) = nth m.fr (m.fr.length - 2) := by
  show nth (m.fr.take (m.fr.length - 1)) (tpN (popM m)) = _
  rw [e1, nth_take _ _ _ (by omega)]
 have hg := M.fr (m.fr.length - 2) (by omega)
 have hw := M.wt (m.fr.length - 2) (by omega)
 rw [show m.fr.length - 2 + 1 = m.fr.length - 1 by omega] at hw
 have htp : nth m.fr (m.fr.length - 1) = tp m := rfl
 rw [htp] at hw
 rw [e2]
 have hI := hg.iok H
 have hst := hI.stay.next (by show (isOf u _).op ≠ 12; have := hw.op; omega) (by show (isOf u _).op ≠ 13; have := hw.op; omega) (by show (isOf u _).op ≠ 14; have := hw.op; omega)
 have hR : FrT u (hcs m) (retG u (nth m.fr (m.fr.length - 2)) (retV u m (isOf u (tp m)))) := by
  by_cases hd : (isOf u (nth m.fr (m.fr.length - 2))).d ≠ -1
  ·have hd0 : 0 ≤ (isOf u (nth m.fr (m.fr.length - 2))).d := by
    rcases hI.rng.d (by show hasB (isOf u _).op 100 = true; rcases hw.op with h | h <;> rw [h] <;> rfl) with h | ⟨-, h⟩
    ·exact h.1
    ·exact absurd h hd
   obtain ⟨hr1, hr2⟩ := hw.r hd
   have hr3 := I.typ.ret h
   have ha : (isOf u (tp m)).a ≠ -1 := fun e => hr1 (hr3.1.1 e)
   have hv : TV u.cs (hcs m) (sts u) (vty (fnOf u (nth m.fr (m.fr.length - 2))) (isOf u (nth m.fr (m.fr.length - 2))).d) (retV u m (isOf u (tp m))) := by
    unfold retV
    rw [if_pos ha]
    rcases I.rng.a (by show hasB (isOf u (tp m)).op 97 = true; rw [h]; rfl) with h4 | ⟨-, h4⟩
    ·exact ((rd_ok (M.top R.pos) h4.2 h4.1).fits H.h (hr3.2 ha)).fits H.h hr2
    ·exact absurd h4 ha
   exact hg.put hst.1 hst.2 rfl rfl hd0 (by unfold retG; rw [if_pos hd]) hv
  ·exact hg.at hst.1 hst.2 rfl rfl (by unfold retG; rw [if_neg hd])
 have M3 : MT u (popM m) := M2
 refine ⟨M3.upG (by show 0 < (m.fr.take (m.fr.length - 1)).length; omega) hR (by rw [e2]; rfl) (by rw [e2]; rfl), fun _ => ?_⟩
 show 0 < ((m.fr.take (m.fr.length - 1)).set _ _).length
 rw [List.length_set]; omega
theorem step_ok : MT u (stepP u m).1 ∧ ((stepP u m).2 = 0 → 0 < (stepP u m).1.fr.length) := by
 have I := (M.top R.pos).iok H
 have ht := M.top R.pos
 have hop : 0 ≤ (isOf u (tp m)).op ∧ (isOf u (tp m)).op ≤ 16 := I.op
 unfold stepP
 dsimp only
 by_cases h0 : (isOf u (tp m)).op = 0
 ·rw [if_pos h0]
  obtain ⟨h4, h5⟩ := next_ok H M R (by omega) (by omega) (by omega)
  exact ⟨goN_ok M R h4 h5, fun _ => pos_up R⟩
 rw [if_neg h0]
 have hgo : (isOf u (tp m)).op = 11 ∨ (isOf u (tp m)).op = 12 → MT u (goN m (isOf u (tp m)).g.toNat) := fun h => by
  have hb : hasB (isOf u (tp m)).op 103 = true := by rcases h with h | h <;> rw [h] <;> rfl
  obtain ⟨g0, g1⟩ := I.rng.g hb
  exact goN_ok M R (by unfold isOf; unfold isOf at h hb; have g1 : (nth (fnOf u (tp m)).cd (tp m).i).g < ((fnOf u (tp m)).cd.length : Int) := g1; have g0 : 0 ≤ (nth (fnOf u (tp m)).cd (tp m).i).g := g0; omega) (I.stay.tgt hb)
 by_cases h11 : (isOf u (tp m)).op = 11
 ·rw [if_pos h11]
  by_cases hb : (rd u (tp m) (isOf u (tp m)).a).n ≠ 0
  ·rw [if_pos hb]; exact ⟨hgo (.inl h11), fun _ => pos_up R⟩
  ·rw [if_neg hb]
   obtain ⟨h4, h5⟩ := next_ok H M R (by omega) (by omega) (by omega)
   exact ⟨goN_ok M R h4 h5, fun _ => pos_up R⟩
 rw [if_neg h11]
 by_cases h12 : (isOf u (tp m)).op = 12
 ·rw [if_pos h12]; exact ⟨hgo (.inr h12), fun _ => pos_up R⟩
 rw [if_neg h12]
 by_cases h78 : (isOf u (tp m)).op = 7 ∨ (isOf u (tp m)).op = 8
 ·rw [if_pos h78]; have := memP_ok H M R h78; exact ⟨this.1, fun _ => this.2⟩
 rw [if_neg h78]
 by_cases h9 : (isOf u (tp m)).op = 9 ∨ (isOf u (tp m)).op = 10
 ·rw [if_pos h9]; have := callP_ok H M R h9; exact ⟨this.1, fun _ => this.2⟩
 rw [if_neg h9]
 by_cases h13 : (isOf u (tp m)).op = 13
 ·rw [if_pos h13]; exact retP_ok H M R h13
 rw [if_neg h13]
 by_cases h14 : (isOf u (tp m)).op = 14
 ·rw [if_pos h14]
  have ha := a_ok H M R (by rw [h14]; rfl) (by omega)
  unfold thrP
  by_cases h3 : (rd u (tp m) (isOf u (tp m)).a).k ≠ 3
  ·rw [if_pos h3]; exact ⟨M, fun _ => R.pos⟩
  ·rw [if_neg h3]
   rcases ha with ⟨hk, -⟩ | ⟨hk, -⟩ | ⟨hk, -, hr, -⟩
   ·omega
   ·omega
   ·exact rsP_ok H M ⟨hk, hr⟩
 rw [if_neg h14]
 by_cases h15 : (isOf u (tp m)).op = 15
 ·rw [if_pos h15]
  have he := ht.ex h15
  unfold catP
  by_cases hc : (isOf u (tp m)).c ∈ sups u.cs (nth m.hp (tp m).ex.n.toNat).c
  ·rw [if_pos hc]
   obtain ⟨hcl, hf⟩ := I.typ.new (.inr h15)
   have hlen : (hcs m).length = m.hp.length := by simp [hcs]
   have hcc : nth (hcs m) (tp m).ex.n.toNat = (nth m.hp (tp m).ex.n.toNat).c := by unfold hcs; rw [nth_mapO _ _ (by have := he.2.1; have := he.2.2.1; omega)]
   have hv : TV u.cs (hcs m) (sts u) (isOf u (tp m)).c (tp m).ex := .inr (.inr ⟨he.1, fun e => H.h.notC (.inl e) hcl, he.2, by rw [hcc]; exact hc⟩)
   exact ⟨setV_ok H M R (by omega) (by omega) (by omega) (dst_ok H M R (by rw [h15]; rfl) (by omega) (by omega)) (hv.fits H.h hf), fun _ => pos_up R⟩
  ·rw [if_neg hc]; exact rsP_ok H M he
 rw [if_neg h15]
 have := cpP_ok H M R (by omega)
 exact ⟨this.1, fun _ => this.2⟩
end
end Go.Hir
end
