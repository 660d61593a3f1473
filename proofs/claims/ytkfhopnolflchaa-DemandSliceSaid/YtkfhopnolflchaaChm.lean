/- Contract of Check. -/
import Derived.Test.YtkfhopnolflchaaChl
namespace Go.Proofs.Ytkfhopnolflchaa
open Go.RowKit Go.Dfl Go.And

/-- The block of a system that was handed over. -/
def BoxS (W : World) (bw : Nat) (s : Sy) (cv : Value) : Prop :=
  W.cell? ⟨bw, 0, none⟩ = some (.int .i64 s.vars) ∧ W.cell? ⟨bw, 1, none⟩ = some (.int .i64 s.sites) ∧ W.cell? ⟨bw, 2, none⟩ = some (.int .i64 s.fields) ∧ W.cell? ⟨bw, 3, none⟩ = some cv
theorem BoxS.new (W : World) (s : Sy) (cv : Value) (t : TypeId) : BoxS (W.alloc (.cells #[.int .i64 s.vars, .int .i64 s.sites, .int .i64 s.fields, cv] t)) W.heap.size s cv := by
  have hc := cells_new (W := W) (cs := [.int .i64 s.vars, .int .i64 s.sites, .int .i64 s.fields, cv]) (t := t) rfl
  exact ⟨hc 0 _ rfl, hc 1 _ rfl, hc 2 _ rfl, hc 3 _ rfl⟩
theorem BoxS.grown {W W' : World} {bw : Nat} {s : Sy} {cv : Value} {row : Option Nat} (h : BoxS W bw s cv) (hg : W.grownBy W' row) (hne : some bw ≠ row) : BoxS W' bw s cv :=
  ⟨hg.cell h.1 hne, hg.cell h.2.1 hne, hg.cell h.2.2.1 hne, hg.cell h.2.2.2 hne⟩

set_option maxHeartbeats 3200000 in
theorem Check_any (s : Sy) (cv : Value) (W : World) (hc : ConsIn W cv s.cons) (hs : Sm s) :
    Calls Try.prog 22 #[SysV s cv] W fun e W' => e = .returned (.int .i64 (chkCode s)) ∧ Below W.heap.size W W' := by
  obtain ⟨ca, cc, rfl, hlen, hci, hcc⟩ := hc.out
  have HC := Lib.hid (And.intro hcc hc)
  have b1 := hs.vars
  have b2 := hs.sites
  have b3 := hs.fields
  have b4 := hs.cons
  clear hcc hc hs
  unfold SysV
  by_cases h1 : s.vars < 0
  · go_enter Try.func22, Try.ntmps22
    go_wp2_with fail
    go_ret
    exact ⟨ret_int (by unfold chkCode; rw [if_pos (by omega)]), (Below.refl _ _).alloc (Nat.le_refl _) _⟩
  by_cases h2 : s.sites < 0
  · go_enter Try.func22, Try.ntmps22
    go_wp2_with fail
    go_ret
    exact ⟨ret_int (by unfold chkCode; rw [if_pos (by omega)]), (Below.refl _ _).alloc (Nat.le_refl _) _⟩
  by_cases h3 : s.fields < 0
  · go_enter Try.func22, Try.ntmps22
    go_wp2_with fail
    go_ret
    exact ⟨ret_int (by unfold chkCode; rw [if_pos (by omega)]), (Below.refl _ _).alloc (Nat.le_refl _) _⟩
  have hm0 : 0 ≤ s.sites * s.fields := Int.mul_nonneg (by omega) (by omega)
  have hm1 : s.sites * s.fields ≤ 60 := by
    have h : s.sites * s.fields ≤ 12 * 5 := Int.mul_le_mul (by omega) (by omega) (by omega) (by omega)
    omega
  have hcode : chkCode s = fromCode s 0 := by unfold chkCode fromCode; rw [if_neg (by omega)]; rfl
  have HK := Lib.hid hcode
  clear hcode
  go_enter Try.func22, Try.ntmps22
  go_wp2_with fail
  refine wp_gen (fun Z => BoxS Z W.heap.size s (.slice ca s.cons.length cc) ∧ Below W.heap.size W Z) ⟨BoxS.new _ _ _ _, (Below.refl _ _).alloc (Nat.le_refl _) _⟩ ?_
  rintro W1 h5
  obtain ⟨bw, hbw⟩ : ∃ bw, bw = W.heap.size := ⟨_, rfl⟩
  rw [← hbw] at h5 ⊢
  have H5 := Lib.hid h5
  have Hbw := Lib.hid hbw
  clear h5 hbw hm0 hm1 h1 h2 h3
  go_loopw [4, 5, 49] (fun _ _ x wr => ∃ k : Nat, k ≤ s.cons.length ∧ x = .int .i64 k ∧ Hid (BoxS wr bw s (.slice ca s.cons.length cc) ∧ Below bw W wr ∧ chkCode s = fromCode s k)) (fun _ _ x _ => s.cons.length - (intOf x).toNat)
  case atStart => exact ⟨0, by omega, rfl, H5.out.1, H5.out.2, HK.out⟩
  case round =>
    obtain ⟨k, hk, rfl, hh⟩ := hrel
    by_cases hlt : k < s.cons.length
    · obtain ⟨sa, sn, sc, c0, c1, c2, c3, c4, hset, hbl⟩ := HC.out.1 k hlt
      have hbel := hh.out.2.1
      have hbl' : blk ca < bw := by rw [Hbw.out]; exact hbl
      rw [← hbel.cell (p := ⟨blk ca, ofs ca + k * 5, none⟩) hbl'] at c0
      rw [← hbel.cell (p := ⟨blk ca, ofs ca + k * 5 + 1, none⟩) hbl'] at c1
      rw [← hbel.cell (p := ⟨blk ca, ofs ca + k * 5 + 2, none⟩) hbl'] at c2
      rw [← hbel.cell (p := ⟨blk ca, ofs ca + k * 5 + 3, none⟩) hbl'] at c3
      rw [← hbel.cell (p := ⟨blk ca, ofs ca + k * 5 + 4, none⟩) hbl'] at c4
      obtain ⟨d0, d1, d2, d3⟩ := hh.out.1
      have hstep := fromCode_step hlt
      have hwr : W.heap.size ≤ wr.heap.size := by rw [← Hbw.out]; exact Nat.le_trans (by rw [Hbw.out]; exact Nat.le_refl _) hbel.size
      have hset' : Ints wr (.slice sa sn sc) (nth s.cons k).s := hset.below (by rw [← Hbw.out]; exact hbel)
      have hbwl : bw < wr.heap.size := World.block_lt_of_cell? wr _ d0
      have n1 : bw ≠ wr.heap.size := by omega
      have HS := Lib.hid (And.intro hstep (And.intro hset' (And.intro hbel (And.intro hh.out.2.2 hh.out.1))))
      clear hstep hset' hbel hset hbl hbl' hh
      generalize nth s.cons k = c at *
      have hg9 := grownBy_alloc wr (.cells #[.int .i64 c.k, .int .i64 c.a, .int .i64 c.b, .int .i64 c.f, .slice sa sn sc] 37)
      have HG := Lib.hid hg9
      clear hg9
      go_wp2_with fail
      refine (check_any s (.slice ca s.cons.length cc) c (.slice sa sn sc) _ (HS.out.2.1.grown HG.out (by simp))).mono ?_
      rintro e W7 ⟨rfl, q7⟩
      have g7 := grownBy_trans HG.out (grownBy_below q7)
      have bx7 := HS.out.2.2.2.2.grown g7 (by simp)
      have be7 := HS.out.2.2.1.grown g7 (by omega) (by simp)
      have H7 := Lib.hid (And.intro bx7 be7)
      clear bx7 be7 g7 q7 d0 d1 d2 d3 c0 c1 c2 c3 c4
      by_cases h0 : conCode s c = 0
      · have hz : ((0 : Int) != 0) = false := rfl
        rw [h0]
        have hst := HS.out.1
        rw [if_pos h0] at hst
        have HT := Lib.hid hst
        clear hst h0
        go_wp2_with fail
        go_roundw
        case rel => exact ⟨k + 1, by omega, by go_num, H7.out.1, H7.out.2, by rw [HS.out.2.2.2.1, HT.out]⟩
        case measure => simp [intOf]; omega
      · have hst := HS.out.1
        rw [if_neg h0] at hst
        have HT := Lib.hid hst
        have hz : (conCode s c != 0) = true := by simpa using h0
        clear hst
        generalize conCode s c = code at *
        go_wp2_with fail
        go_ret
        exact ⟨ret_int (by rw [HS.out.2.2.2.1, HT.out]), by rw [← Hbw.out]; exact H7.out.2⟩
    · obtain rfl : k = s.cons.length := by omega
      have HE := Lib.hid hh.out
      clear hh
      go_wp2_with fail
      go_ret
      exact ⟨ret_int (by rw [HE.out.2.2, fromCode_end]), by rw [← Hbw.out]; exact HE.out.2.1⟩
end Go.Proofs.Ytkfhopnolflchaa
