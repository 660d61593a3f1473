/- Contract of the reference's Check. -/
import Derived.Test.YtkfhopnolflchaaRfb
namespace Go.Proofs.Ytkfhopnolflchaa
open Go.RowKit Go.Dfl Go.And

/-- What is read in a round of Check. -/
def CkIn (bw b o : Nat) (s : Sy) (cv : Value) (c : R) (sv : Value) (W : World) : Prop :=
  BoxS W bw s cv ∧ W.cell? ⟨b, o, none⟩ = some (.int .i64 c.k) ∧ W.cell? ⟨b, o + 1, none⟩ = some (.int .i64 c.a) ∧ W.cell? ⟨b, o + 2, none⟩ = some (.int .i64 c.b) ∧ W.cell? ⟨b, o + 3, none⟩ = some (.int .i64 c.f) ∧ W.cell? ⟨b, o + 4, none⟩ = some sv
theorem CkIn.grown {bw b o : Nat} {s : Sy} {cv : Value} {c : R} {sv : Value} {W W' : World} (h : CkIn bw b o s cv c sv W) (hg : W.grownBy W' none) : CkIn bw b o s cv c sv W' :=
  ⟨h.1.grown hg (by simp), hg.cell h.2.1 (by simp), hg.cell h.2.2.1 (by simp), hg.cell h.2.2.2.1 (by simp), hg.cell h.2.2.2.2.1 (by simp), hg.cell h.2.2.2.2.2 (by simp)⟩

set_option maxHeartbeats 3200000 in
theorem rCheck_any (s : Sy) (cv : Value) (W : World) (hc : ConsIn W cv s.cons) (hs : Sm s) :
    Calls Try.prog 36 #[SysV s cv] W fun e W' => e = .returned (.int .i64 (chkCode s)) ∧ Below W.heap.size W W' := by
  obtain ⟨ca, cc, rfl, hlen, hci, hcc⟩ := hc.out
  have HC := Lib.hid (And.intro hcc hc)
  have b1 := hs.vars
  have b2 := hs.sites
  have b3 := hs.fields
  have b4 := hs.cons
  clear hcc hc hs
  unfold SysV
  by_cases h1 : s.vars < 0
  · go_enter Try.func36, Try.ntmps36
    go_wp2_with fail
    go_ret
    exact ⟨ret_int (by unfold chkCode; rw [if_pos (by omega)]), (Below.refl _ _).alloc (Nat.le_refl _) _⟩
  by_cases h2 : s.sites < 0
  · go_enter Try.func36, Try.ntmps36
    go_wp2_with fail
    go_ret
    exact ⟨ret_int (by unfold chkCode; rw [if_pos (by omega)]), (Below.refl _ _).alloc (Nat.le_refl _) _⟩
  by_cases h3 : s.fields < 0
  · go_enter Try.func36, Try.ntmps36
    go_wp2_with fail
    go_ret
    exact ⟨ret_int (by unfold chkCode; rw [if_pos (by omega)]), (Below.refl _ _).alloc (Nat.le_refl _) _⟩
  have hm0 : 0 ≤ s.sites * s.fields := Int.mul_nonneg (by omega) (by omega)
  have hm1 : s.sites * s.fields ≤ 60 := by
    have h : s.sites * s.fields ≤ 12 * 5 := Int.mul_le_mul (by omega) (by omega) (by omega) (by omega)
    omega
  have hcode : chkCode s = fromCode s 0 := by unfold chkCode fromCode; rw [if_neg (by omega)]; rfl
  have HK := Lib.hid hcode
  clear hcode
  go_enter Try.func36, Try.ntmps36
  go_wp2_with fail
  refine wp_gen (fun Z => BoxS Z W.heap.size s (.slice ca s.cons.length cc) ∧ Below W.heap.size W Z) ⟨BoxS.new _ _ _ _, (Below.refl _ _).alloc (Nat.le_refl _) _⟩ ?_
  rintro W1 h5
  obtain ⟨bw, hbw⟩ : ∃ bw, bw = W.heap.size := ⟨_, rfl⟩
  rw [← hbw] at h5 ⊢
  have H5 := Lib.hid h5
  have Hbw := Lib.hid hbw
  clear h5 hbw hm0 hm1 h1 h2 h3
  go_loopw [3, 4] (fun x _ wr => ∃ k : Nat, k ≤ s.cons.length ∧ x = .int .i64 k ∧ Hid (BoxS wr bw s (.slice ca s.cons.length cc) ∧ Below bw W wr ∧ chkCode s = fromCode s k)) (fun x _ _ => s.cons.length - (intOf x).toNat)
  case atStart => exact ⟨0, by omega, rfl, H5.out.1, H5.out.2, HK.out⟩
  case round =>
    obtain ⟨k, hk, rfl, hh⟩ := hrel
    by_cases hlt : k < s.cons.length
    · obtain ⟨sa, sn, sc, c0, c1, c2, c3, c4, hset, hbl⟩ := HC.out.1 k hlt
      have hbel := hh.out.2.1
      have hbl' : blk ca < bw := by rw [Hbw.out]; exact hbl
      rw [← hbel.cell (p := ⟨blk ca, ofs ca + k * 5, none⟩) hbl'] at c0
      rw [← hbel.cell (p := ⟨blk ca, ofs ca + k * 5 + 1, none⟩) hbl'] at c1
      rw [← hbel.cell (p := ⟨blk ca, ofs ca + k * 5 + 2, none⟩) hbl'] at c2
      rw [← hbel.cell (p := ⟨blk ca, ofs ca + k * 5 + 3, none⟩) hbl'] at c3
      rw [← hbel.cell (p := ⟨blk ca, ofs ca + k * 5 + 4, none⟩) hbl'] at c4
      obtain ⟨d0, d1, d2, d3⟩ := hh.out.1
      have hstep := fromCode_step hlt
      have hwr : W.heap.size ≤ wr.heap.size := by rw [← Hbw.out]; exact Nat.le_trans (by rw [Hbw.out]; exact Nat.le_refl _) hbel.size
      have hset' : Ints wr (.slice sa sn sc) (nth s.cons k).s := hset.below (by rw [← Hbw.out]; exact hbel)
      have hbwl : bw < wr.heap.size := World.block_lt_of_cell? wr _ d0
      have n1 : bw ≠ wr.heap.size := by omega
      have HS := Lib.hid (And.intro hstep (And.intro hset' (And.intro hbel (And.intro hh.out.2.2 hh.out.1))))
      clear hstep hset' hbel hset hbl hbl' hh
      generalize nth s.cons k = c at *
      have hck : CkIn bw (blk ca) (ofs ca + k * 5) s (.slice ca s.cons.length cc) c (.slice sa sn sc) wr := ⟨⟨d0, d1, d2, d3⟩, c0, c1, c2, c3, c4⟩
      have HCK := Lib.hid hck
      clear hck d0 d1 d2 c0 c1 c2 c3 c4
      go_wp2_with fail
      refine wp_region_mix [0, 1, 2, 3, 4, 5] [6, 7] (fun w' => CkIn bw (blk ca) (ofs ca + k * 5) s (.slice ca s.cons.length cc) c (.slice sa sn sc) w') (by kernel_rfl) (by kernel_rfl) (by kernel_rfl) (HCK.out.grown (grownBy_drew0 _)) ?_
      repeat (
        refine wpHeads_cons (v := ?_) rfl (Or.inl ⟨by rfl, ?_⟩) ?_
        rotate_left
        · (intro W hW; obtain ⟨⟨q1, q2, q3, q4⟩, q5, q6, q7, q8, q9⟩ := hW; go_simp; try with_reducible rfl)
        simp only [Act.put, List.setIfInBounds_toArray])
      refine wpHeads_nil ?_
      refine wpTails_cons rfl ?_
      go_wp2_with fail
      refine (rCon_any s (.slice ca s.cons.length cc) c (.slice sa sn sc) _ (HS.out.2.1.grown (grownBy_drew0 _) (by simp))).mono ?_
      rintro e W7 ⟨rfl, q7⟩
      have g7 := grownBy_trans (grownBy_drew0 wr) (grownBy_below q7)
      have bx7 := HS.out.2.2.2.2.grown g7 (by simp)
      have be7 := HS.out.2.2.1.grown g7 (by omega) (by simp)
      have H7 := Lib.hid (And.intro bx7 be7)
      have HCK7 := Lib.hid (HCK.out.grown g7)
      clear bx7 be7 g7 q7 d3
      go_wp2_with fail
      refine tail_mk HCK7.out ?_
      refine wpTails_one rfl ?_
      go_wp2_with fail
      refine thenQ_mk ?_
      by_cases h0 : conCode s c = 0
      · have hz : ((0 : Int) != 0) = false := rfl
        rw [h0]
        have hst := HS.out.1
        rw [if_pos h0] at hst
        have HT := Lib.hid hst
        clear hst h0
        go_wp2_with fail
        go_roundw
        case rel => exact ⟨k + 1, by omega, by go_num, H7.out.1, H7.out.2, by rw [HS.out.2.2.2.1, HT.out]⟩
        case measure => simp [intOf]; omega
      · have hst := HS.out.1
        rw [if_neg h0] at hst
        have HT := Lib.hid hst
        have hz : (conCode s c != 0) = true := by simpa using h0
        clear hst
        generalize conCode s c = code at *
        go_wp2_with fail
        go_ret
        exact ⟨ret_int (by rw [HS.out.2.2.2.1, HT.out]), by rw [← Hbw.out]; exact H7.out.2⟩
    · obtain rfl : k = s.cons.length := by omega
      have HE := Lib.hid hh.out
      clear hh
      obtain ⟨d0, d1, d2, d3⟩ := HE.out.1
      go_wp2_with fail
      go_ret
      exact ⟨ret_int (by rw [HE.out.2.2, fromCode_end]), by rw [← Hbw.out]; exact HE.out.2.1⟩
end Go.Proofs.Ytkfhopnolflchaa
