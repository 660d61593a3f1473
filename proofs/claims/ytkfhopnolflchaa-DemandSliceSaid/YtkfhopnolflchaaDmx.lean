/- Contract of Slice. -/
import Derived.Test.YtkfhopnolflchaaDmq
namespace Go.Proofs.Ytkfhopnolflchaa
open Go.RowKit Go.Dfl Go.And

def ZQ (W : World) (b : Nat) : Prop := W.heap[b]? = some (.cells #[.int .i64 0, .int .i64 0, .int .i64 0, .slice none 0 0] 24)
theorem ZQ.below {W W' : World} {b : Nat} (h : ZQ W b) (hb : Below W.heap.size W W') : ZQ W' b := (hb.block b (Array.getElem?_eq_some_iff.1 h).1).trans h
theorem ZQ.rd {W : World} {b : Nat} (h : ZQ W b) : (W.cell? ⟨b, 0, none⟩ = some (.int .i64 0) ∧ W.cell? ⟨b, 1, none⟩ = some (.int .i64 0) ∧ W.cell? ⟨b, 2, none⟩ = some (.int .i64 0) ∧ W.cell? ⟨b, 3, none⟩ = some (.slice none 0 0)) ∧ ∀ j, W.frozen? ⟨b, j, none⟩ = false := by
  have h' : W.heap[b]? = some (.cells #[.int .i64 0, .int .i64 0, .int .i64 0, .slice none 0 0] 24) := h
  exact ⟨⟨by simp [World.cell?, h'], by simp [World.cell?, h'], by simp [World.cell?, h'], by simp [World.cell?, h']⟩, fun j => by simp [World.frozen?, h']⟩
theorem below4 {B : Nat} {W Z : World} (h : Below B W Z) {b : Nat} (hb : B ≤ b) (x y z t : Value) : Below B W ((((Z.setCell ⟨b, 0, none⟩ x).setCell ⟨b, 1, none⟩ y).setCell ⟨b, 2, none⟩ z).setCell ⟨b, 3, none⟩ t) :=
  (((h.setCell (show B ≤ (⟨b, 0, none⟩ : Addr).block from hb) _).setCell (show B ≤ (⟨b, 1, none⟩ : Addr).block from hb) _).setCell (show B ≤ (⟨b, 2, none⟩ : Addr).block from hb) _).setCell (show B ≤ (⟨b, 3, none⟩ : Addr).block from hb) _
theorem grown4 (Z : World) (b : Nat) (x y z t : Value) : Z.grownBy ((((Z.setCell ⟨b, 0, none⟩ x).setCell ⟨b, 1, none⟩ y).setCell ⟨b, 2, none⟩ z).setCell ⟨b, 3, none⟩ t) (some b) :=
  grownBy_trans (grownBy_trans (grownBy_trans (grownBy_setCell Z ⟨b, 0, none⟩ x) (grownBy_setCell _ ⟨b, 1, none⟩ y)) (grownBy_setCell _ ⟨b, 2, none⟩ z)) (grownBy_setCell _ ⟨b, 3, none⟩ t)
set_option maxHeartbeats 6400000 in
set_option maxRecDepth 100000 in
theorem Slice_any (s : Sy) (cv : Value) (v : Int) (W : World) (hc : ConsIn W cv s.cons) (hs : Sm s) : Calls Try.prog 14 #[SysV s cv, .int .i64 v] W (SliceR s v W) := by
  obtain ⟨ca, cc, rfl, -⟩ := hc.out
  have HC := Lib.hid (And.intro hc hs)
  clear hc hs
  unfold SysV
  go_enter Try.func14, Try.ntmps14
  go_wp2_with fail
  refine calls_gen (fun Z => SysB W.heap.size s (.slice ca s.cons.length cc) Z ∧ ZQ Z (W.heap.size + 1) ∧ Below W.heap.size W Z) ⟨(SysB.new HC.out.1 24).below ((Below.refl _ _).alloc (Nat.le_refl _) _), ?_, below2' _ _ _⟩ ?_
  · have := heap_alloc_new (W.alloc (.cells #[.int .i64 s.vars, .int .i64 s.sites, .int .i64 s.fields, .slice ca s.cons.length cc] 24)) (.cells #[.int .i64 0, .int .i64 0, .int .i64 0, .slice none 0 0] 24)
    rw [World.size_alloc] at this
    exact this
  rintro Z0 h0
  obtain ⟨bs, hbs⟩ : ∃ bs, bs = W.heap.size := ⟨_, rfl⟩
  obtain ⟨br, hbr⟩ : ∃ br, br = W.heap.size + 1 := ⟨_, rfl⟩
  have H0 : Hid (SysB bs s (.slice ca s.cons.length cc) Z0 ∧ ZQ Z0 br ∧ Below W.heap.size W Z0) := by rw [hbs, hbr]; exact h0
  rw [← hbr, ← hbs]
  have HBR : Hid (W.heap.size ≤ br) := Lib.hid (by omega)
  have HNE : Hid (some bs ≠ some br) := Lib.hid (by simp; omega)
  clear h0 hbs hbr
  refine (Check_any s (.slice ca s.cons.length cc) _ H0.out.1.cons HC.out.2).mono ?_
  rintro e W1 ⟨rfl, r1⟩
  have H1 := Lib.hid (And.intro (H0.out.1.below r1) (And.intro (H0.out.2.1.below r1) (H0.out.2.2.trans (r1.mono H0.out.2.2.size))))
  obtain ⟨⟨d0, d1, d2, d3⟩, -⟩ := H1.out.1
  obtain ⟨⟨z0, z1, z2, z3⟩, zf⟩ := H1.out.2.1.rd
  have zf0 := zf 0
  have zf1 := zf 1
  have zf2 := zf 2
  have zf3 := zf 3
  clear H0 r1 zf
  by_cases h0 : chkCode s = 0
  · rw [h0]
    by_cases hv : v < 0 ∨ s.vars ≤ v
    · have HD := Lib.hid (dCode_rng h0 hv)
      clear h0
      by_cases h1 : v < 0
      · clear hv
        go_wp2_with fail
        refine bodyPost_ret (v := .tuple #[.agg #[.int .i64 0, .int .i64 0, .int .i64 0, .slice none 0 0], .int .i64 4]) (by rw [results_cell_tmp rfl]; go_simp; try rfl) rfl ?_
        refine ⟨none, 0, ⟨0, 0, 0, []⟩, by rw [HD.out]; rfl, nilCons _, .inl ⟨by rw [HD.out]; omega, rfl⟩, below4 H1.out.2.2 HBR.out _ _ _ _⟩
      · have h2 : s.vars ≤ v := by omega
        clear hv
        go_wp2_with fail
        refine bodyPost_ret (v := .tuple #[.agg #[.int .i64 0, .int .i64 0, .int .i64 0, .slice none 0 0], .int .i64 4]) (by rw [results_cell_tmp rfl]; go_simp; try rfl) rfl ?_
        refine ⟨none, 0, ⟨0, 0, 0, []⟩, by rw [HD.out]; rfl, nilCons _, .inl ⟨by rw [HD.out]; omega, rfl⟩, below4 H1.out.2.2 HBR.out _ _ _ _⟩
    · have HD := Lib.hid (And.intro (dCode_ok h0 hv) (chkCode_ok.1 h0))
      have h1 : ¬ v < 0 := by omega
      have h2 : ¬ s.vars ≤ v := by omega
      obtain ⟨n, rfl⟩ : ∃ n : Nat, v = n := ⟨v.toNat, by omega⟩
      have hn : n < s.S.vars := by show n < s.vars.toNat; omega
      clear h0 hv h1
      have hd1 : decide ((n : Int) < 0) = false := by simp
      have hd2 : decide (s.vars ≤ (n : Int)) = false := by simpa using h2
      clear h2
      go_wp2_with fail
      clear d0 d1 d2 d3 z0 z1 z2 z3 zf0 zf1 zf2 zf3
      clear hd1 hd2
      refine wp_region_mix [0, 1, 2] [3, 4, 5, 6] (fun w' => BoxS w' bs s (.slice ca s.cons.length cc)) (by kernel_rfl) (by kernel_rfl) (by kernel_rfl) (H1.out.1.box.grown (grownBy_drew0 _) (by simp)) ?_
      have hdr : Below W1.heap.size W1 W1.drew := below_drewN (Below.refl _ _) 1
      have H1' := Lib.hid (And.intro (H1.out.1.below hdr) (And.intro (H1.out.2.1.below hdr) (H1.out.2.2.trans (hdr.mono H1.out.2.2.size))))
      clear hdr
      generalize W1.drew = V1 at *
      repeat (
        refine wpHeads_cons (v := ?_) rfl (Or.inl ⟨by rfl, ?_⟩) ?_
        rotate_left
        · (intro W hW; obtain ⟨q1, q2, q3, q4⟩ := hW; go_simp; try with_reducible rfl)
        simp only [Act.put, List.setIfInBounds_toArray])
      refine wpHeads_nil ?_
      refine wpTails_cons rfl ?_
      go_wp2_with fail
      refine (visited_any s (.slice ca s.cons.length cc) n _ H1'.out.1.cons HC.out.2 HD.out.2 hn).mono ?_
      rintro e W2 ⟨va, vc, fa, fc, vl, fl, rfl, l1, l2, lv, lf, f1, f2, r2⟩
      have H2 := Lib.hid (And.intro (H1'.out.1.below r2) (And.intro (H1'.out.2.1.below r2) (And.intro (H1'.out.2.2.trans (r2.mono H1'.out.2.2.size)) (And.intro l1 (And.intro l2 (And.intro lv (And.intro lf (And.intro f1 f2))))))))
      clear l1 l2 lv lf f1 f2 r2 H1'
      go_wp2_with fail
      refine tail_mk H2.out.1.box ?_
      refine wpTails_cons rfl ?_
      go_wp2_with fail
      refine (slice_any s (.slice ca s.cons.length cc) va vc fa fc _ vl fl _ H2.out.1.cons HC.out.2 HD.out.2 H2.out.2.2.2.1 H2.out.2.2.2.2.1 H2.out.2.2.2.2.2.1 H2.out.2.2.2.2.2.2.1).mono ?_
      rintro e W3 ⟨ra, rc, rfl, hc3, r3⟩
      have H3 := Lib.hid (And.intro (H2.out.1.below r3) (And.intro (H2.out.2.1.below r3) (And.intro (H2.out.2.2.1.trans (r3.mono H2.out.2.2.1.size)) hc3)))
      have hcut : SysV (s.cut vl fl) (.slice ra (s.cut vl fl).cons.length rc) = .agg #[.int .i64 s.vars, .int .i64 s.sites, .int .i64 s.fields, .slice ra (s.cut vl fl).cons.length rc] := rfl
      rw [hcut]
      obtain ⟨N, hN⟩ : ∃ N, N = (s.cut vl fl).cons.length := ⟨_, rfl⟩
      rw [← hN]
      have HN := Lib.hid hN
      clear hc3 r3 hcut hN
      go_wp2_with fail
      refine tail_mk H3.out.1.box ?_
      refine wpTails_cons rfl ?_
      obtain ⟨⟨z0, z1, z2, z3⟩, zf⟩ := H3.out.2.1.rd
      have zf0 := zf 0
      have zf1 := zf 1
      have zf2 := zf 2
      have zf3 := zf 3
      clear zf
      go_wp2_with fail
      refine tail_mk (H3.out.1.box.grown (grown4 _ _ _ _ _ _) HNE.out) ?_
      refine wpTails_one rfl ?_
      go_wp2_with fail
      refine thenQ_mk ?_
      go_wp2_with fail
      refine bodyPost_ret (v := .tuple #[.agg #[.int .i64 s.vars, .int .i64 s.sites, .int .i64 s.fields, .slice ra N rc], .int .i64 0]) (by rw [results_cell_tmp rfl]; go_simp; try rfl) rfl ?_
      refine ⟨ra, rc, s.cut vl fl, by rw [HD.out.1, ← HN.out]; rfl, ?_, .inr ⟨HD.out.1, vl, fl, ⟨H2.out.2.2.2.2.2.1, by simpa using H2.out.2.2.2.2.2.2.2.1⟩, H2.out.2.2.2.2.2.2.1, by simpa using H2.out.2.2.2.2.2.2.2.2, rfl⟩, below4 H3.out.2.2.1 HBR.out _ _ _ _⟩
      exact H3.out.2.2.2 _ _ (grown4 _ _ _ _ _ _) (fun k e => by simp at e; subst e; exact (Array.getElem?_eq_some_iff.1 H2.out.2.1).1)
  · have hz : (chkCode s != 0) = true := by simpa using h0
    have HZ := Lib.hid (dCode_bad (v := v) h0)
    have HZ0 := Lib.hid h0
    generalize hcd : chkCode s = code at *
    clear h0
    go_wp2_with fail
    refine bodyPost_ret (v := .tuple #[.agg #[.int .i64 0, .int .i64 0, .int .i64 0, .slice none 0 0], .int .i64 code]) (by rw [results_cell_tmp rfl]; go_simp; try rfl) rfl ?_
    refine ⟨none, 0, ⟨0, 0, 0, []⟩, by rw [HZ.out]; rfl, nilCons _, .inl ⟨by rw [HZ.out]; exact HZ0.out, rfl⟩, below4 H1.out.2.2 HBR.out _ _ _ _⟩
end Go.Proofs.Ytkfhopnolflchaa
