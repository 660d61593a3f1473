/- Contract of the reference's Make. -/
import Derived.Test.YtjapnkhgijhakaaGsq
namespace Go.Proofs.Ytjapnkhgijhakaa
open Go.RowKit Go.Dfl Go.Gra
set_option maxHeartbeats 3200000 in
set_option maxRecDepth 100000 in
theorem rMake_any (n : Int) (cv : Value) (es : List (Int × Int)) (W : World) (h : Pairs W cv es) (hl : es.length ≤ 32768) : Calls Try.prog 12 #[.int .i64 n, cv] W (MakeR n es W) := by
  obtain ⟨ca, cc, rfl, hlen, hci, hcc⟩ := pairs_rd h
  have hz0 : GZ (W.alloc (.cells #[.int .i64 0, .slice none 0 0] 25)) W.heap.size := heap_alloc_new _ _
  have hb0 : Below W.heap.size W (W.alloc (.cells #[.int .i64 0, .slice none 0 0] 25)) := (Below.refl _ _).alloc (Nat.le_refl _) _
  have H0 := Lib.hid (And.intro hz0 (And.intro hb0 (And.intro hcc h)))
  clear h hcc hz0 hb0
  go_enter Try.func12, Try.ntmps12
  go_upto_region 1 with fail
  refine gen_code (fun Z => GZ Z W.heap.size ∧ Below W.heap.size W Z) ⟨H0.out.1, H0.out.2.1⟩ ?_
  rintro Z0 hz
  obtain ⟨br, hbr⟩ : ∃ b, b = W.heap.size := ⟨_, rfl⟩
  have HBR : Hid (br = W.heap.size ∧ W.heap.size ≤ br) := Lib.hid ⟨hbr, Nat.le_of_eq hbr.symm⟩
  have HZ : Hid (GZ Z0 br ∧ Below W.heap.size W Z0) := Lib.hid (by rw [hbr]; exact hz)
  rw [← hbr]
  clear hz hbr
  by_cases h1 : n < 0
  · have hd : decide (n < 0) = true := by simpa using h1
    obtain ⟨⟨z0, z1⟩, zf0, zf1⟩ := HZ.out.1.rd
    have HGZ := Lib.hid HZ.out.1
    go_wp2_with fail
    refine bodyPost_ret (v := .tuple #[.agg #[.int .i64 0, .slice none 0 0], .int .i64 4]) (by rw [results_cell_tmp rfl]; go_simp; try rfl) rfl ?_
    exact ⟨none, 0, ⟨0, []⟩, 4, rfl, pairs_nil _, (.inl ⟨h1, rfl, rfl⟩), below2s HZ.out.2 HBR.out.2 _ _⟩
  have hd1 : decide (n < 0) = false := by simpa using h1
  by_cases h2 : 8192 < n
  · have hd : decide (8192 < n) = true := by simpa using h2
    obtain ⟨⟨z0, z1⟩, zf0, zf1⟩ := HZ.out.1.rd
    have HGZ := Lib.hid HZ.out.1
    go_wp2_with fail
    refine bodyPost_ret (v := .tuple #[.agg #[.int .i64 0, .slice none 0 0], .int .i64 3]) (by rw [results_cell_tmp rfl]; go_simp; try rfl) rfl ?_
    exact ⟨none, 0, ⟨0, []⟩, 3, rfl, pairs_nil _, (.inr (.inl ⟨h2, rfl, rfl⟩)), below2s HZ.out.2 HBR.out.2 _ _⟩
  have hd2 : decide (8192 < n) = false := by simpa using h2
  have hn0 : 0 ≤ n ∧ n ≤ 8192 := by omega
  have HN0 := Lib.hid hn0
  clear h1 h2 hn0
  go_wp2_with fail
  clear hd1 hd2
  go_loopw [6] (fun x wr => ∃ k : Nat, k ≤ es.length ∧ x = .int .i64 k ∧ Hid (GZ wr br ∧ Below W.heap.size W wr ∧ ∀ i, i < k → inB n (nth es i) = true)) (fun x _ => es.length - (intOf x).toNat)
  case atStart => exact ⟨0, by omega, rfl, HZ.out.1, HZ.out.2, fun i hi => by omega⟩
  case round =>
    obtain ⟨k, hk, rfl, hh⟩ := hrel
    by_cases hlt : k < es.length
    · obtain ⟨p0, p1⟩ := (H0.out.2.2.1 k hlt).2 wr hh.out.2.1
      obtain ⟨e, he⟩ : ∃ e, e = nth es k := ⟨_, rfl⟩
      rw [← he] at p0 p1
      have HE := Lib.hid he
      have HBW := Lib.hid hh.out.2.1
      have hkl : (k : Int) < (es.length : Int) := by omega
      clear he
      obtain ⟨x, y⟩ := e
      dsimp only at p0 p1
      by_cases q1 : x < 0
      · have d1 : decide (x < 0) = true := by simpa using q1
        obtain ⟨⟨z0, z1⟩, zf0, zf1⟩ := hh.out.1.rd
        have HX : Hid (∃ e ∈ es, inB n e = false) := Lib.hid ⟨nth es k, nth_mem _ _ hlt, by rw [← HE.out]; simp only [inB, nodeB, Bool.and_eq_false_iff, decide_eq_false_iff_not]; omega⟩
        go_wp2_with fail
        refine bodyPost_ret (v := .tuple #[.agg #[.int .i64 0, .slice none 0 0], .int .i64 4]) (by rw [results_cell_tmp rfl]; go_simp; try rfl) rfl ?_
        exact ⟨none, 0, ⟨0, []⟩, 4, rfl, pairs_nil _, .inr (.inr (.inl ⟨HN0.out, HX.out, rfl, rfl⟩)), below2s HBW.out HBR.out.2 _ _⟩
      have d1 : decide (x < 0) = false := by simpa using q1
      by_cases q2 : n ≤ x
      · have d2 : decide (n ≤ x) = true := by simpa using q2
        obtain ⟨⟨z0, z1⟩, zf0, zf1⟩ := hh.out.1.rd
        have HX : Hid (∃ e ∈ es, inB n e = false) := Lib.hid ⟨nth es k, nth_mem _ _ hlt, by rw [← HE.out]; simp only [inB, nodeB, Bool.and_eq_false_iff, decide_eq_false_iff_not]; omega⟩
        go_wp2_with fail
        refine bodyPost_ret (v := .tuple #[.agg #[.int .i64 0, .slice none 0 0], .int .i64 4]) (by rw [results_cell_tmp rfl]; go_simp; try rfl) rfl ?_
        exact ⟨none, 0, ⟨0, []⟩, 4, rfl, pairs_nil _, .inr (.inr (.inl ⟨HN0.out, HX.out, rfl, rfl⟩)), below2s HBW.out HBR.out.2 _ _⟩
      have d2 : decide (n ≤ x) = false := by simpa using q2
      by_cases q3 : y < 0
      · have d3 : decide (y < 0) = true := by simpa using q3
        obtain ⟨⟨z0, z1⟩, zf0, zf1⟩ := hh.out.1.rd
        have HX : Hid (∃ e ∈ es, inB n e = false) := Lib.hid ⟨nth es k, nth_mem _ _ hlt, by rw [← HE.out]; simp only [inB, nodeB, Bool.and_eq_false_iff, decide_eq_false_iff_not]; omega⟩
        go_wp2_with fail
        refine bodyPost_ret (v := .tuple #[.agg #[.int .i64 0, .slice none 0 0], .int .i64 4]) (by rw [results_cell_tmp rfl]; go_simp; try rfl) rfl ?_
        exact ⟨none, 0, ⟨0, []⟩, 4, rfl, pairs_nil _, .inr (.inr (.inl ⟨HN0.out, HX.out, rfl, rfl⟩)), below2s HBW.out HBR.out.2 _ _⟩
      have d3 : decide (y < 0) = false := by simpa using q3
      by_cases q4 : n ≤ y
      · have d4 : decide (n ≤ y) = true := by simpa using q4
        obtain ⟨⟨z0, z1⟩, zf0, zf1⟩ := hh.out.1.rd
        have HX : Hid (∃ e ∈ es, inB n e = false) := Lib.hid ⟨nth es k, nth_mem _ _ hlt, by rw [← HE.out]; simp only [inB, nodeB, Bool.and_eq_false_iff, decide_eq_false_iff_not]; omega⟩
        go_wp2_with fail
        refine bodyPost_ret (v := .tuple #[.agg #[.int .i64 0, .slice none 0 0], .int .i64 4]) (by rw [results_cell_tmp rfl]; go_simp; try rfl) rfl ?_
        exact ⟨none, 0, ⟨0, []⟩, 4, rfl, pairs_nil _, .inr (.inr (.inl ⟨HN0.out, HX.out, rfl, rfl⟩)), below2s HBW.out HBR.out.2 _ _⟩
      have d4 : decide (n ≤ y) = false := by simpa using q4
      have HX : Hid (inB n (nth es k) = true) := Lib.hid (by rw [← HE.out]; simp only [inB, nodeB, Bool.and_eq_true, decide_eq_true_eq]; omega)
      go_wp2_with fail
      go_roundw
      case rel => exact ⟨k + 1, by omega, by go_num, hh.out.1, hh.out.2.1, fun i hi => by
        by_cases e : i = k
        · subst e; exact HX.out
        · exact hh.out.2.2 i (by omega)⟩
      case measure => simp [intOf]; omega
    · obtain rfl : k = es.length := by omega
      have hin : ∀ e ∈ es, inB n e = true := fun e he => by
        obtain ⟨i, hi, rfl⟩ := mem_nth he
        exact hh.out.2.2 i hi
      have HI := Lib.hid hin
      clear hin
      go_wp2_with fail
      refine (rSorted_any es.length es _ wr (Nat.le_refl _) (by omega) (H0.out.2.2.2.below (hh.out.2.1))).mono ?_
      rintro e W1 ⟨a, c, r, rfl, o1, s1, l1, b1⟩
      have H1 := Lib.hid (And.intro o1 (And.intro s1 (And.intro b1 (hh.out.1.below b1))))
      obtain ⟨⟨z0, z1⟩, zf0, zf1⟩ := (hh.out.1.below b1).rd
      have hr8 : ¬ (32768 : Int) < (r.length : Int) := by omega
      clear o1 s1 b1
      go_wp2_with fail
      refine bodyPost_ret (v := .tuple #[.agg #[.int .i64 n, .slice a r.length c], .int .i64 0]) (by rw [results_cell_tmp rfl]; go_simp; try rfl) rfl ?_
      have hbw := hh.out.2.1
      have hsz := hbw.size
      refine ⟨a, c, ⟨n, r⟩, 0, rfl, ?_, .inr (.inr (.inr ⟨HN0.out, HI.out, rfl, rfl, H1.out.2.1⟩)), below2s (hbw.trans (H1.out.2.2.1.mono hsz)) HBR.out.2 _ _⟩
      have gf := grownBy_trans (grownBy_setCell W1 ⟨br, 0, none⟩ (.int .i64 n)) (grownBy_setCell _ ⟨br, 1, none⟩ (.slice a r.length c))
      refine own_pairs (OwnE.grown H1.out.1 gf (.inr fun e => ?_))
      have h7 := (OwnE.lt H1.out.1 _ e).1
      have h8 := hh.out.1.lt
      have e9 : (⟨br, 0, none⟩ : Addr).block = br := rfl
      omega
end Go.Proofs.Ytjapnkhgijhakaa
