/- Contracts of the reference's right, Needs, Query, Slice. -/
import Derived.Test.YtkfhopnolflchaaRvm
import Derived.Test.YtkfhopnolflchaaRft
namespace Go.Proofs.Ytkfhopnolflchaa
open Go.RowKit Go.Dfl Go.And

set_option maxHeartbeats 1600000 in
set_option maxRecDepth 100000 in
theorem rRight_any (s : Sy) (cv : Value) (v : Int) (W : World) (hc : ConsIn W cv s.cons) (hs : Sm s) : Calls Try.prog 27 #[SysV s cv, .int .i64 v] W fun e W' => e = .returned (.int .i64 (dCode s v)) ∧ Below W.heap.size W W' := by
  obtain ⟨ca, cc, rfl, -⟩ := hc.out
  have HC := Lib.hid (And.intro hc hs)
  clear hc hs
  unfold SysV
  go_enter Try.func27, Try.ntmps27
  go_wp2_with fail
  refine calls_gen (fun Z => SysB W.heap.size s (.slice ca s.cons.length cc) Z ∧ Below W.heap.size W Z) ⟨SysB.new HC.out.1 24, (Below.refl _ _).alloc (Nat.le_refl _) _⟩ ?_
  rintro Z0 h0
  obtain ⟨bs, hbs⟩ : ∃ bs, bs = W.heap.size := ⟨_, rfl⟩
  have H0 : Hid (SysB bs s (.slice ca s.cons.length cc) Z0 ∧ Below W.heap.size W Z0) := by rw [hbs]; exact h0
  rw [← hbs]
  clear h0 hbs
  refine (rCheck_any s (.slice ca s.cons.length cc) _ H0.out.1.cons HC.out.2).mono ?_
  rintro e W1 ⟨rfl, r1⟩
  have hb1 := H0.out.2.trans (r1.mono H0.out.2.size)
  have H1 := Lib.hid (And.intro (H0.out.1.below r1) hb1)
  obtain ⟨⟨d0, d1, d2, d3⟩, -⟩ := H1.out.1
  clear hb1 H0 r1
  by_cases h0 : chkCode s = 0
  · rw [h0]
    by_cases hv : v < 0 ∨ s.vars ≤ v
    · have HD := Lib.hid (dCode_rng h0 hv)
      clear h0
      by_cases h1 : v < 0
      · clear hv
        go_wp2_with fail
        go_ret
        exact ⟨by rw [HD.out]; rfl, H1.out.2⟩
      · have h2 : s.vars ≤ v := by omega
        clear hv
        go_wp2_with fail
        go_ret
        exact ⟨by rw [HD.out]; rfl, H1.out.2⟩
    · have HD := Lib.hid (dCode_ok h0 hv)
      have h1 : ¬ v < 0 := by omega
      have h2 : ¬ s.vars ≤ v := by omega
      have hd1 : decide (v < 0) = false := by simpa using h1
      have hd2 : decide (s.vars ≤ v) = false := by simpa using h2
      clear h0 hv h1 h2
      go_wp2_with fail
      go_ret
      exact ⟨by rw [HD.out]; rfl, H1.out.2⟩
  · have hz : (chkCode s != 0) = true := by simpa using h0
    have HZ := Lib.hid (dCode_bad (v := v) h0)
    generalize hcd : chkCode s = code at *
    clear h0 hcd
    go_wp2_with fail
    go_ret
    exact ⟨by rw [HZ.out]; rfl, H1.out.2⟩

theorem dCode_vld {s : Sy} {v : Int} (h : dCode s v = 0) : Vld s ∧ 0 ≤ v ∧ v < s.vars := by
  obtain ⟨h1, h2⟩ := dCode_zero h
  exact ⟨chkCode_ok.1 h1, h2⟩
set_option maxHeartbeats 3200000 in
set_option maxRecDepth 100000 in
theorem rNeeds_any (s : Sy) (cv : Value) (v : Int) (W : World) (hc : ConsIn W cv s.cons) (hs : Sm s) : Calls Try.prog 12 #[SysV s cv, .int .i64 v] W (NeedsR s v W) := by
  obtain ⟨ca, cc, rfl, -⟩ := hc.out
  have HC := Lib.hid (And.intro hc hs)
  clear hc hs
  unfold SysV
  go_enter Try.func12, Try.ntmps12
  go_wp2_with fail
  refine calls_gen (fun Z => SysB W.heap.size s (.slice ca s.cons.length cc) Z ∧ Below W.heap.size W Z) ⟨SysB.new HC.out.1 24, (Below.refl _ _).alloc (Nat.le_refl _) _⟩ ?_
  rintro Z0 h0
  obtain ⟨bs, hbs⟩ : ∃ bs, bs = W.heap.size := ⟨_, rfl⟩
  have H0 : Hid (SysB bs s (.slice ca s.cons.length cc) Z0 ∧ Below W.heap.size W Z0) := by rw [hbs]; exact h0
  rw [← hbs]
  clear h0 hbs
  refine (rRight_any s (.slice ca s.cons.length cc) v _ H0.out.1.cons HC.out.2).mono ?_
  rintro e W1 ⟨rfl, r1⟩
  have hb1 := H0.out.2.trans (r1.mono H0.out.2.size)
  have H1 := Lib.hid (And.intro (H0.out.1.below r1) hb1)
  obtain ⟨⟨d0, d1, d2, d3⟩, -⟩ := H1.out.1
  clear hb1 H0 r1
  by_cases h0 : dCode s v = 0
  · obtain ⟨hvld, hv0, hv1⟩ := dCode_vld h0
    rw [h0]
    have HD := Lib.hid (And.intro h0 hvld)
    obtain ⟨n, rfl⟩ : ∃ n : Nat, v = n := ⟨v.toNat, by omega⟩
    have hn : n < s.S.vars := by show n < s.vars.toNat; omega
    clear h0 hv0 hv1 hvld
    go_wp2_with fail
    clear d0 d1 d2 d3
    refine (rVisited_any s (.slice ca s.cons.length cc) n _ H1.out.1.cons HC.out.2 HD.out.2 hn).mono ?_
    rintro e W2 ⟨va, vc, vl, rfl, l1, hIV, r2⟩
    have hbv : s.S.vars ≤ 40 := HC.out.2.bnd.vars
    obtain ⟨mv, vi, vcell⟩ := lst_rd l1 hIV.len
    have H2 := Lib.hid (And.intro hIV (And.intro (H1.out.2.trans (r2.mono H1.out.2.size)) vcell))
    obtain ⟨N, hN⟩ : ∃ N, N = s.S.vars := ⟨_, rfl⟩
    rw [← hN] at mv vi hbv ⊢
    have HN := Lib.hid hN
    clear l1 hIV r2 vcell hN hn
    go_wp2_with fail
    go_loopw [8, 9] (fun o x wr => ∃ k : Nat, k ≤ N ∧ x = .int .i64 k ∧ Hid (OwnI wr W2.heap.size 3 o (((List.range k).filter (nth vl)).map fun x : Nat => (x : Int)) ∧ Below W2.heap.size W2 wr)) (fun _ x _ => N - (intOf x).toNat)
    case atStart => exact ⟨0, by omega, rfl, Own.nil _ _ _ _, Below.refl _ _⟩
    case round =>
      obtain ⟨k, hk, rfl, hh⟩ := hrel
      by_cases hlt : k < N
      · have hx := H2.out.2.2 wr hh.out.2 k (by rw [← HN.out]; exact hlt)
        obtain ⟨t, ht⟩ : ∃ t, t = nth vl k := ⟨_, rfl⟩
        rw [← ht] at hx
        have HT := Lib.hid ht
        have hll : (((List.range k).filter (nth vl)).map fun x : Nat => (x : Int)).length < 17592186044416 := by
          rw [List.length_map]; exact Nat.lt_of_le_of_lt (List.length_filter_le _ _) (by simp; omega)
        have HL := Lib.hid hll
        have hsz := hh.out.2.size
        clear ht hll
        cases t
        · go_wp2_with fail
          go_roundw
          case rel => exact ⟨k + 1, by omega, by go_num, by rw [List.range_succ, List.filter_append]; simpa [← HT.out] using hh.out.1, hh.out.2⟩
          case measure => simp [intOf]; omega
        · go_wp2_with (at_builtin; refine wp_append1 (f := Value.int .i64) sIntD rfl _ rfl _ _ rfl W2.heap.size _ (((List.range k).filter (nth vl)).map fun x : Nat => (x : Int)) rfl (hh.out.1.alloc _) (k : Int) ⟨wr.heap.size, 0, none⟩ rfl (cell_alloc1 _ _ _) rfl HL.out (by omega) (le_alloc _ hsz) ?_; intro v' w3 hown hgr hb3)
          go_roundw
          case rel => exact ⟨k + 1, by omega, by go_num, by rw [List.range_succ, List.filter_append]; simpa [← HT.out] using hown, (hh.out.2.alloc hh.out.2.size _).trans hb3⟩
          case measure => simp [intOf]; omega
      · obtain rfl : k = N := by omega
        have HE := Lib.hid hh.out
        clear hh
        obtain ⟨a9, c9, rfl⟩ := HE.out.1.shape rfl
        go_wp2_with fail
        go_ret2
        have hnl : ((List.range k).filter (nth vl)).map (fun x : Nat => (x : Int)) = NL vl := by unfold NL; rw [H2.out.1.len, ← HN.out]
        rw [hnl] at HE
        refine ⟨a9, c9, NL vl, by rw [hnl, HD.out.1]; rfl, HE.out.1.lst, .inr ⟨HD.out.1, vl, by simpa using H2.out.1, rfl⟩, H2.out.2.1.trans (HE.out.2.mono H2.out.2.1.size)⟩
  · have hz : (dCode s v != 0) = true := by simpa using h0
    have HZ0 := Lib.hid h0
    obtain ⟨code, hcd⟩ : ∃ c, c = dCode s v := ⟨_, rfl⟩
    rw [← hcd] at hz ⊢
    have HCD := Lib.hid hcd
    clear h0 hcd
    go_wp2_with fail
    go_ret2
    exact ⟨none, 0, [], by rw [← HCD.out]; rfl, Lst.nil _ _, .inl ⟨HZ0.out, rfl⟩, H1.out.2⟩

theorem needL_count {s : Sy} {v : Int} {L : List Int} (h : NeedL s v L) (h0 : dCode s v = 0) : ∃ vl, IsVis s.S v.toNat vl ∧ L.length = vl.count true := by
  rcases h with ⟨h1, -⟩ | ⟨-, vl, hv, rfl⟩
  · exact absurd h0 h1
  · exact ⟨vl, hv, NL_len vl⟩
set_option maxHeartbeats 6400000 in
set_option maxRecDepth 100000 in
theorem rQuery_any (s : Sy) (cv : Value) (v b : Int) (W : World) (hc : ConsIn W cv s.cons) (hs : Sm s) : Calls Try.prog 10 #[SysV s cv, .int .i64 v, .int .i64 b] W (QueryR s v b W) := by
  obtain ⟨ca, cc, rfl, -⟩ := hc.out
  have HC := Lib.hid (And.intro hc hs)
  clear hc hs
  unfold SysV
  go_enter Try.func10, Try.ntmps10
  go_wp2_with fail
  refine calls_gen (fun Z => SysB W.heap.size s (.slice ca s.cons.length cc) Z ∧ Below W.heap.size W Z) ⟨SysB.new HC.out.1 24, (Below.refl _ _).alloc (Nat.le_refl _) _⟩ ?_
  rintro Z0 h0
  obtain ⟨bs, hbs⟩ : ∃ bs, bs = W.heap.size := ⟨_, rfl⟩
  have H0 : Hid (SysB bs s (.slice ca s.cons.length cc) Z0 ∧ Below W.heap.size W Z0) := by rw [hbs]; exact h0
  rw [← hbs]
  clear h0 hbs
  refine (rNeeds_any s (.slice ca s.cons.length cc) v _ H0.out.1.cons HC.out.2).mono ?_
  rintro e W1 ⟨a1, c1, L1, rfl, -, hN1, r1⟩
  have hb1 := H0.out.2.trans (r1.mono H0.out.2.size)
  have H1 := Lib.hid (And.intro (H0.out.1.below r1) hb1)
  obtain ⟨⟨d0, d1, d2, d3⟩, -⟩ := H1.out.1
  clear hb1 H0 r1
  by_cases h0 : dCode s v = 0
  · obtain ⟨hvld, hv0, hv1⟩ := dCode_vld h0
    obtain ⟨vl, hIV, hcl⟩ := needL_count hN1 h0
    rw [h0]
    obtain ⟨n, rfl⟩ : ∃ n : Nat, v = n := ⟨v.toNat, by omega⟩
    have hn : n < s.S.vars := by show n < s.vars.toNat; omega
    have hcb : L1.length ≤ 40 := by have h1 : vl.count true ≤ vl.length := List.count_le_length; have h2 := HC.out.2.bnd.vars; rw [hIV.len] at h1; omega
    have HD := Lib.hid (And.intro h0 (And.intro hvld (And.intro hIV hcl)))
    clear h0 hv0 hv1 hvld hIV hcl hN1
    obtain ⟨cn, hcn⟩ : ∃ cn, cn = L1.length := ⟨_, rfl⟩
    rw [← hcn] at hcb ⊢
    have HCN := Lib.hid hcn
    clear hcn
    by_cases hb1 : b < 0
    · have hd3 : decide (b < 0) = true := by simpa using hb1
      go_wp2_with fail
      go_ret2
      exact ⟨none, 0, [], 4, rfl, Lst.nil _ _, .inr (.inl ⟨HD.out.1, .inl hb1, rfl, rfl⟩), H1.out.2⟩
    · have hd3 : decide (b < 0) = false := by simpa using hb1
      by_cases hb2 : 65536 < b
      · have hd4 : decide (65536 < b) = true := by simpa using hb2
        go_wp2_with fail
        go_ret2
        exact ⟨none, 0, [], 4, rfl, Lst.nil _ _, .inr (.inl ⟨HD.out.1, .inr hb2, rfl, rfl⟩), H1.out.2⟩
      · have hd4 : decide (65536 < b) = false := by simpa using hb2
        by_cases hcb2 : b < (cn : Int)
        · have es : s.sites = (s.S.sites : Int) := (Int.toNat_of_nonneg HD.out.2.1.sites).symm
          rw [es] at d1
          have hsb : s.S.sites ≤ 12 := HC.out.2.bnd.sites
          obtain ⟨N, hN⟩ : ∃ N, N = s.S.sites := ⟨_, rfl⟩
          rw [← hN] at d1 hsb
          have HN := Lib.hid hN
          have hgt : decide (b < (cn : Int)) = true := by simpa using hcb2
          clear es hN
          go_wp2_with fail
          go_loopw [10, 11] (fun o x wr => ∃ k : Nat, k ≤ N ∧ x = .int .i64 k ∧ Hid (OwnI wr W1.heap.size 3 o (rngL k) ∧ Below W1.heap.size W1 wr)) (fun _ x _ => N - (intOf x).toNat)
          case atStart => exact ⟨0, by omega, rfl, Own.nil _ _ _ _, Below.refl _ _⟩
          case round =>
            obtain ⟨k, hk, rfl, hh⟩ := hrel
            have e1 := (grownBy_below hh.out.2).cell d1 (by simp)
            clear d0 d2 d3
            by_cases hlt : k < N
            · have hsz := hh.out.2.size
              have hll : (rngL k).length < 17592186044416 := by simp [rngL]; omega
              have HL := Lib.hid hll
              clear hll
              go_wp2_with (at_builtin; refine wp_append1 (f := Value.int .i64) sIntD rfl _ rfl _ _ rfl W1.heap.size _ (rngL k) rfl (hh.out.1.alloc _) (k : Int) ⟨wr.heap.size, 0, none⟩ rfl (cell_alloc1 _ _ _) rfl HL.out (by omega) (le_alloc _ hsz) ?_; intro v' w3 hown hgr hb3)
              go_roundw
              case rel => exact ⟨k + 1, by omega, by go_num, by have : rngL (k + 1) = rngL k ++ [(k : Int)] := by simp [rngL, List.range_succ]
                                                                rw [this]; exact hown, (hh.out.2.alloc hh.out.2.size _).trans hb3⟩
              case measure => simp [intOf]; omega
            · obtain rfl : k = N := by omega
              have HE := Lib.hid hh.out
              clear hh
              obtain ⟨a9, c9, rfl⟩ := HE.out.1.shape rfl
              go_wp2_with fail
              go_ret2
              refine ⟨a9, c9, rngL k, 18, rfl, HE.out.1.lst, .inr (.inr ⟨HD.out.1, by omega, by omega, vl, HD.out.2.2.1, .inl ⟨by rw [← HD.out.2.2.2, ← HCN.out]; exact hcb2, rfl, by rw [HN.out]⟩⟩), H1.out.2.trans (HE.out.2.mono H1.out.2.size)⟩
        · have hgt : decide (b < (cn : Int)) = false := by simpa using hcb2
          go_wp2_with fail
          clear d0 d1 d2 d3
          refine (rSolve_any s (.slice ca s.cons.length cc) _ H1.out.1.cons HC.out.2).mono ?_
          rintro e W4 (⟨hbad, -⟩ | ⟨-, xa, xc, ya, yc, lu, lv, rfl, hpts, hsol, q4⟩)
          · exact absurd (chkCode_ok.2 HD.out.2.1) hbad
          have hlu : lu.length = s.S.vars := hsol.1
          have hal : Below W4.heap.size W4 (W4.alloc (.cells #[.slice xa s.S.vars xc, .slice ya (s.S.sites * s.S.fields) yc] 41)) := (Below.refl _ _).alloc (Nat.le_refl _) _
          obtain ⟨⟨us, hgr⟩, -⟩ := hpts.below hal
          obtain ⟨ra2, rc2, -, ii1, -, hmm, hcs⟩ := grid_rd hgr hlu hn
          have hrow := (hcs _ hgr).1
          have hrI : Ints (W4.alloc (.cells #[.slice xa s.S.vars xc, .slice ya (s.S.sites * s.S.fields) yc] 41)) (.slice ra2 (nth lu n).length rc2) (nth lu n) := by
            have h := hgr.2.2 n (by rw [hlu]; exact hn)
            have e2 : nth us n = .slice ra2 (nth lu n).length rc2 := by
              obtain ⟨va9, vc9, e9, -, -, hc9, -⟩ := hgr.1.out1 sInt2
              simp only [Value.slice.injEq] at e9
              obtain ⟨rfl, he9, rfl⟩ := e9
              have h9 := hc9 n (by rw [hgr.2.1, hlu]; exact hn)
              rw [hrow] at h9
              simpa using h9.symm
            rw [e2] at h; exact h
          have hS1 : IsSol s.S n (nth lu n) := hsol.2.2.1 n hn
          have hb4 : Below W.heap.size W (W4.alloc (.cells #[.slice xa s.S.vars xc, .slice ya (s.S.sites * s.S.fields) yc] 41)) := ((H1.out.2.trans (q4.mono H1.out.2.size))).alloc (H1.out.2.trans (q4.mono H1.out.2.size)).size _
          obtain ⟨N, hN⟩ : ∃ N, N = s.S.vars := ⟨_, rfl⟩
          rw [← hN] at hrow ii1 hn hrI hb4 ⊢
          have H4 := Lib.hid (And.intro hrI (And.intro hS1 hb4))
          clear hal hgr hlu hcs hrI hS1 hb4 hsol hpts q4 hN hmm
          go_wp2_with fail
          go_ret2
          refine ⟨ra2, rc2, nth lu n, 0, rfl, H4.out.1, .inr (.inr ⟨HD.out.1, by omega, by omega, vl, HD.out.2.2.1, .inr ⟨by rw [← HD.out.2.2.2, ← HCN.out]; omega, rfl, by simpa using H4.out.2.1⟩⟩), H4.out.2.2⟩
  · have hz : (dCode s v != 0) = true := by simpa using h0
    have HZ0 := Lib.hid h0
    obtain ⟨code, hcd⟩ : ∃ c, c = dCode s v := ⟨_, rfl⟩
    rw [← hcd] at hz ⊢
    have HCD := Lib.hid hcd
    clear h0 hcd
    go_wp2_with fail
    go_ret2
    exact ⟨none, 0, [], code, rfl, Lst.nil _ _, .inl ⟨HZ0.out, HCD.out, rfl⟩, H1.out.2⟩
end Go.Proofs.Ytkfhopnolflchaa
