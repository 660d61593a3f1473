/- Contract of the reference's Reach. -/
import Derived.Test.YtchmjgjagaaomaaGdr
namespace Go.Gra
open Go.Dfl (nth nth_mem mem_nth nth_eq nth_ext nth_set)
theorem reachL_lt {g : G} (h : VG g) {l : List Int} {y : Nat} (hy : y ∈ reachL g l) : y < g.n.toNat := by
  obtain ⟨h1, h2⟩ := dSl_coh (n := g.n) (l := l) (coh_start g.n.toNat)
  obtain ⟨h3, h4⟩ := dG_coh h (g.n.toNat + 1) 0 _ h1
  refine h3.mem y ?_
  rw [h4, h2]
  exact hy
/-- The nodes below k whose distance is known. -/
def knownK (d : List Int) (k : Nat) : List Nat := (List.range k).filter fun i => decide (0 ≤ nth d i)
theorem knownK_yes {d : List Int} {k : Nat} (h : 0 ≤ nth d k) : knownK d (k + 1) = knownK d k ++ [k] := by unfold knownK; rw [List.range_succ, List.filter_append]; simp [h]
theorem knownK_no {d : List Int} {k : Nat} (h : ¬ 0 ≤ nth d k) : knownK d (k + 1) = knownK d k := by unfold knownK; rw [List.range_succ, List.filter_append]; simp [h]
theorem knownK_len (d : List Int) (k : Nat) : (knownK d k).length ≤ k := Nat.le_trans (List.length_filter_le _ _) (by rw [List.length_range]; exact Nat.le_refl _)
theorem knownK_asc (d : List Int) (k : Nat) : ((knownK d k).map fun x : Nat => (x : Int)).Pairwise (· < ·) := by
  rw [List.pairwise_map]
  exact (List.Pairwise.filter _ List.pairwise_lt_range).imp fun h => by omega
end Go.Gra
namespace Go.Proofs.Ytchmjgjagaaomaa
open Go.RowKit Go.Dfl Go.Gra
set_option maxHeartbeats 3200000 in
set_option maxRecDepth 100000 in
theorem rReach_any (g : G) (cv lv : Value) (l : List Int) (W : World) (h : Pairs W cv g.es) (hf : Ints W lv l) : Calls Try.prog 41 #[GV g cv, lv] W (ReachR g l W) := by
  obtain ⟨ca, cc, rfl, -, -, -⟩ := pairs_rd h
  obtain ⟨fa, fc, rfl, -, -, -, -⟩ := hf.out1 sIntG
  have hal := (Below.refl W.heap.size W).alloc (Nat.le_refl _) (.cells #[.int .i64 g.n, .slice ca g.es.length cc] 24)
  have H0 := Lib.hid (And.intro (h.below hal) (And.intro hal (And.intro (BoxG.new W g.n (.slice ca g.es.length cc) 24) (hf.below hal))))
  clear h hal hf
  unfold GV
  go_enter Try.func41, Try.ntmps41
  go_wp2_with fail
  have hck := rCheck_any g (.slice ca g.es.length cc) _ H0.out.1
  unfold GV at hck
  refine hck.mono ?_
  rintro e W1 ⟨rfl, r1⟩
  have H1 := Lib.hid (And.intro (H0.out.1.below r1) (And.intro (H0.out.2.1.trans (r1.mono H0.out.2.1.size)) (And.intro (H0.out.2.2.1.below r1) (H0.out.2.2.2.below r1))))
  clear r1 hck
  obtain ⟨c0, c1⟩ := H1.out.2.2.1
  have n1 : W.heap.size < W1.heap.size := H1.out.2.2.1.lt
  generalize hbs : W.heap.size = bs at *
  have HBS := Lib.hid hbs
  clear hbs
  by_cases hc : gCode g = 0
  · have q0 : (gCode g != 0) = false := by simpa using hc
    have hvg := gCode_ok.1 hc
    have HV := Lib.hid (And.intro hvg hc)
    obtain ⟨n, hn⟩ : ∃ n : Nat, n = g.n.toNat := ⟨_, rfl⟩
    have hn8 : n ≤ 8192 := by have := hvg.n1; omega
    clear hvg hc
    go_wp2_with fail
    have hdi := rDistances_any g (.slice ca g.es.length cc) (.slice fa l.length fc) l W1 H1.out.1 H1.out.2.2.2 HV.out.1
    unfold GV at hdi
    refine hdi.mono ?_
    rintro e W2 ⟨da, dc, rfl, d1, d2⟩
    have hdl := distL_len HV.out.1 l
    rw [← hn] at d1 hdl ⊢
    obtain ⟨d, hd⟩ : ∃ d, d = distL g l := ⟨_, rfl⟩
    rw [← hd] at d1 hdl
    have HD := Lib.hid (And.intro d1 (And.intro d2 (And.intro hd (And.intro hn hdl))))
    obtain ⟨a9, c9, he, hm9, hidx, hcell, hblk⟩ := d1.lst.out1 sIntG
    rw [hdl] at he hm9 hidx hcell hblk
    simp only [Value.slice.injEq] at he
    obtain ⟨rfl, -, rfl⟩ := he
    have HC := Lib.hid (And.intro hcell (And.intro hblk hidx))
    clear hdi d1 d2 hd hdl hn hcell hblk hidx hm9
    go_wp2_with fail
    go_loopw [5, 7] (fun o x wr => ∃ k : Nat, k ≤ n ∧ x = .int .i64 k ∧ Hid (OwnI wr W2.heap.size 3 o ((knownK d k).map fun x : Nat => (x : Int)) ∧ Below W2.heap.size W2 wr)) (fun _ x _ => n - (intOf x).toNat)
    case atStart => exact ⟨0, by omega, rfl, Go.Dfl.Own.nil _ _ _ _, Below.refl _ _⟩
    case round =>
      obtain ⟨k, hk, rfl, hh⟩ := hrel
      have hsz := hh.out.2.size
      by_cases hlt : k < n
      · have hci := hh.out.2.cell (p := ⟨blk da, ofs da + k, none⟩) (HC.out.2.1 k hlt)
        rw [HC.out.1 k hlt] at hci
        have hii := HC.out.2.2 .i64 (k : Int) (by omega) (by omega)
        rw [Int.toNat_natCast] at hii
        have hkl : (k : Int) < (n : Int) := by omega
        obtain ⟨y, hy⟩ : ∃ y, y = nth d k := ⟨_, rfl⟩
        rw [← hy] at hci
        by_cases hy0 : 0 ≤ y
        · have q1 : decide (0 ≤ y) = true := by simpa using hy0
          have HK := Lib.hid (knownK_yes (d := d) (k := k) (by rw [← hy]; exact hy0))
          have hll : ((knownK d k).map fun x : Nat => (x : Int)).length < 17592186044416 := by rw [List.length_map]; have := knownK_len d k; omega
          have HL := Lib.hid hll
          clear hll hy hy0
          go_wp2_with (at_builtin; refine wp_append1 (f := Value.int .i64) sIntG rfl _ rfl _ _ rfl W2.heap.size _ ((knownK d k).map fun x : Nat => (x : Int)) rfl (hh.out.1.alloc _) (k : Int) ⟨wr.heap.size, 0, none⟩ rfl (cell_alloc1 _ _ _) rfl HL.out (by omega) (le_alloc _ hsz) ?_; intro v' w3 hown hgr hb3; have HO := Lib.hid (And.intro hown hb3); clear hown hgr hb3)
          go_roundw
          case rel => exact ⟨k + 1, by omega, by go_num, by rw [HK.out, List.map_append]; exact HO.out.1, (hh.out.2.alloc hh.out.2.size _).trans HO.out.2⟩
          case measure => simp [intOf]; omega
        · have q1 : decide (0 ≤ y) = false := by simpa using hy0
          have HK := Lib.hid (knownK_no (d := d) (k := k) (by rw [← hy]; exact hy0))
          clear hy hy0
          go_wp2_with fail
          go_roundw
          case rel => exact ⟨k + 1, by omega, by go_num, by rw [HK.out]; exact hh.out.1, hh.out.2⟩
          case measure => simp [intOf]; omega
      · obtain rfl : k = n := by omega
        obtain ⟨os, oc, rfl⟩ := hh.out.1.shape (n := (knownK d k).length) (by rw [List.length_map])
        clear hlt hk
        go_wp2_with fail
        go_ret
        refine ⟨os, oc, (knownK d k).map fun x : Nat => (x : Int), by rw [List.length_map]; rfl, by rw [List.length_map]; exact hh.out.1.lst, by rw [HBS.out]; exact H1.out.2.1.trans ((HD.out.2.1.trans (hh.out.2.mono HD.out.2.1.size)).mono (Nat.le_of_lt n1)), .inr ⟨HV.out.2, knownK_asc d k, fun y => ?_⟩⟩
        simp only [List.mem_map, knownK, List.mem_filter, List.mem_range, decide_eq_true_eq]
        constructor
        · rintro ⟨x, ⟨hx, h0⟩, rfl⟩
          rw [HD.out.2.2.1] at h0
          refine ⟨by omega, ?_⟩
          rw [Int.toNat_natCast]
          exact (distL_reach HV.out.1 (by rw [← HD.out.2.2.2.1]; exact hx)).1 h0
        · rintro ⟨hy0, hy⟩
          have hlt := reachL_lt HV.out.1 hy
          refine ⟨y.toNat, ⟨by rw [HD.out.2.2.2.1]; exact hlt, ?_⟩, by omega⟩
          rw [HD.out.2.2.1]
          exact (distL_reach HV.out.1 hlt).2 hy
  · have q0 : (gCode g != 0) = true := by simpa using hc
    have HN := Lib.hid hc
    clear hc
    go_wp2_with fail
    go_ret
    exact ⟨none, 0, [], rfl, Lst.nil _ _, by rw [HBS.out]; exact H1.out.2.1, .inl ⟨HN.out, rfl⟩⟩
end Go.Proofs.Ytchmjgjagaaomaa
