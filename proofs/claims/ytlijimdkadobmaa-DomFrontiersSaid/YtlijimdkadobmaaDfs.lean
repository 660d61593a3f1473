/- Contract of the reference's Frontier, and of SameLists. -/
import Derived.Test.YtlijimdkadobmaaDfr
import Derived.Test.YtlijimdkadobmaaDtb
namespace Go.Gra
open Go.Dfl (nth nth_mem mem_nth nth_eq nth_ext nth_set nth_append take_snoc)
/-- Is there an edge to y from a node that n dominates, among the first i edges? -/
def hasK (g : G) (r n y i : Nat) : Bool := (g.es.take i).any fun e => decide (e.2 = (y : Int)) && domB g r n e.1.toNat
theorem hasK_succ {g : G} {r n y i : Nat} (h : i < g.es.length) : hasK g r n y (i + 1) = (hasK g r n y i || (decide ((nth g.es i).2 = (y : Int)) && domB g r n (nth g.es i).1.toNat)) := by
  unfold hasK; rw [take_snoc _ _ h, List.any_append]; simp
theorem hasK_all (g : G) (r n y : Nat) : (hasK g r n y g.es.length && (decide (n = y) || !domB g r n y)) = frB g r n y := by
  unfold hasK frB tgt pre
  rw [List.take_length, List.any_map, List.any_filter]
  induction g.es with
  | nil => rfl
  | cons e l ih =>
    rw [List.any_cons, List.any_cons, ← ih]
    simp only [Function.comp_apply]
    cases decide (e.2 = (y : Int)) <;> cases domB g r n e.1.toNat <;> cases (decide (n = y) || !domB g r n y) <;> simp
def frK (g : G) (r k : Nat) : List (List Int) := (List.range k).map fun n => (frL g r n g.n.toNat).map fun x : Nat => (x : Int)
theorem frK_len (g : G) (r k : Nat) : (frK g r k).length = k := by simp [frK]
theorem frK_succ (g : G) (r k : Nat) : frK g r (k + 1) = frK g r k ++ [(frL g r k g.n.toNat).map fun x : Nat => (x : Int)] := by simp [frK, List.range_succ]
end Go.Gra
namespace Go.Proofs.Ytlijimdkadobmaa
open Go.RowKit Go.Dfl Go.Gra
set_option maxHeartbeats 6400000 in
set_option maxRecDepth 100000 in
theorem rFrontier_any (g : G) (cv : Value) (r : Int) (W : World) (h : Pairs W cv g.es) : Calls Try.prog 17 #[GV g cv, .int .i64 r] W (FrontR g r W) := by
  obtain ⟨ca, cc, rfl, -, -, -⟩ := pairs_rd h
  have hal := (Below.refl W.heap.size W).alloc (Nat.le_refl _) (.cells #[.int .i64 g.n, .slice ca g.es.length cc] 24)
  have H0 := Lib.hid (And.intro (h.below hal) (And.intro hal (BoxG.new W g.n (.slice ca g.es.length cc) 24)))
  have HPW := Lib.hid h
  clear h hal
  unfold GV
  go_enter Try.func17, Try.ntmps17
  go_wp2_with fail
  have hck := rcheck_any g (.slice ca g.es.length cc) r _ H0.out.1
  unfold GV at hck
  refine hck.mono ?_
  rintro e W1 ⟨rfl, r1⟩
  have H1 := Lib.hid (And.intro (H0.out.1.below r1) (And.intro (H0.out.2.1.trans (r1.mono H0.out.2.1.size)) (H0.out.2.2.below r1)))
  clear r1 hck
  obtain ⟨c0, c1⟩ := H1.out.2.2
  by_cases hc : dcode g r = 0
  · have HZ : Hid (frontZ g r = frZ g r.toNat) := Lib.hid (by unfold frontZ; rw [if_pos hc])
    obtain ⟨v1, v2, v3⟩ := dcode_ok hc
    obtain ⟨k, rfl⟩ : ∃ k : Nat, r = (k : Int) := ⟨r.toNat, by omega⟩
    rw [Int.toNat_natCast] at v3
    have HV := Lib.hid (And.intro v1 (And.intro v3 hc))
    clear v1 v2 v3
    have hq : (dcode g (k : Int) != 0) = false := by simpa using hc
    clear hc
    rw [Int.toNat_natCast] at HZ
    have hb := rTable_any g (.slice ca g.es.length cc) k W1 H1.out.1 HV.out.1
    unfold GV at hb
    have HB := Lib.hid hb
    clear hb
    go_wp2_with fail
    refine HB.out.mono ?_
    rintro e W2 ⟨ta, tc, vs, rfl, hT, b2⟩
    obtain ⟨n, hn⟩ : ∃ n, n = g.n.toNat := ⟨_, rfl⟩
    have hgn : g.n = (n : Int) := by have := HV.out.1.n0; omega
    have hn8 : n ≤ 8192 := by have := HV.out.1.n1; omega
    rw [← hn] at hT ⊢
    have H2 := Lib.hid (And.intro hT (And.intro (H1.out.2.1.trans (b2.mono H1.out.2.1.size)) (And.intro (H1.out.2.2.below b2) (And.intro hn hgn))))
    clear hT b2 hn hgn HB c0 c1
    obtain ⟨c0, c1⟩ := H2.out.2.2.1
    rw [H2.out.2.2.2.2] at c0
    have hbW : W.heap.size < W2.heap.size := World.block_lt_of_cell? W2 ⟨W.heap.size, 0, none⟩ c0
    go_wp2_with fail
    clear c0 c1
    obtain ⟨W2', hW2⟩ : ∃ Z, Z = W2 := ⟨_, rfl⟩
    rw [← hW2] at H2 hbW
    have HB2 := Lib.hid (show Below W2'.heap.size W2' W2 by rw [hW2]; exact Below.refl _ _)
    clear hW2
    obtain ⟨ca', cc', he, -, hci, hcc⟩ := pairs_rd HPW.out
    simp only [Value.slice.injEq] at he
    obtain ⟨rfl, -, rfl⟩ := he
    have HCC := Lib.hid hcc
    clear hcc
    go_loopw [8, 9] (fun lv x wr => ∃ (m : Nat) (la : Option Addr) (lc : Nat) (us : List Value), m ≤ n ∧ x = .int .i64 (m : Int) ∧ lv = .slice la m lc ∧ Hid (OwnN IIg wr W2'.heap.size 31 (.slice la m lc) us (frK g k m) ∧ Below W2'.heap.size W2' wr)) (fun _ x _ => n - (intOf x).toNat)
    case atStart => exact ⟨0, none, 0, [], by omega, rfl, rfl, OwnN.empty _ _ _, HB2.out⟩
    case round =>
      obtain ⟨m, la, lc, us, hm, rfl, rfl, hh⟩ := hrel
      have HL := Lib.hid hh.out
      clear hh
      obtain ⟨c0, c1⟩ := H2.out.2.2.1.below HL.out.2
      rw [H2.out.2.2.2.2] at c0
      by_cases hlt : m < n
      · have hkl : (m : Int) < (n : Int) := by omega
        go_wp2_with fail
        clear c0 c1
        obtain ⟨WH, hWH⟩ : ∃ WH, WH = wr := ⟨_, rfl⟩
        rw [← hWH] at HL
        have H0w := Lib.hid (show Below WH.heap.size WH wr by rw [hWH]; exact Below.refl _ _)
        clear hWH
        go_loopw [10, 11] (fun sv x wr => ∃ (y : Nat) (sa : Option Addr) (sc : Nat), y ≤ n ∧ x = .int .i64 (y : Int) ∧ sv = .slice sa (frL g k m y).length sc ∧ Hid (OwnI wr WH.heap.size 3 (.slice sa (frL g k m y).length sc) ((frL g k m y).map fun x : Nat => (x : Int)) ∧ Below WH.heap.size WH wr)) (fun _ x _ => n - (intOf x).toNat)
        case atStart => exact ⟨0, none, 0, by omega, rfl, rfl, Go.Dfl.Own.nil _ _ _ _, H0w.out⟩
        case round =>
          obtain ⟨y, sa, sc, hy, rfl, rfl, hh⟩ := hrel
          have HS := Lib.hid hh.out
          clear hh
          have hb1 := HL.out.2.trans (HS.out.2.mono HL.out.2.size)
          obtain ⟨c0, c1⟩ := H2.out.2.2.1.below hb1
          rw [H2.out.2.2.2.2] at c0
          have HB1 := Lib.hid hb1
          have hfl := frL_len g k m y
          clear hb1
          by_cases hyt : y < n
          · have hyl : (y : Int) < (n : Int) := by omega
            go_wp2_with fail
            clear c0 c1
            obtain ⟨WM, hWM⟩ : ∃ WM, WM = wr := ⟨_, rfl⟩
            rw [← hWM] at HS HB1
            have H0m := Lib.hid (show Below WM.heap.size WM wr by rw [hWM]; exact Below.refl _ _)
            clear hWM
            go_loopw [12, 13] (fun bv x wr => ∃ i : Nat, i ≤ g.es.length ∧ x = .int .i64 (i : Int) ∧ bv = .bool (hasK g k m y i) ∧ Hid (Below WM.heap.size WM wr)) (fun _ x _ => g.es.length - (intOf x).toNat)
            case atStart => exact ⟨0, by omega, rfl, rfl, H0m.out⟩
            case round =>
              obtain ⟨i, hi, rfl, rfl, hh⟩ := hrel
              have HI := Lib.hid hh.out
              clear hh
              have hb2 := HB1.out.trans (HI.out.mono HB1.out.size)
              have HT := Lib.hid (Grid.bel H2.out.1 hb2)
              obtain ⟨c0, c1⟩ := H2.out.2.2.1.below hb2
              rw [H2.out.2.2.2.2] at c0
              have HB2' := Lib.hid hb2
              clear hb2
              by_cases hit : i < g.es.length
              · have hil : (i : Int) < (g.es.length : Int) := by omega
                have hel := HV.out.1.len
                have HSU := Lib.hid (hasK_succ (g := g) (r := k) (n := m) (y := y) hit)
                have hb0 := H2.out.2.1.trans (HB2'.out.mono H2.out.2.1.size)
                obtain ⟨p0, p1⟩ := (HCC.out i hit).2 wr hb0
                have j1 := hci (i : Int) (by omega) (by omega)
                rw [Int.toNat_natCast] at j1
                have hin := HV.out.1.nth hit
                obtain ⟨e, he⟩ : ∃ e, e = nth g.es i := ⟨_, rfl⟩
                rw [← he] at p0 p1 hin HSU
                obtain ⟨e1, e2⟩ := e
                dsimp only at p0 p1 hin HSU
                obtain ⟨a, rfl⟩ : ∃ a : Nat, e1 = (a : Int) := ⟨e1.toNat, by omega⟩
                rw [Int.toNat_natCast] at HSU
                have han : a < n := by have := H2.out.2.2.2.2; omega
                clear he hin hb0
                cases hK : hasK g k m y i
                · rw [hK] at HSU
                  by_cases hey : e2 = (y : Int)
                  · have w1 : (e2 == (y : Int)) = true := by simpa using hey
                    obtain ⟨ra, rc, t1, t2, t3, t4⟩ := tab_rd HT.out H2.out.2.2.2.1 hlt han
                    obtain ⟨db, hdb⟩ : ∃ db, db = domB g k m a := ⟨_, rfl⟩
                    rw [← hdb] at t3
                    have HX : Hid (hasK g k m y (i + 1) = db) := Lib.hid (by rw [HSU.out, decide_eq_true hey, hdb]; rfl)
                    clear hey hdb hK
                    cases db
                    · go_upto_region 17 with fail
                      go_quiet (fail)
                      go_wp2_with fail
                      go_roundw
                      case rel => exact ⟨i + 1, by omega, by go_num, by rw [HX.out], HI.out.trans (below_drewN (Below.refl _ _) _ |>.mono HI.out.size)⟩
                      case measure => simp [intOf]; omega
                    · go_upto_region 17 with fail
                      go_quiet (fail)
                      go_wp2_with fail
                      go_roundw
                      case rel => exact ⟨i + 1, by omega, by go_num, by rw [HX.out], HI.out.trans (below_drewN (Below.refl _ _) _ |>.mono HI.out.size)⟩
                      case measure => simp [intOf]; omega
                  · have w1 : (e2 == (y : Int)) = false := by simpa using hey
                    have HX : Hid (hasK g k m y (i + 1) = false) := Lib.hid (by rw [HSU.out, decide_eq_false hey]; rfl)
                    clear hey hK
                    go_upto_region 17 with fail
                    go_quiet (fail)
                    go_wp2_with fail
                    go_roundw
                    case rel => exact ⟨i + 1, by omega, by go_num, by rw [HX.out], HI.out.trans (below_drewN (Below.refl _ _) _ |>.mono HI.out.size)⟩
                    case measure => simp [intOf]; omega
                · have HX : Hid (hasK g k m y (i + 1) = true) := Lib.hid (by rw [HSU.out, hK]; rfl)
                  clear hK
                  go_upto_region 17 with fail
                  go_quiet (fail)
                  go_wp2_with fail
                  go_roundw
                  case rel => exact ⟨i + 1, by omega, by go_num, by rw [HX.out], HI.out.trans (below_drewN (Below.refl _ _) _ |>.mono HI.out.size)⟩
                  case measure => simp [intOf]; omega
              · obtain rfl : i = g.es.length := by omega
                have HFR := Lib.hid (hasK_all g k m y)
                have HFS := Lib.hid (frL_succ g k m y)
                cases hK : hasK g k m y g.es.length
                · have HX : Hid (frL g k m (y + 1) = frL g k m y) := Lib.hid (by rw [HFS.out, ← HFR.out, hK]; simp)
                  clear hK
                  have HQ9 := Lib.hid (And.intro (HS.out.1.below HI.out) (HS.out.2.trans (HI.out.mono HS.out.2.size)))
                  go_wp2_with fail
                  go_roundw
                  case rel => exact ⟨y + 1, sa, sc, by omega, by go_num, by rw [HX.out], by rw [HX.out]; exact HQ9.out⟩
                  case measure => simp [intOf]; omega
                · by_cases hmy : m = y
                  · have w1 : ((m : Int) == (y : Int)) = true := by simp; omega
                    have HX : Hid (frL g k m (y + 1) = frL g k m y ++ [y]) := Lib.hid (by rw [HFS.out, ← HFR.out, hK, decide_eq_true hmy]; simp)
                    clear hK hmy
                    have HQ9 := Lib.hid (And.intro (HS.out.1.below HI.out) (HS.out.2.trans (HI.out.mono HS.out.2.size)))
                    have hsz := HQ9.out.2.size
                    have hll : ((frL g k m y).map fun x : Nat => (x : Int)).length < 17592186044416 := by rw [List.length_map]; omega
                    go_wp2_with (at_builtin; refine wp_append1at (f := Value.int .i64) sIntG rfl _ rfl _ _ rfl WH.heap.size _ ((frL g k m y).map fun x : Nat => (x : Int)) rfl (HQ9.out.1.alloc _) (y : Int) ⟨wr.heap.size, 0, none⟩ rfl (cell_alloc1 _ _ _) rfl hll (by omega) (le_alloc _ hsz) ?_; intro v' w3 hown hgr hat; obtain ⟨s9, c9, rfl⟩ := hown.shape (n := (frL g k m y).length + 1) (by rw [List.length_append, List.length_map]; rfl); have HO := Lib.hid (And.intro hown ((HQ9.out.2.alloc hsz _).grown hgr (by rw [World.size_alloc]; omega) (fun q e => (HQ9.out.1.lt q e).1))); clear hown hgr hat)
                    go_roundw
                    case rel => exact ⟨y + 1, s9, c9, by omega, by go_num, by rw [HX.out, List.length_append]; rfl, by rw [HX.out, List.length_append, List.map_append]; exact HO.out⟩
                    case measure => simp [intOf]; omega
                  · have w1 : ((m : Int) == (y : Int)) = false := by simp; omega
                    obtain ⟨ra, rc, t1, t2, t3, t4⟩ := tab_rd HT.out H2.out.2.2.2.1 hlt hyt
                    cases hdb : domB g k m y
                    · rw [hdb] at t3
                      have HX : Hid (frL g k m (y + 1) = frL g k m y ++ [y]) := Lib.hid (by rw [HFS.out, ← HFR.out, hK, hdb]; simp)
                      clear hK hmy hdb
                      have HQ9 := Lib.hid (And.intro (HS.out.1.below HI.out) (HS.out.2.trans (HI.out.mono HS.out.2.size)))
                      have hsz := HQ9.out.2.size
                      have hll : ((frL g k m y).map fun x : Nat => (x : Int)).length < 17592186044416 := by rw [List.length_map]; omega
                      go_wp2_with (at_builtin; refine wp_append1at (f := Value.int .i64) sIntG rfl _ rfl _ _ rfl WH.heap.size _ ((frL g k m y).map fun x : Nat => (x : Int)) rfl (HQ9.out.1.alloc _) (y : Int) ⟨wr.heap.size, 0, none⟩ rfl (cell_alloc1 _ _ _) rfl hll (by omega) (le_alloc _ hsz) ?_; intro v' w3 hown hgr hat; obtain ⟨s9, c9, rfl⟩ := hown.shape (n := (frL g k m y).length + 1) (by rw [List.length_append, List.length_map]; rfl); have HO := Lib.hid (And.intro hown ((HQ9.out.2.alloc hsz _).grown hgr (by rw [World.size_alloc]; omega) (fun q e => (HQ9.out.1.lt q e).1))); clear hown hgr hat)
                      go_roundw
                      case rel => exact ⟨y + 1, s9, c9, by omega, by go_num, by rw [HX.out, List.length_append]; rfl, by rw [HX.out, List.length_append, List.map_append]; exact HO.out⟩
                      case measure => simp [intOf]; omega
                    · rw [hdb] at t3
                      have HX : Hid (frL g k m (y + 1) = frL g k m y) := Lib.hid (by rw [HFS.out, ← HFR.out, hK, hdb, decide_eq_false hmy]; simp)
                      clear hK hmy hdb
                      have HQ9 := Lib.hid (And.intro (HS.out.1.below HI.out) (HS.out.2.trans (HI.out.mono HS.out.2.size)))
                      go_wp2_with fail
                      go_roundw
                      case rel => exact ⟨y + 1, sa, sc, by omega, by go_num, by rw [HX.out], by rw [HX.out]; exact HQ9.out⟩
                      case measure => simp [intOf]; omega
          · obtain rfl : n = y := by omega
            have hKS := frK_succ g k m
            rw [← H2.out.2.2.2.1] at hKS
            have hout := HL.out.1.below kIIg HS.out.2
            have hvl := hout.len
            rw [frK_len] at hvl
            have hsz := HB1.out.size
            have hfo : ∀ q, (Value.slice sa (frL g k m n).length sc).ownBlock = some q → ¬ Foot (.slice la m lc) us q := fun q e hf => by
              have h9 := (HS.out.1.lt q e).1
              have h10 := (HL.out.1.foot kIIg q hf).2
              omega
            have hrw := HS.out.1.mono HL.out.2.size
            have HO2 := Lib.hid (And.intro hout (And.intro HB1.out (And.intro hfo (And.intro hrw hvl))))
            have HLEN : Hid (us.length + [(Value.slice sa (frL g k m n).length sc)].length < 5864062014805) := Lib.hid (by rw [List.length_singleton]; omega)
            have hcl := (hout.out).alloc (.cells #[.slice sa (frL g k m n).length sc] 31)
            have HCL := Lib.hid hcl
            have HKS := Lib.hid hKS
            clear hout hvl hfo hrw hcl hKS
            go_wp2_with (at_builtin; refine wp_appendS (f := fun x : Value => x) sRowsG rfl rfl _ _ rfl W2'.heap.size (.slice la m lc) us rfl (.slice (some ⟨wr.heap.size, 0, none⟩) 1 1) [.slice sa (frL g k m n).length sc] rfl HCL.out (src_one (fun x : Value => x) (cell_alloc1 wr (.slice sa (frL g k m n).length sc) 31)) (fun y hy => by rw [List.mem_singleton.1 hy]; rfl) HLEN.out (Nat.le_refl _) (le_alloc _ hsz) ?_; intro v' w3 hown hgr hat; obtain ⟨s9, c9, rfl⟩ := hown.shape (n := m + 1) (by rw [List.length_append, HO2.out.2.2.2.2]; rfl); have HO := Lib.hid (And.intro hown (And.intro hgr hat)); clear hown hgr hat)
            have hbA := (Below.refl wr.heap.size wr).alloc (Nat.le_refl _) (.cells #[.slice sa (frL g k m n).length sc] 31)
            have hpush := (HO2.out.1.below kIIg hbA).push kIIg HO.out.1 HO.out.2.1 HO.out.2.2 (HO2.out.2.2.2.1.below hbA) HO2.out.2.2.1
            have hbl := (HO2.out.2.1.alloc hsz (.cells #[.slice sa (frL g k m n).length sc] 31)).grown HO.out.2.1 (by rw [World.size_alloc]; omega) (fun q e => (HO2.out.1.out.lt q e).1)
            rw [← HKS.out] at hpush
            have HP2 := Lib.hid (And.intro hpush hbl)
            clear hbA hpush hbl
            obtain ⟨c0, c1⟩ := H2.out.2.2.1.below HP2.out.2
            go_roundw
            case rel => exact ⟨m + 1, s9, c9, _, by omega, by go_num, rfl, HP2.out⟩
            case measure => simp [intOf]; omega
      · obtain rfl : n = m := by omega
        go_wp2_with fail
        go_ret2
        have h9 := HL.out.1
        rw [H2.out.2.2.2.1] at h9
        exact ⟨la, lc, us, by rw [HV.out.2.2, HZ.out, frZ_len, ← H2.out.2.2.2.1]; rfl, by rw [HZ.out, frZ_len]; exact h9.grid, H2.out.2.1.trans (HL.out.2.mono (Nat.le_of_lt hbW))⟩
  · have hq : (dcode g r != 0) = true := by simpa using hc
    have HZ : Hid (frontZ g r = []) := Lib.hid (by unfold frontZ; rw [if_neg hc])
    clear hc
    go_wp2_with fail
    go_ret2
    exact ⟨none, 0, [], by rw [HZ.out]; rfl, by rw [HZ.out]; exact ⟨(Go.Dfl.Own.nil (fun x : Value => x) W1 0 31).lst, rfl, fun i hi => by simp at hi⟩, H1.out.2.1⟩
end Go.Proofs.Ytlijimdkadobmaa
