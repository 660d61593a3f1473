/- Contracts of the reference's Idom, Strict, Dominates. -/
import Derived.Test.YtlijimdkadobmaaDta
namespace Go.Gra
open Go.Dfl (nth nth_mem mem_nth nth_eq nth_ext nth_set nth_append take_snoc)
theorem nodeB_no {n v : Int} (h : ¬ (0 ≤ v ∧ v < n)) : nodeB n v = false := by
  cases hx : nodeB n v
  · rfl
  · exact absurd (nodeB_iff.1 hx) h
def allK (g : G) (r v a k : Nat) : Bool := (List.range k).all fun b => decide (b = v) || !domB g r b v || domB g r b a
theorem allK_succ (g : G) (r v a k : Nat) : allK g r v a (k + 1) = (allK g r v a k && (decide (k = v) || !domB g r k v || domB g r k a)) := by simp [allK, List.range_succ]
def bestK (g : G) (r v k : Nat) : Int := (List.range k).foldl (fun best a => if idomB g r v a then (a : Int) else best) (-1)
theorem bestK_succ (g : G) (r v k : Nat) : bestK g r v (k + 1) = if idomB g r v k then (k : Int) else bestK g r v k := by simp [bestK, List.range_succ]
theorem idomB_eq (g : G) (r v a : Nat) : idomB g r v a = (decide (a ≠ v) && domB g r a v && allK g r v a g.n.toNat) := rfl
def idomK (g : G) (r k : Nat) : List Int := (List.range k).map (idomI g r)
theorem idomK_len (g : G) (r k : Nat) : (idomK g r k).length = k := by simp [idomK]
theorem idomK_succ (g : G) (r k : Nat) : idomK g r (k + 1) = idomK g r k ++ [bestK g r k g.n.toNat] := by simp [idomK, List.range_succ]; rfl
def strK (g : G) (r v k : Nat) : List Nat := (List.range k).filter fun a => decide (a ≠ v) && domB g r a v
theorem strK_yes {g : G} {r v k : Nat} (h1 : k ≠ v) (h2 : domB g r k v = true) : strK g r v (k + 1) = strK g r v k ++ [k] := by unfold strK; rw [List.range_succ, List.filter_append, List.filter_cons_of_pos (by simp [h1, h2])]; rfl
theorem strK_no {g : G} {r v k : Nat} (h : k = v ∨ domB g r k v = false) : strK g r v (k + 1) = strK g r v k := by unfold strK; rw [List.range_succ, List.filter_append, List.filter_cons_of_neg (by rcases h with h | h <;> simp [h])]; simp
theorem strK_len (g : G) (r v k : Nat) : (strK g r v k).length ≤ k := Nat.le_trans (List.length_filter_le _ _) (by rw [List.length_range]; exact Nat.le_refl _)
end Go.Gra
namespace Go.Proofs.Ytlijimdkadobmaa
open Go.RowKit Go.Dfl Go.Gra
theorem strK_str {g : G} {r v : Nat} (hvg : VG g) (hr : r < g.n.toNat) (hv : v < g.n.toNat) (hc : dcode g (r : Int) = 0) : StrP g (r : Int) (v : Int) ((strK g r v g.n.toNat).map fun x : Nat => (x : Int)) := by
  refine ⟨List.pairwise_map.2 ((List.pairwise_lt_range.filter _).imp fun {a b} h => by omega), fun y => ?_⟩
  rw [List.mem_map, domD_iff hvg hr hc]
  unfold strK
  constructor
  · rintro ⟨a, ha, rfl⟩
    rw [List.mem_filter, Bool.and_eq_true, decide_eq_true_eq] at ha
    exact ⟨⟨a, v, rfl, rfl, (domB_iff hvg hr hv).1 ha.2.2⟩, fun e => ha.2.1 (by omega)⟩
  · rintro ⟨⟨a, b, rfl, e, hd⟩, hn⟩
    obtain rfl : v = b := by omega
    refine ⟨a, ?_, rfl⟩
    rw [List.mem_filter, List.mem_range, Bool.and_eq_true, decide_eq_true_eq]
    exact ⟨(dom_lt hvg hr hd).1, fun e => hn (by omega), (domB_iff hvg hr hv).2 hd⟩
/-- Reading the table. -/
theorem tab_rd {g : G} {r n c : Nat} {a : Option Addr} {vs : List Value} {W : World} (h : Grid Value.bool W (.slice a n c) vs (tabK g r n)) (hn : n = g.n.toNat) {i j : Nat} (hi : i < n) (hj : j < n) : ∃ ra rc, W.cell? ⟨blk a, ofs a + i, none⟩ = some (.slice ra n rc) ∧ (∀ Y, (Instr.indexAt 61 (.slice a n c) (.int .i64 (i : Int))).run Try.prog Y = .ok (.pointer (some ⟨blk a, ofs a + i, none⟩)) Y) ∧
    W.cell? ⟨blk ra, ofs ra + j, none⟩ = some (.bool (domB g r i j)) ∧ (∀ Y, (Instr.indexAt 49 (.slice ra n rc) (.int .i64 (j : Int))).run Try.prog Y = .ok (.pointer (some ⟨blk ra, ofs ra + j, none⟩)) Y) := by
  obtain ⟨h1, h2, h3⟩ := h
  rw [tabK_len] at h2 h3
  obtain ⟨a9, c9, he, hm, hix, hcl, -⟩ := h1.out1 sBoolsG
  rw [h2] at he hm hix hcl
  simp only [Value.slice.injEq] at he
  obtain ⟨rfl, -, rfl⟩ := he
  have hr := h3 i hi
  rw [tabK_nth hi] at hr
  obtain ⟨ra, rc, hv, rm, rix, rcl, -⟩ := hr.out1 sBoolG
  rw [tabRow_len, ← hn] at hv rm rix rcl
  have c1 := hcl i hi
  rw [hv] at c1
  have c2 := rcl j hj
  rw [tabRow_nth (by rw [← hn]; exact hj)] at c2
  exact ⟨ra, rc, c1, fun Y => by have := hix .i64 (i : Int) (by omega) (by omega) Y; rw [Int.toNat_natCast] at this; exact this, c2, fun Y => by have := rix .i64 (j : Int) (by omega) (by omega) Y; rw [Int.toNat_natCast] at this; exact this⟩
theorem Grid.bel {W W' : World} {v : Value} {vs : List Value} {ll : List (List Bool)} (h : Grid Value.bool W v vs ll) (hb : Below W.heap.size W W') : Grid Value.bool W' v vs ll := h.below hb
def RIdomR (g : G) (r : Int) (W : World) (e : Ending) (W' : World) : Prop := ∃ a c, e = .returned (.tuple #[.slice a (idomZ g r).length c, .int .i64 (dcode g r)]) ∧ Ints W' (.slice a (idomZ g r).length c) (idomZ g r) ∧ Below W.heap.size W W'
set_option maxHeartbeats 3200000 in
set_option maxRecDepth 100000 in
theorem rIdom_any (g : G) (cv : Value) (r : Int) (W : World) (h : Pairs W cv g.es) : Calls Try.prog 24 #[GV g cv, .int .i64 r] W (RIdomR g r W) := by
  obtain ⟨ca, cc, rfl, -, -, -⟩ := pairs_rd h
  have hal := (Below.refl W.heap.size W).alloc (Nat.le_refl _) (.cells #[.int .i64 g.n, .slice ca g.es.length cc] 24)
  have H0 := Lib.hid (And.intro (h.below hal) (And.intro hal (BoxG.new W g.n (.slice ca g.es.length cc) 24)))
  clear h hal
  unfold GV
  go_enter Try.func24, Try.ntmps24
  go_wp2_with fail
  have hck := rcheck_any g (.slice ca g.es.length cc) r _ H0.out.1
  unfold GV at hck
  refine hck.mono ?_
  rintro e W1 ⟨rfl, r1⟩
  have H1 := Lib.hid (And.intro (H0.out.1.below r1) (And.intro (H0.out.2.1.trans (r1.mono H0.out.2.1.size)) (H0.out.2.2.below r1)))
  clear r1 hck
  obtain ⟨c0, c1⟩ := H1.out.2.2
  by_cases hc : dcode g r = 0
  · have HZ : Hid (idomZ g r = idomL g r.toNat) := Lib.hid (by unfold idomZ; rw [if_pos hc])
    obtain ⟨v1, v2, v3⟩ := dcode_ok hc
    obtain ⟨k, rfl⟩ : ∃ k : Nat, r = (k : Int) := ⟨r.toNat, by omega⟩
    rw [Int.toNat_natCast] at v3
    have hq : (dcode g (k : Int) != 0) = false := by simpa using hc
    have HV := Lib.hid (And.intro v1 (And.intro v3 hc))
    clear v1 v2 v3 hc
    have hb := rTable_any g (.slice ca g.es.length cc) k W1 H1.out.1 HV.out.1
    unfold GV at hb
    have HB := Lib.hid hb
    clear hb
    go_wp2_with fail
    refine HB.out.mono ?_
    rintro e W2 ⟨ta, tc, vs, rfl, hT, b2⟩
    obtain ⟨n, hn⟩ : ∃ n, n = g.n.toNat := ⟨_, rfl⟩
    have hgn : g.n = (n : Int) := by have := HV.out.1.n0; omega
    have hn8 : n ≤ 8192 := by have := HV.out.1.n1; omega
    rw [← hn] at hT ⊢
    have H2 := Lib.hid (And.intro hT (And.intro (H1.out.2.1.trans (b2.mono H1.out.2.1.size)) (And.intro (H1.out.2.2.below b2) (And.intro hn hgn))))
    clear hT b2 hn hgn HB c0 c1
    obtain ⟨c0, c1⟩ := H2.out.2.2.1
    rw [H2.out.2.2.2.2] at c0
    have hbW : W.heap.size < W2.heap.size := World.block_lt_of_cell? W2 ⟨W.heap.size, 0, none⟩ c0
    go_wp2_with fail
    clear c0 c1
    obtain ⟨W2', hW2⟩ : ∃ Z, Z = W2 := ⟨_, rfl⟩
    rw [← hW2] at H2 hbW
    have HB2 := Lib.hid (show Below W2'.heap.size W2' W2 by rw [hW2]; exact Below.refl _ _)
    clear hW2
    go_loopw [8, 9] (fun lv x wr => ∃ (v : Nat) (la : Option Addr) (lc : Nat), v ≤ n ∧ x = .int .i64 (v : Int) ∧ lv = .slice la v lc ∧ Hid (OwnI wr W2'.heap.size 3 (.slice la v lc) (idomK g k v) ∧ Below W2'.heap.size W2' wr)) (fun _ x _ => n - (intOf x).toNat)
    case atStart => exact ⟨0, none, 0, by omega, rfl, rfl, Go.Dfl.Own.nil _ _ _ _, HB2.out⟩
    case round =>
      obtain ⟨v, la, lc, hv, rfl, rfl, hh⟩ := hrel
      have HL := Lib.hid hh.out
      clear hh
      obtain ⟨c0, c1⟩ := H2.out.2.2.1.below HL.out.2
      rw [H2.out.2.2.2.2] at c0
      have HTT := Lib.hid (Grid.bel H2.out.1 HL.out.2)
      by_cases hlt : v < n
      · have hkl : (v : Int) < (n : Int) := by omega
        go_wp2_with fail
        obtain ⟨wr', hwr⟩ : ∃ Z, Z = wr := ⟨_, rfl⟩
        rw [← hwr] at HL HTT c0 c1
        have HEQ := Lib.hid hwr
        clear hwr
        go_loopw [10, 11] (fun bv x w2 => ∃ a : Nat, a ≤ n ∧ x = .int .i64 (a : Int) ∧ bv = .int .i64 (bestK g k v a) ∧ w2 = wr') (fun _ x _ => n - (intOf x).toNat)
        case atStart => exact ⟨0, by omega, rfl, rfl, HEQ.out.symm⟩
        case round =>
          obtain ⟨a, ha, rfl, rfl, rfl⟩ := hrel
          by_cases hat : a < n
          · have hal : (a : Int) < (n : Int) := by omega
            have HBS := Lib.hid (bestK_succ g k v a)
            have HID := Lib.hid (idomB_eq g k v a)
            obtain ⟨z, hz⟩ : ∃ z, z = bestK g k v a := ⟨_, rfl⟩
            rw [← hz] at HBS ⊢
            clear hz
            by_cases hav : a = v
            · have w1 : ((a : Int) == (v : Int)) = true := by simp; omega
              have HX : Hid (bestK g k v (a + 1) = z) := Lib.hid (by rw [HBS.out, HID.out, decide_eq_false (by simpa using hav)]; rfl)
              clear hav
              go_wp2_with fail
              go_roundw
              case rel => exact ⟨a + 1, by omega, by go_num, by rw [HX.out], trivial⟩
              case measure => simp [intOf]; omega
            · have w1 : ((a : Int) == (v : Int)) = false := by simp; omega
              obtain ⟨ra, rc, t1, t2, t3, t4⟩ := tab_rd HTT.out H2.out.2.2.2.1 hat hlt
              have HAV := Lib.hid hav
              clear hav
              cases hdb : domB g k a v
              · rw [hdb] at t3
                have HX : Hid (bestK g k v (a + 1) = z) := Lib.hid (by rw [HBS.out, HID.out, hdb, Bool.and_false]; rfl)
                clear hdb
                go_wp2_with fail
                go_roundw
                case rel => exact ⟨a + 1, by omega, by go_num, by rw [HX.out], trivial⟩
                case measure => simp [intOf]; omega
              · rw [hdb] at t3
                have HY : Hid (idomB g k v a = allK g k v a n) := Lib.hid (by rw [HID.out, hdb, decide_eq_true HAV.out, ← H2.out.2.2.2.1]; rfl)
                clear hdb
                go_wp2_with fail
                clear t1 t2 t3 t4
                go_loopw [12, 13] (fun lv x w3 => ∃ b : Nat, b ≤ n ∧ x = .int .i64 (b : Int) ∧ lv = .bool (allK g k v a b) ∧ w3 = wr) (fun _ x _ => n - (intOf x).toNat)
                case atStart => exact ⟨0, by omega, rfl, rfl, rfl⟩
                case round =>
                  obtain ⟨b, hb, rfl, rfl, rfl⟩ := hrel
                  have HA := Lib.hid (allK_succ g k v a b)
                  by_cases hbt : b < n
                  · have hbl : (b : Int) < (n : Int) := by omega
                    cases hA : allK g k v a b
                    · have HX : Hid (allK g k v a (b + 1) = false) := Lib.hid (by rw [HA.out, hA]; rfl)
                      clear hA
                      go_wp2_with fail
                      go_roundw
                      case rel => exact ⟨b + 1, by omega, by go_num, by rw [HX.out], trivial⟩
                      case measure => simp [intOf]; omega
                    · by_cases hbv : b = v
                      · have w2 : ((b : Int) == (v : Int)) = true := by simp; omega
                        have HX : Hid (allK g k v a (b + 1) = true) := Lib.hid (by rw [HA.out, hA, decide_eq_true hbv]; rfl)
                        clear hA hbv
                        go_wp2_with fail
                        go_roundw
                        case rel => exact ⟨b + 1, by omega, by go_num, by rw [HX.out], trivial⟩
                        case measure => simp [intOf]; omega
                      · have w2 : ((b : Int) == (v : Int)) = false := by simp; omega
                        obtain ⟨rb, rd, s1, s2, s3, s4⟩ := tab_rd HTT.out H2.out.2.2.2.1 hbt hlt
                        obtain ⟨rb', rd', u1, -, u3, u4⟩ := tab_rd HTT.out H2.out.2.2.2.1 hbt hat
                        have he := s1.symm.trans u1
                        simp only [Option.some.injEq, Value.slice.injEq] at he
                        obtain ⟨rfl, -, rfl⟩ := he
                        clear u1
                        cases hbb : domB g k b v
                        · rw [hbb] at s3
                          have HX : Hid (allK g k v a (b + 1) = true) := Lib.hid (by rw [HA.out, hA, hbb, decide_eq_false hbv]; rfl)
                          clear hA hbv hbb u3 u4
                          go_wp2_with fail
                          go_roundw
                          case rel => exact ⟨b + 1, by omega, by go_num, by rw [HX.out], trivial⟩
                          case measure => simp [intOf]; omega
                        · rw [hbb] at s3
                          have HX : Hid (allK g k v a (b + 1) = domB g k b a) := Lib.hid (by rw [HA.out, hA, hbb, decide_eq_false hbv]; simp)
                          clear hA hbv hbb
                          go_wp2_with fail
                          go_roundw
                          case rel => exact ⟨b + 1, by omega, by go_num, by rw [HX.out], trivial⟩
                          case measure => simp [intOf]; omega
                  · obtain rfl : n = b := by omega
                    cases hA : allK g k v a n
                    · have HX : Hid (bestK g k v (a + 1) = z) := Lib.hid (by rw [HBS.out, HY.out, hA]; rfl)
                      clear hA
                      go_wp2_with fail
                      go_roundw
                      case rel => exact ⟨a + 1, by omega, by go_num, by rw [HX.out], trivial⟩
                      case measure => simp [intOf]; omega
                    · have HX : Hid (bestK g k v (a + 1) = (a : Int)) := Lib.hid (by rw [HBS.out, HY.out, hA]; rfl)
                      clear hA
                      go_wp2_with fail
                      go_roundw
                      case rel => exact ⟨a + 1, by omega, by go_num, by rw [HX.out], trivial⟩
                      case measure => simp [intOf]; omega
          · obtain rfl : n = a := by omega
            have hsz := HL.out.2.size
            have HKS := Lib.hid (idomK_succ g k v)
            have hll : (idomK g k v).length < 17592186044416 := by rw [idomK_len]; omega
            obtain ⟨z, hz⟩ : ∃ z, z = bestK g k v n := ⟨_, rfl⟩
            rw [← H2.out.2.2.2.1, ← hz] at HKS
            rw [← hz]
            clear hz
            go_wp2_with (at_builtin; refine wp_append1at (f := Value.int .i64) sIntG rfl _ rfl _ _ rfl W2'.heap.size _ (idomK g k v) rfl (HL.out.1.alloc _) z ⟨wr.heap.size, 0, none⟩ rfl (cell_alloc1 _ _ _) rfl hll (by omega) (le_alloc _ hsz) ?_; intro v' w3 hown hgr hat; obtain ⟨s9, c9, rfl⟩ := hown.shape (n := v + 1) (by rw [List.length_append, idomK_len]; rfl); have HO := Lib.hid (And.intro hown ((HL.out.2.alloc hsz _).grown hgr (by rw [World.size_alloc]; omega) (fun q e => (HL.out.1.lt q e).1))); clear hown hgr hat)
            obtain ⟨c0, c1⟩ := H2.out.2.2.1.below HO.out.2
            go_roundw
            case rel => exact ⟨v + 1, s9, c9, by omega, by go_num, rfl, by rw [HKS.out]; exact HO.out⟩
            case measure => simp [intOf]; omega
      · obtain rfl : n = v := by omega
        go_wp2_with fail
        go_ret2
        refine ⟨la, lc, ?_, ?_, H2.out.2.1.trans (HL.out.2.mono (Nat.le_of_lt hbW))⟩
        · rw [HZ.out, HV.out.2.2, Int.toNat_natCast, idomL_len, ← H2.out.2.2.2.1]; rfl
        · rw [HZ.out, Int.toNat_natCast, idomL_len, ← H2.out.2.2.2.1]
          have h9 := HL.out.1.lst
          rw [show idomL g k = idomK g k n by rw [H2.out.2.2.2.1]; rfl]
          exact h9
  · have HZ : Hid (idomZ g r = []) := Lib.hid (by unfold idomZ; rw [if_neg hc])
    have hq : (dcode g r != 0) = true := by simpa using hc
    clear hc
    go_wp2_with fail
    go_ret2
    refine ⟨none, 0, ?_, ?_, H1.out.2.1⟩
    · rw [HZ.out]; rfl
    · rw [HZ.out]; exact Lst.nil _ _
set_option maxHeartbeats 3200000 in
set_option maxRecDepth 100000 in
theorem rStrict_any (g : G) (cv : Value) (r v : Int) (W : World) (h : Pairs W cv g.es) : Calls Try.prog 28 #[GV g cv, .int .i64 r, .int .i64 v] W (StrictR g r v W) := by
  obtain ⟨ca, cc, rfl, -, -, -⟩ := pairs_rd h
  have hal := (Below.refl W.heap.size W).alloc (Nat.le_refl _) (.cells #[.int .i64 g.n, .slice ca g.es.length cc] 24)
  have H0 := Lib.hid (And.intro (h.below hal) (And.intro hal (BoxG.new W g.n (.slice ca g.es.length cc) 24)))
  clear h hal
  unfold GV
  go_enter Try.func28, Try.ntmps28
  go_wp2_with fail
  have hck := rcheck_any g (.slice ca g.es.length cc) r _ H0.out.1
  unfold GV at hck
  refine hck.mono ?_
  rintro e W1 ⟨rfl, r1⟩
  have H1 := Lib.hid (And.intro (H0.out.1.below r1) (And.intro (H0.out.2.1.trans (r1.mono H0.out.2.1.size)) (H0.out.2.2.below r1)))
  clear r1 hck
  obtain ⟨c0, c1⟩ := H1.out.2.2
  by_cases hc : dcode g r = 0
  · obtain ⟨v1, v2, v3⟩ := dcode_ok hc
    obtain ⟨k, rfl⟩ : ∃ k : Nat, r = (k : Int) := ⟨r.toNat, by omega⟩
    rw [Int.toNat_natCast] at v3
    have HV := Lib.hid (And.intro v1 (And.intro v3 hc))
    clear v1 v2 v3
    have hq : (dcode g (k : Int) != 0) = false := by simpa using hc
    clear hc
    by_cases hv0 : 0 ≤ v
    · have q1 : decide (v < 0) = false := decide_eq_false (by omega)
      by_cases hv1 : v < g.n
      · have q2 : decide (v ≥ g.n) = false := decide_eq_false (by omega)
        obtain ⟨v, rfl⟩ : ∃ k : Nat, v = (k : Int) := ⟨v.toNat, by omega⟩
        have hvn : v < g.n.toNat := by omega
        have HVN := Lib.hid hvn
        clear hv0 hv1
        have hb := rTable_any g (.slice ca g.es.length cc) k W1 H1.out.1 HV.out.1
        unfold GV at hb
        have HB := Lib.hid hb
        clear hb
        go_wp2_with fail
        refine HB.out.mono ?_
        rintro e W2 ⟨ta, tc, vs, rfl, hT, b2⟩
        obtain ⟨n, hn⟩ : ∃ n, n = g.n.toNat := ⟨_, rfl⟩
        have hgn : g.n = (n : Int) := by have := HV.out.1.n0; omega
        have hn8 : n ≤ 8192 := by have := HV.out.1.n1; omega
        rw [← hn] at hT ⊢
        have H2 := Lib.hid (And.intro hT (And.intro (H1.out.2.1.trans (b2.mono H1.out.2.1.size)) (And.intro (H1.out.2.2.below b2) (And.intro hn hgn))))
        clear hT b2 hn hgn HB c0 c1
        obtain ⟨c0, c1⟩ := H2.out.2.2.1
        rw [H2.out.2.2.2.2] at c0
        have hbW : W.heap.size < W2.heap.size := World.block_lt_of_cell? W2 ⟨W.heap.size, 0, none⟩ c0
        go_wp2_with fail
        clear c0 c1
        have hvn2 : v < n := by have := HVN.out; have := H2.out.2.2.2.1; omega
        obtain ⟨W2', hW2⟩ : ∃ Z, Z = W2 := ⟨_, rfl⟩
        rw [← hW2] at H2 hbW
        have HB2 := Lib.hid (show Below W2'.heap.size W2' W2 by rw [hW2]; exact Below.refl _ _)
        clear hW2 hvn
        go_loopw [7, 9] (fun lv x wr => ∃ (a : Nat) (la : Option Addr) (lc : Nat), a ≤ n ∧ x = .int .i64 (a : Int) ∧ lv = .slice la (strK g k v a).length lc ∧ Hid (OwnI wr W2'.heap.size 3 (.slice la (strK g k v a).length lc) ((strK g k v a).map fun x : Nat => (x : Int)) ∧ Below W2'.heap.size W2' wr)) (fun _ x _ => n - (intOf x).toNat)
        case atStart => exact ⟨0, none, 0, by omega, rfl, rfl, Go.Dfl.Own.nil _ _ _ _, HB2.out⟩
        case round =>
          obtain ⟨a, la, lc, ha, rfl, rfl, hh⟩ := hrel
          have HL := Lib.hid hh.out
          clear hh
          obtain ⟨c0, c1⟩ := H2.out.2.2.1.below HL.out.2
          rw [H2.out.2.2.2.2] at c0
          have HTT := Lib.hid (Grid.bel H2.out.1 HL.out.2)
          have hsl := strK_len g k v a
          by_cases hat : a < n
          · have hal : (a : Int) < (n : Int) := by omega
            by_cases hav : a = v
            · have w1 : ((a : Int) != (v : Int)) = false := by simp; omega
              have HX := Lib.hid (strK_no (g := g) (r := k) (.inl hav))
              clear hav
              go_wp2_with fail
              go_roundw
              case rel => exact ⟨a + 1, la, lc, by omega, by go_num, by rw [HX.out], by rw [HX.out]; exact HL.out⟩
              case measure => simp [intOf]; omega
            · have w1 : ((a : Int) != (v : Int)) = true := by simp; omega
              obtain ⟨ra, rc, t1, t2, t3, t4⟩ := tab_rd HTT.out H2.out.2.2.2.1 hat hvn2
              cases hdb : domB g k a v
              · rw [hdb] at t3
                have HX := Lib.hid (strK_no (.inr hdb))
                clear hdb hav
                go_wp2_with fail
                go_roundw
                case rel => exact ⟨a + 1, la, lc, by omega, by go_num, by rw [HX.out], by rw [HX.out]; exact HL.out⟩
                case measure => simp [intOf]; omega
              · rw [hdb] at t3
                have HX := Lib.hid (strK_yes hav hdb)
                have hsz := HL.out.2.size
                have hll : ((strK g k v a).map fun x : Nat => (x : Int)).length < 17592186044416 := by rw [List.length_map]; omega
                clear hdb hav
                go_wp2_with (at_builtin; refine wp_append1at (f := Value.int .i64) sIntG rfl _ rfl _ _ rfl W2'.heap.size _ ((strK g k v a).map fun x : Nat => (x : Int)) rfl (HL.out.1.alloc _) (a : Int) ⟨wr.heap.size, 0, none⟩ rfl (cell_alloc1 _ _ _) rfl hll (by omega) (le_alloc _ hsz) ?_; intro v' w3 hown hgr hat; obtain ⟨s9, c9, rfl⟩ := hown.shape (n := (strK g k v a).length + 1) (by rw [List.length_append, List.length_map]; rfl); have HO := Lib.hid (And.intro hown ((HL.out.2.alloc hsz _).grown hgr (by rw [World.size_alloc]; omega) (fun q e => (HL.out.1.lt q e).1))); clear hown hgr hat)
                obtain ⟨c0, c1⟩ := H2.out.2.2.1.below HO.out.2
                go_roundw
                case rel => exact ⟨a + 1, s9, c9, by omega, by go_num, by rw [HX.out, List.length_append]; rfl, by rw [HX.out, List.length_append, List.map_append]; exact HO.out⟩
                case measure => simp [intOf]; omega
          · obtain rfl : n = a := by omega
            go_wp2_with fail
            go_ret
            have h9 := HL.out.1.lst
            have hlm : ((strK g k v n).map fun x : Nat => (x : Int)).length = (strK g k v n).length := List.length_map ..
            refine ⟨la, lc, (strK g k v n).map fun x : Nat => (x : Int), by rw [hlm]; rfl, by rw [hlm]; exact h9, H2.out.2.1.trans (HL.out.2.mono (Nat.le_of_lt hbW)), ?_⟩
            rw [H2.out.2.2.2.1]
            exact strK_str HV.out.1 HV.out.2.1 HVN.out HV.out.2.2
      · have q2 : decide (v ≥ g.n) = true := decide_eq_true (by omega)
        have HE : Hid (StrP g (k : Int) v []) := Lib.hid ⟨List.Pairwise.nil, fun y => by
          rw [domD_iff HV.out.1 HV.out.2.1 HV.out.2.2]
          refine ⟨fun h => by simp at h, ?_⟩
          rintro ⟨⟨a, b, rfl, rfl, hd⟩, -⟩
          have := (dom_lt HV.out.1 HV.out.2.1 hd).2
          have := HV.out.1.n0
          omega⟩
        clear hv0 hv1
        go_wp2_with fail
        go_ret
        exact ⟨none, 0, [], rfl, Lst.nil _ _, H1.out.2.1, HE.out⟩
    · have q1 : decide (v < 0) = true := decide_eq_true (by omega)
      have HE : Hid (StrP g (k : Int) v []) := Lib.hid ⟨List.Pairwise.nil, fun y => by
        rw [domD_iff HV.out.1 HV.out.2.1 HV.out.2.2]
        refine ⟨fun h => by simp at h, ?_⟩
        rintro ⟨⟨a, b, rfl, rfl, hd⟩, -⟩
        omega⟩
      clear hv0
      go_wp2_with fail
      go_ret
      exact ⟨none, 0, [], rfl, Lst.nil _ _, H1.out.2.1, HE.out⟩
  · have HE : Hid (StrP g r v []) := Lib.hid ⟨List.Pairwise.nil, fun y => by unfold domD; rw [decide_eq_false hc]; simp⟩
    have hq : (dcode g r != 0) = true := by simpa using hc
    clear hc
    go_wp2_with fail
    go_ret
    exact ⟨none, 0, [], rfl, Lst.nil _ _, H1.out.2.1, HE.out⟩
set_option maxHeartbeats 3200000 in
set_option maxRecDepth 100000 in
theorem rDominates_any (g : G) (cv : Value) (r a b : Int) (W : World) (h : Pairs W cv g.es) : Calls Try.prog 26 #[GV g cv, .int .i64 r, .int .i64 a, .int .i64 b] W (BoolR (domD g r a b) W) := by
  obtain ⟨ca, cc, rfl, -, -, -⟩ := pairs_rd h
  have hal := (Below.refl W.heap.size W).alloc (Nat.le_refl _) (.cells #[.int .i64 g.n, .slice ca g.es.length cc] 24)
  have H0 := Lib.hid (And.intro (h.below hal) (And.intro hal (BoxG.new W g.n (.slice ca g.es.length cc) 24)))
  clear h hal
  unfold GV
  go_enter Try.func26, Try.ntmps26
  go_wp2_with fail
  have hck := rcheck_any g (.slice ca g.es.length cc) r _ H0.out.1
  unfold GV at hck
  refine hck.mono ?_
  rintro e W1 ⟨rfl, r1⟩
  have H1 := Lib.hid (And.intro (H0.out.1.below r1) (And.intro (H0.out.2.1.trans (r1.mono H0.out.2.1.size)) (H0.out.2.2.below r1)))
  clear r1 hck
  obtain ⟨c0, c1⟩ := H1.out.2.2
  have hout : (nodeB g.n a = false ∨ nodeB g.n b = false) → domD g r a b = false := fun hx => by
    unfold domD domZ reachB
    rcases hx with hx | hx <;> rw [hx] <;> simp
  have HOUT := Lib.hid hout
  clear hout
  by_cases hc : dcode g r = 0
  · obtain ⟨v1, v2, v3⟩ := dcode_ok hc
    obtain ⟨k, rfl⟩ : ∃ k : Nat, r = (k : Int) := ⟨r.toNat, by omega⟩
    rw [Int.toNat_natCast] at v3
    have HV := Lib.hid (And.intro v1 (And.intro v3 hc))
    clear v1 v2 v3
    have hq : (dcode g (k : Int) != 0) = false := by simpa using hc
    clear hc
    by_cases ha0 : 0 ≤ a
    rotate_left
    · have q1 : decide (a < 0) = true := decide_eq_true (by omega)
      have HD : Hid (domD g (k : Int) a b = false) := Lib.hid (HOUT.out (.inl (nodeB_no (by omega))))
      clear ha0
      go_wp2_with fail
      go_ret
      exact ⟨by rw [HD.out]; rfl, H1.out.2.1⟩
    have q1 : decide (a < 0) = false := decide_eq_false (by omega)
    by_cases ha1 : a < g.n
    rotate_left
    · have q2 : decide (a ≥ g.n) = true := decide_eq_true (by omega)
      have HD : Hid (domD g (k : Int) a b = false) := Lib.hid (HOUT.out (.inl (nodeB_no (by omega))))
      clear ha0 ha1
      go_wp2_with fail
      go_ret
      exact ⟨by rw [HD.out]; rfl, H1.out.2.1⟩
    have q2 : decide (a ≥ g.n) = false := decide_eq_false (by omega)
    by_cases hb0 : 0 ≤ b
    rotate_left
    · have q3 : decide (b < 0) = true := decide_eq_true (by omega)
      have HD : Hid (domD g (k : Int) a b = false) := Lib.hid (HOUT.out (.inr (nodeB_no (by omega))))
      clear ha0 ha1 hb0
      go_wp2_with fail
      go_ret
      exact ⟨by rw [HD.out]; rfl, H1.out.2.1⟩
    have q3 : decide (b < 0) = false := decide_eq_false (by omega)
    by_cases hb1 : b < g.n
    rotate_left
    · have q4 : decide (b ≥ g.n) = true := decide_eq_true (by omega)
      have HD : Hid (domD g (k : Int) a b = false) := Lib.hid (HOUT.out (.inr (nodeB_no (by omega))))
      clear ha0 ha1 hb0 hb1
      go_wp2_with fail
      go_ret
      exact ⟨by rw [HD.out]; rfl, H1.out.2.1⟩
    have q4 : decide (b ≥ g.n) = false := decide_eq_false (by omega)
    obtain ⟨a, rfl⟩ : ∃ k : Nat, a = (k : Int) := ⟨a.toNat, by omega⟩
    obtain ⟨b, rfl⟩ : ∃ k : Nat, b = (k : Int) := ⟨b.toNat, by omega⟩
    have HAB := Lib.hid (show a < g.n.toNat ∧ b < g.n.toNat from ⟨by omega, by omega⟩)
    have HD : Hid (domD g (k : Int) (a : Int) (b : Int) = domB g k a b) := Lib.hid (by
      unfold domD
      rw [decide_eq_true HV.out.2.2, Int.toNat_natCast, domZ_nat HV.out.1 HV.out.2.1 HAB.out.1 HAB.out.2]; rfl)
    clear ha0 ha1 hb0 hb1
    have hb := rTable_any g (.slice ca g.es.length cc) k W1 H1.out.1 HV.out.1
    unfold GV at hb
    have HB := Lib.hid hb
    clear hb
    go_wp2_with fail
    refine HB.out.mono ?_
    rintro e W2 ⟨ta, tc, vs, rfl, hT, b2⟩
    obtain ⟨n, hn⟩ : ∃ n, n = g.n.toNat := ⟨_, rfl⟩
    rw [← hn] at hT ⊢
    obtain ⟨ra, rc, t1, t2, t3, t4⟩ := tab_rd hT hn (show a < n by have := HAB.out.1; omega) (show b < n by have := HAB.out.2; omega)
    have H2 := Lib.hid (H1.out.2.1.trans (b2.mono H1.out.2.1.size))
    clear hT b2 hn c0 c1
    go_wp2_with fail
    go_ret
    exact ⟨by rw [HD.out]; rfl, H2.out⟩
  · have HD : Hid (domD g r a b = false) := Lib.hid (by unfold domD; rw [decide_eq_false hc]; rfl)
    have hq : (dcode g r != 0) = true := by simpa using hc
    clear hc
    go_wp2_with fail
    go_ret
    exact ⟨by rw [HD.out]; rfl, H1.out.2.1⟩
end Go.Proofs.Ytlijimdkadobmaa
