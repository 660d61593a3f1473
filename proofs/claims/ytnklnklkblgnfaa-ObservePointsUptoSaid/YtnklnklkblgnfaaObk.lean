/- Contracts of Stack and of the reference's Stack. -/
import Derived.Test.YtnklnklkblgnfaaObr
namespace Go.Proofs.Ytnklnklkblgnfaa
open Go.RowKit Go.Dfl Go.Gra Go.Obs Go.Sort Go.Maps
abbrev cz (l : List Nat) : List Int := l.map fun x : Nat => (x : Int)
def StkR (o : List Ob) (step : Int) (W : World) (e : Ending) (W' : World) : Prop := ∃ a c, e = .returned (.slice a (stk o step).length c) ∧ Ints W' (.slice a (stk o step).length c) (stk o step) ∧ Below W.heap.size W W'
/-- A boxed execution. -/
structure ExB (W : World) (x : Ex) (ov : Value) (Z : World) : Prop where
  box : Z.cell? ⟨W.heap.size, 1, none⟩ = some ov ∧ Z.cell? ⟨W.heap.size, 0, none⟩ = some (.int .i64 x.e)
  ex : ExIn Z ov x
  bel : Below W.heap.size W Z
theorem ExB.new {W : World} {x : Ex} {ov : Value} (h : ExIn W ov x) : ExB W x ov (W.alloc (.cells #[.int .i64 x.e, ov] 24)) := by
  have hal := (Below.refl W.heap.size W).alloc (Nat.le_refl _) (.cells #[.int .i64 x.e, ov] 24)
  have hbx := cells_new (W := W) (cs := [.int .i64 x.e, ov]) (t := 24) rfl
  exact ⟨⟨hbx 1 _ rfl, hbx 0 _ rfl⟩, h.below hal, hal⟩
theorem ExB.below {W : World} {x : Ex} {ov : Value} {Z Z' : World} (h : ExB W x ov Z) (hb : Below Z.heap.size Z Z') : ExB W x ov Z' :=
  ⟨⟨(hb.cell (World.block_lt_of_cell? _ _ h.box.1)).trans h.box.1, (hb.cell (World.block_lt_of_cell? _ _ h.box.2)).trans h.box.2⟩, h.ex.below hb, bel_trans h.bel hb⟩
set_option maxHeartbeats 3200000 in
set_option maxRecDepth 100000 in
theorem stack_any (x : Ex) (ov : Value) (step : Int) (W : World) (h : ExIn W ov x) (hn : x.o.length ≤ 1048576) : Calls Try.prog 14 #[exV x ov, .int .i64 step] W (StkR x.o step W) := by
  have H0 := Lib.hid (ExB.new h)
  have hlen := Nat.le_trans hn (by omega : 1048576 ≤ 9223372036854775807)
  obtain ⟨oa, oc, rfl, -, hidx, hcell⟩ := InS.ob H0.out.ex.2
  have HI := Lib.hid (And.intro hidx hcell)
  clear h hidx hcell
  obtain ⟨c1, c0⟩ := H0.out.box
  go_enter Try.func14, Try.ntmps14
  by_cases h0 : 0 ≤ step
  · have w0 : decide (step < 0) = false := decide_eq_false (by omega)
    by_cases h1 : step < (x.o.length : Int)
    · have w1 : decide (step ≥ (x.o.length : Int)) = false := decide_eq_false (by omega)
      obtain ⟨s, rfl⟩ : ∃ s : Nat, step = (s : Int) := ⟨step.toNat, by omega⟩
      have hs : s < x.o.length := by omega
      have w1n : decide (x.o.length ≤ s) = false := decide_eq_false (by omega)
      have HS : Hid (stk x.o (s : Int) = cz (chain x.o s).reverse) := Lib.hid (by unfold stk; rw [if_pos ⟨by omega, by omega⟩, Int.toNat_natCast])
      obtain ⟨hbl, vv, hbd, hvv, hcs⟩ := HI.out.2 s hs
      obtain ⟨-, -, -, o3, -⟩ := hcs _ (Below.refl _ _)
      have j1 := HI.out.1 (s : Int) (by omega) (by omega)
      rw [Int.toNat_natCast] at j1
      obtain ⟨W1, hW1⟩ : ∃ Z, Z = W.alloc (.cells #[.int .i64 x.e, .slice oa x.o.length oc] 24) := ⟨_, rfl⟩
      have H1 : Hid (ExB W x (.slice oa x.o.length oc) W1) := Lib.hid (by rw [hW1]; exact H0.out)
      have HB1 : Hid (Below W1.heap.size W1 (W.alloc (.cells #[.int .i64 x.e, .slice oa x.o.length oc] 24))) := Lib.hid (by rw [hW1]; exact Below.refl _ _)
      have HC := Lib.hid (show ∀ i, i < x.o.length → ∀ Z, Below W1.heap.size W1 Z → Z.cell? ⟨blk oa, ofs oa + i * 5 + 3, none⟩ = some (.int .i64 (nth x.o i).c) from fun i hi Z hZ => by
        obtain ⟨-, vv, -, -, hcs⟩ := HI.out.2 i hi
        exact (hcs Z (by rw [hW1] at hZ; exact hZ)).2.2.2.1)
      clear hbl vv hbd hvv hcs h0 h1 hW1
      go_wp2_with fail
      clear o3 j1 c0 c1 w0 w1 w1n
      go_loopw [1, 5, 6] (fun st cl cc wr => ∃ (P : List Nat) (t : Nat) (a : Option Addr) (c : Nat), st = .int .i64 (t : Int) ∧ cl = .slice a P.length c ∧ cc = .int .i64 (nth x.o t).c ∧ t < x.o.length ∧ Hid (chain x.o s = P ++ chain x.o t ∧ OwnI wr W1.heap.size 3 (.slice a P.length c) (cz P) ∧ Below W1.heap.size W1 wr)) (fun st _ _ _ => (intOf st).toNat)
      case atStart => exact ⟨[], s, none, 0, rfl, rfl, rfl, hs, rfl, Go.Dfl.Own.nil _ _ _ _, HB1.out⟩
      case round =>
        obtain ⟨P, t, a, c, rfl, rfl, rfl, ht, hh⟩ := hrel
        have HL := Lib.hid hh.out
        clear hh
        have hPl : P.length ≤ x.o.length := by
          have h9 := chain_len x.o s s (Nat.le_refl _)
          rw [HL.out.1, List.length_append] at h9
          omega
        by_cases hc : 0 ≤ (nth x.o t).c ∧ (nth x.o t).c < (t : Int)
        · have hst := chain_step x.o hc
          obtain ⟨u, hu⟩ : ∃ u : Nat, (nth x.o t).c = (u : Int) := ⟨(nth x.o t).c.toNat, by omega⟩
          rw [hu] at hc hst ⊢
          rw [Int.toNat_natCast] at hst
          have hut : (u : Int) < (t : Int) := hc.2
          have hul : u < x.o.length := by omega
          have HT : Hid (chain x.o s = (P ++ [u]) ++ chain x.o u) := Lib.hid (by rw [HL.out.1, hst, List.append_assoc]; rfl)
          clear hst hu hc
          obtain ⟨c1, c0⟩ := (H1.out.below HL.out.2.2).box
          have j1 := HI.out.1 (u : Int) (by omega) (by omega)
          rw [Int.toNat_natCast] at j1
          have HCU := Lib.hid (fun Z hZ => HC.out u hul Z hZ)
          have hlen1 : (cz P).length < 17592186044416 := by rw [List.length_map]; omega
          have hsz := HL.out.2.2.size
          go_wp2_with (at_builtin; go_loud (refine wp_append1at (f := Value.int .i64) sIntG rfl _ rfl _ _ rfl W1.heap.size _ (cz P) rfl (HL.out.2.1.alloc _) (u : Int) ⟨wr.heap.size, 0, none⟩ rfl (cell_alloc1 _ _ _) rfl hlen1 (by omega) (le_alloc _ hsz) ?_; intro v' w3 hown hgr hat; obtain ⟨s9, c9, rfl⟩ := hown.shape (n := P.length + 1) (by rw [List.length_append, List.length_map]; rfl); have hb3 := (HL.out.2.2.alloc hsz _).grown hgr (by rw [World.size_alloc]; omega) (fun q e9 => (HL.out.2.1.lt q e9).1); have o3 := HCU.out w3 hb3; obtain ⟨c1, c0⟩ := (H1.out.below hb3).box; have HO := Lib.hid (And.intro hown hb3); clear hown hgr hat hb3))
          go_roundw
          case rel => exact ⟨P ++ [u], u, s9, c9, rfl, by rw [List.length_append]; rfl, rfl, hul, HT.out, by rw [List.length_append, cz, List.map_append]; exact HO.out.1, HO.out.2⟩
          case measure => simp [intOf]; omega
        · have hst := chain_stop x.o hc
          have HT : Hid (chain x.o s = P) := Lib.hid (by rw [HL.out.1, hst, List.append_nil])
          obtain ⟨d, hd⟩ : ∃ d, d = (nth x.o t).c := ⟨_, rfl⟩
          rw [← hd] at hc ⊢
          have hcl : (cz P).length = P.length := List.length_map _
          have hrv := reverse_any W1.heap.size a c (cz P) wr (by rw [hcl]; exact HL.out.2.1) (by rw [hcl]; omega)
          rw [hcl] at hrv
          have HRV := Lib.hid hrv
          clear hst hd hrv hcl
          by_cases hd0 : 0 ≤ d
          · have w1 : decide (d ≥ 0) = true := decide_eq_true hd0
            have w2 : decide (d < (t : Int)) = false := decide_eq_false (fun h9 => hc ⟨hd0, h9⟩)
            clear hc hd0
            go_wp2_with fail
            refine HRV.out.mono ?_
            rintro e W5 ⟨rfl, ho, hg⟩
            have hb5 := HL.out.2.2.grown hg HL.out.2.2.size (fun q e9 => (HL.out.2.1.lt q e9).1)
            have HE := Lib.hid (And.intro ho.lst (bel_trans H1.out.bel hb5))
            clear ho hg hb5
            go_wp2_with fail
            go_ret
            have hl : (stk x.o (s : Int)).length = P.length := by rw [HS.out, HT.out]; simp
            exact ⟨a, c, by rw [hl]; rfl, by rw [hl, HS.out, HT.out, cz, List.map_reverse]; exact HE.out.1, HE.out.2⟩
          · have w1 : decide (d ≥ 0) = false := decide_eq_false hd0
            clear hc hd0
            go_wp2_with fail
            refine HRV.out.mono ?_
            rintro e W5 ⟨rfl, ho, hg⟩
            have hb5 := HL.out.2.2.grown hg HL.out.2.2.size (fun q e9 => (HL.out.2.1.lt q e9).1)
            have HE := Lib.hid (And.intro ho.lst (bel_trans H1.out.bel hb5))
            clear ho hg hb5
            go_wp2_with fail
            go_ret
            have hl : (stk x.o (s : Int)).length = P.length := by rw [HS.out, HT.out]; simp
            exact ⟨a, c, by rw [hl]; rfl, by rw [hl, HS.out, HT.out, cz, List.map_reverse]; exact HE.out.1, HE.out.2⟩
    · have w1 : decide (step ≥ (x.o.length : Int)) = true := decide_eq_true (by omega)
      have HS : Hid (stk x.o step = []) := Lib.hid (by unfold stk; rw [if_neg (fun h9 : 0 ≤ step ∧ step < (x.o.length : Int) => h1 h9.2)])
      have HB := Lib.hid H0.out.bel
      go_wp2_with fail
      go_ret
      exact ⟨none, 0, by rw [HS.out]; rfl, by rw [HS.out]; exact Lst.nil _ _, HB.out⟩
  · have w0 : decide (step < 0) = true := decide_eq_true (by omega)
    have HS : Hid (stk x.o step = []) := Lib.hid (by unfold stk; rw [if_neg (fun h9 : 0 ≤ step ∧ step < (x.o.length : Int) => h0 h9.1)])
    have HB := Lib.hid H0.out.bel
    go_wp2_with fail
    go_ret
    exact ⟨none, 0, by rw [HS.out]; rfl, by rw [HS.out]; exact Lst.nil _ _, HB.out⟩
set_option maxHeartbeats 3200000 in
set_option maxRecDepth 100000 in
theorem rStack_any (x : Ex) (ov : Value) (step : Int) (W : World) (h : ExIn W ov x) (hn : x.o.length ≤ 1048576) : Calls Try.prog 16 #[exV x ov, .int .i64 step] W (StkR x.o step W) := by
  have H0 := Lib.hid (ExB.new h)
  have hlen := Nat.le_trans hn (by omega : 1048576 ≤ 9223372036854775807)
  obtain ⟨oa, oc, rfl, -, hidx, hcell⟩ := InS.ob H0.out.ex.2
  have HI := Lib.hid (And.intro hidx hcell)
  clear h hidx hcell
  obtain ⟨c1, c0⟩ := H0.out.box
  go_enter Try.func16, Try.ntmps16
  by_cases h0 : 0 ≤ step
  · have w0 : decide (step < 0) = false := decide_eq_false (by omega)
    by_cases h1 : step < (x.o.length : Int)
    · have w1 : decide (step ≥ (x.o.length : Int)) = false := decide_eq_false (by omega)
      obtain ⟨s, rfl⟩ : ∃ s : Nat, step = (s : Int) := ⟨step.toNat, by omega⟩
      have hs : s < x.o.length := by omega
      have w1n : decide (x.o.length ≤ s) = false := decide_eq_false (by omega)
      have HS : Hid (stk x.o (s : Int) = cz (chain x.o s).reverse) := Lib.hid (by unfold stk; rw [if_pos ⟨by omega, by omega⟩, Int.toNat_natCast])
      obtain ⟨hbl, vv, hbd, hvv, hcs⟩ := HI.out.2 s hs
      obtain ⟨-, -, -, o3, -⟩ := hcs _ (Below.refl _ _)
      have j1 := HI.out.1 (s : Int) (by omega) (by omega)
      rw [Int.toNat_natCast] at j1
      obtain ⟨W1, hW1⟩ : ∃ Z, Z = W.alloc (.cells #[.int .i64 x.e, .slice oa x.o.length oc] 24) := ⟨_, rfl⟩
      have H1 : Hid (ExB W x (.slice oa x.o.length oc) W1) := Lib.hid (by rw [hW1]; exact H0.out)
      have HB1 : Hid (Below W1.heap.size W1 (W.alloc (.cells #[.int .i64 x.e, .slice oa x.o.length oc] 24))) := Lib.hid (by rw [hW1]; exact Below.refl _ _)
      have HC := Lib.hid (show ∀ i, i < x.o.length → ∀ Z, Below W1.heap.size W1 Z → Z.cell? ⟨blk oa, ofs oa + i * 5 + 3, none⟩ = some (.int .i64 (nth x.o i).c) from fun i hi Z hZ => by
        obtain ⟨-, vv, -, -, hcs⟩ := HI.out.2 i hi
        exact (hcs Z (by rw [hW1] at hZ; exact hZ)).2.2.2.1)
      clear hbl vv hbd hvv hcs h0 h1 hW1
      go_wp2_with fail
      clear o3 j1 c0 c1 w0 w1 w1n
      go_loopw [1, 5, 6] (fun st cl cc wr => ∃ (P : List Nat) (t : Nat) (a : Option Addr) (c : Nat), st = .int .i64 (t : Int) ∧ cl = .slice a P.length c ∧ cc = .int .i64 (nth x.o t).c ∧ t < x.o.length ∧ Hid (chain x.o s = P.reverse ++ chain x.o t ∧ Ints wr (.slice a P.length c) (cz P) ∧ Below W1.heap.size W1 wr)) (fun st _ _ _ => (intOf st).toNat)
      case atStart => exact ⟨[], s, none, 0, rfl, rfl, rfl, hs, rfl, Lst.nil _ _, HB1.out⟩
      case round =>
        obtain ⟨P, t, a, c, rfl, rfl, rfl, ht, hh⟩ := hrel
        have HL := Lib.hid hh.out
        clear hh
        have hPl : P.length ≤ x.o.length := by
          have h9 := chain_len x.o s s (Nat.le_refl _)
          rw [HL.out.1, List.length_append, List.length_reverse] at h9
          omega
        by_cases hc : 0 ≤ (nth x.o t).c ∧ (nth x.o t).c < (t : Int)
        · have hst := chain_step x.o hc
          obtain ⟨u, hu⟩ : ∃ u : Nat, (nth x.o t).c = (u : Int) := ⟨(nth x.o t).c.toNat, by omega⟩
          rw [hu] at hc hst ⊢
          rw [Int.toNat_natCast] at hst
          have hut : (u : Int) < (t : Int) := hc.2
          have hul : u < x.o.length := by omega
          have HT : Hid (chain x.o s = (u :: P).reverse ++ chain x.o u) := Lib.hid (by rw [HL.out.1, hst, List.reverse_cons, List.append_assoc]; rfl)
          clear hst hu hc
          obtain ⟨c1, c0⟩ := (H1.out.below HL.out.2.2).box
          have j1 := HI.out.1 (u : Int) (by omega) (by omega)
          rw [Int.toNat_natCast] at j1
          have HCU := Lib.hid (fun Z hZ => HC.out u hul Z hZ)
          have hsz := HL.out.2.2.size
          have hal := (Below.refl wr.heap.size wr).alloc (Nat.le_refl _) (.cells #[.int .i64 (u : Int)] 3)
          have hI := (HL.out.2.1.below hal).src
          have hcl : (cz P).length = P.length := List.length_map _
          have hw := World.ownsRow_lit (size := 1) (e := 3) (base := wr.heap.size) wr #[.int .i64 (u : Int)] 1 (Nat.le_refl _) (by unfold maxLen; omega) rfl
          have HA := Lib.hid (And.intro (show OwnI (wr.alloc (.cells #[.int .i64 (u : Int)] 3)) wr.heap.size 3 (.slice (some ⟨wr.heap.size, 0, none⟩) 1 1) [(u : Int)] from hw) (And.intro hI hal))
          have hlen1 : [(u : Int)].length + (cz P).length < 5864062014805 := by rw [hcl]; simp; omega
          clear hw hI hal
          go_wp2_with (at_builtin; refine wp_appendS (f := Value.int .i64) sIntG rfl rfl _ _ rfl wr.heap.size (.slice (some ⟨wr.heap.size, 0, none⟩) 1 1) [(u : Int)] rfl (.slice a P.length c) (cz P) rfl HA.out.1 HA.out.2.1 (fun _ _ => rfl) hlen1 (by omega) (by rw [World.size_alloc]; omega) ?_; intro v' w3 hown hgr hat; obtain ⟨s9, c9, rfl⟩ := hown.shape (n := P.length + 1) (by rw [List.length_append, hcl]; simp; omega); have hb3 := HL.out.2.2.trans ((HA.out.2.2.grown hgr (by rw [World.size_alloc]; omega) (fun q e9 => (HA.out.1.lt q e9).1)).mono hsz); have o3 := HCU.out w3 hb3; obtain ⟨c1, c0⟩ := (H1.out.below hb3).box; have HO := Lib.hid (And.intro hown.lst hb3); clear hown hgr hat hb3)
          clear hlen1 hcl
          go_roundw
          case rel => exact ⟨u :: P, u, s9, c9, rfl, rfl, rfl, hul, HT.out, HO.out.1, HO.out.2⟩
          case measure => simp [intOf]; omega
        · have hst := chain_stop x.o hc
          have HT : Hid (chain x.o s = P.reverse) := Lib.hid (by rw [HL.out.1, hst, List.append_nil])
          obtain ⟨d, hd⟩ : ∃ d, d = (nth x.o t).c := ⟨_, rfl⟩
          rw [← hd] at hc ⊢
          clear hst hd
          by_cases hd0 : 0 ≤ d
          · have w1 : decide (d ≥ 0) = true := decide_eq_true hd0
            have w2 : decide (d < (t : Int)) = false := decide_eq_false (fun h9 => hc ⟨hd0, h9⟩)
            clear hc hd0
            have HE := Lib.hid (bel_trans H1.out.bel HL.out.2.2)
            go_wp2_with fail
            go_ret
            have hl : stk x.o (s : Int) = cz P := by rw [HS.out, HT.out, List.reverse_reverse]
            have hl2 : (stk x.o (s : Int)).length = P.length := by rw [hl, List.length_map]
            exact ⟨a, c, by rw [hl2]; rfl, by rw [hl2, hl]; exact HL.out.2.1, HE.out⟩
          · have w1 : decide (d ≥ 0) = false := decide_eq_false hd0
            clear hc hd0
            have HE := Lib.hid (bel_trans H1.out.bel HL.out.2.2)
            go_wp2_with fail
            go_ret
            have hl : stk x.o (s : Int) = cz P := by rw [HS.out, HT.out, List.reverse_reverse]
            have hl2 : (stk x.o (s : Int)).length = P.length := by rw [hl, List.length_map]
            exact ⟨a, c, by rw [hl2]; rfl, by rw [hl2, hl]; exact HL.out.2.1, HE.out⟩
    · have w1 : decide (step ≥ (x.o.length : Int)) = true := decide_eq_true (by omega)
      have HS : Hid (stk x.o step = []) := Lib.hid (by unfold stk; rw [if_neg (fun h9 : 0 ≤ step ∧ step < (x.o.length : Int) => h1 h9.2)])
      have HB := Lib.hid H0.out.bel
      go_wp2_with fail
      go_ret
      exact ⟨none, 0, by rw [HS.out]; rfl, by rw [HS.out]; exact Lst.nil _ _, HB.out⟩
  · have w0 : decide (step < 0) = true := decide_eq_true (by omega)
    have HS : Hid (stk x.o step = []) := Lib.hid (by unfold stk; rw [if_neg (fun h9 : 0 ≤ step ∧ step < (x.o.length : Int) => h0 h9.1)])
    have HB := Lib.hid H0.out.bel
    go_wp2_with fail
    go_ret
    exact ⟨none, 0, by rw [HS.out]; rfl, by rw [HS.out]; exact Lst.nil _ _, HB.out⟩
end Go.Proofs.Ytnklnklkblgnfaa
