/- The closed example of the statements on demand queries: awake; sameInts. -/
import Derived.Test.YtkfhopnolflchaaDma
namespace Go.Proofs.Ytkfhopnolflchaa
open Go.RowKit Go.Dfl Go.And

def rsD : List RC := [⟨1, 1, 0, 0, none, 0, 0⟩, ⟨2, 0, 1, 0, none, 0, 0⟩, ⟨2, 1, 2, 0, none, 0, 0⟩, ⟨4, 2, 3, 0, none, 0, 0⟩]
theorem ints_rd {W : World} {a : Option Addr} {n c : Nat} {L : List Int} (h : Ints W (.slice a n c) L) (hn : L.length = n) {j : Nat} (hj : j < n) : (∀ Z, (Instr.indexAt 27 (.slice a n c) (.int .i64 (j : Int))).run Try.prog Z = .ok (.pointer (some ⟨blk a, ofs a + j, none⟩)) Z) ∧ W.cell? ⟨blk a, ofs a + j, none⟩ = some (.int .i64 (nth L j)) := by
  obtain ⟨a3, c3, he3, -, hi3, hc3, -⟩ := h.out1 sIntD
  simp only [Value.slice.injEq] at he3
  obtain ⟨rfl, -, rfl⟩ := he3
  rw [hn] at hi3 hc3
  refine ⟨fun Z => ?_, hc3 j hj⟩
  have := hi3 .i64 (j : Int) (by omega) (by omega) Z
  simpa using this
set_option maxHeartbeats 6400000 in
set_option maxRecDepth 100000 in
theorem awake_any (W : World) : Calls Try.prog 8 #[] W (TruePost W) := by
  go_enter Try.func8, Try.ntmps8
  go_wp2_with fail
  have hc0 := cells_new (W := W) (cs := rsD.flatMap RC.vals) (t := 37) rfl
  have hx0 : ConsIn (W.alloc (.cells (rsD.flatMap RC.vals).toArray 37)) (.slice (some ⟨W.heap.size, 0, none⟩) 4 4) sD.cons := consIn_lit _ sD.cons rfl (by decide) hc0 (fun i hi => by
    have : i = 0 ∨ i = 1 ∨ i = 2 ∨ i = 3 := by have : sD.cons.length = 4 := rfl; omega
    rcases this with rfl | rfl | rfl | rfl <;> exact ⟨rfl, rfl, rfl, rfl, rfl, rfl⟩)
  refine calls_gen (fun Z => SysB (W.heap.size + 1) sD (.slice (some ⟨W.heap.size, 0, none⟩) 4 4) Z ∧ Below W.heap.size W Z) ⟨?_, below2' _ _ _⟩ ?_
  · have := SysB.new hx0 24
    rw [show (W.alloc (.cells (rsD.flatMap RC.vals).toArray 37)).heap.size = W.heap.size + 1 by simp only [World.size_alloc]] at this
    exact this
  clear hc0 hx0
  rintro Z0 h0
  obtain ⟨bw, hbw⟩ : ∃ b, b = W.heap.size := ⟨_, rfl⟩
  obtain ⟨bs, hbs⟩ : ∃ b, b = W.heap.size + 1 := ⟨_, rfl⟩
  have H0 : Hid (SysB bs sD (.slice (some ⟨bw, 0, none⟩) 4 4) Z0 ∧ Below W.heap.size W Z0) := by rw [hbw, hbs]; exact h0
  rw [← hbs, ← hbw]
  clear h0 hbw hbs
  refine (Query_any sD (.slice (some ⟨bw, 0, none⟩) 4 4) 2 3 Z0 H0.out.1.cons sm_sD).mono ?_
  rintro e W1 ⟨a1, c1, L1, code1, rfl, hI1, hq, r1⟩
  obtain ⟨rfl, rfl⟩ := q23 hq
  rw [show ([1] : List Int).length = 1 from rfl] at hI1 ⊢
  have H1 := Lib.hid (And.intro (H0.out.1.below r1) (And.intro (H0.out.2.trans (r1.mono H0.out.2.size)) hI1))
  clear hq hI1 r1 H0
  have d0 : W1.cell? ⟨bs, 0, none⟩ = some (.int .i64 4) := H1.out.1.box.1
  have d1 : W1.cell? ⟨bs, 1, none⟩ = some (.int .i64 2) := H1.out.1.box.2.1
  have d2 : W1.cell? ⟨bs, 2, none⟩ = some (.int .i64 1) := H1.out.1.box.2.2.1
  have d3 : W1.cell? ⟨bs, 3, none⟩ = some (.slice (some ⟨bw, 0, none⟩) 4 4) := H1.out.1.box.2.2.2
  go_wp2_with fail
  clear d0 d1 d2 d3
  refine (Query_any sD (.slice (some ⟨bw, 0, none⟩) 4 4) 2 2 W1 H1.out.1.cons sm_sD).mono ?_
  rintro e W2 ⟨a2, c2, L2, code2, rfl, hI2, hq, r2⟩
  obtain ⟨rfl, rfl⟩ := q22 hq
  rw [show ([0, 1] : List Int).length = 2 from rfl]
  have H2 := Lib.hid (And.intro (H1.out.1.below r2) (And.intro (H1.out.2.1.trans (r2.mono H1.out.2.1.size)) (H1.out.2.2.below r2)))
  clear hq hI2 r2 H1
  have d0 : W2.cell? ⟨bs, 0, none⟩ = some (.int .i64 4) := H2.out.1.box.1
  have d1 : W2.cell? ⟨bs, 1, none⟩ = some (.int .i64 2) := H2.out.1.box.2.1
  have d2 : W2.cell? ⟨bs, 2, none⟩ = some (.int .i64 1) := H2.out.1.box.2.2.1
  have d3 : W2.cell? ⟨bs, 3, none⟩ = some (.slice (some ⟨bw, 0, none⟩) 4 4) := H2.out.1.box.2.2.2
  go_wp2_with fail
  clear d0 d1 d2 d3
  refine (Query_any sD (.slice (some ⟨bw, 0, none⟩) 4 4) 4 3 W2 H2.out.1.cons sm_sD).mono ?_
  rintro e W3 ⟨a3, c3, L3, code3, rfl, hI3, hq, r3⟩
  obtain ⟨rfl, rfl⟩ := q43 hq
  rw [show ([] : List Int).length = 0 from rfl]
  have H3 := Lib.hid (And.intro (H2.out.1.below r3) (And.intro (H2.out.2.1.trans (r3.mono H2.out.2.1.size)) (H2.out.2.2.below r3)))
  clear hq hI3 r3 H2
  have d0 : W3.cell? ⟨bs, 0, none⟩ = some (.int .i64 4) := H3.out.1.box.1
  have d1 : W3.cell? ⟨bs, 1, none⟩ = some (.int .i64 2) := H3.out.1.box.2.1
  have d2 : W3.cell? ⟨bs, 2, none⟩ = some (.int .i64 1) := H3.out.1.box.2.2.1
  have d3 : W3.cell? ⟨bs, 3, none⟩ = some (.slice (some ⟨bw, 0, none⟩) 4 4) := H3.out.1.box.2.2.2
  go_wp2_with fail
  clear d0 d1 d2 d3
  refine (Needs_any sD (.slice (some ⟨bw, 0, none⟩) 4 4) 2 W3 H3.out.1.cons sm_sD).mono ?_
  rintro e W4 ⟨a4, c4, L4, rfl, hI4, hq, r4⟩
  obtain rfl := n2 hq
  rw [show ([0, 1, 2] : List Int).length = 3 from rfl] at hI4 ⊢
  rw [dcode_sD (v := 2) (by omega) (by omega)]
  have H4 := Lib.hid (And.intro (H3.out.1.below r4) (And.intro (H3.out.2.1.trans (r4.mono H3.out.2.1.size)) (And.intro (H3.out.2.2.below r4) hI4)))
  clear hq hI4 r4 H3
  have d0 : W4.cell? ⟨bs, 0, none⟩ = some (.int .i64 4) := H4.out.1.box.1
  have d1 : W4.cell? ⟨bs, 1, none⟩ = some (.int .i64 2) := H4.out.1.box.2.1
  have d2 : W4.cell? ⟨bs, 2, none⟩ = some (.int .i64 1) := H4.out.1.box.2.2.1
  have d3 : W4.cell? ⟨bs, 3, none⟩ = some (.slice (some ⟨bw, 0, none⟩) 4 4) := H4.out.1.box.2.2.2
  go_wp2_with fail
  clear d0 d1 d2 d3
  refine (Slice_any sD (.slice (some ⟨bw, 0, none⟩) 4 4) 2 W4 H4.out.1.cons sm_sD).mono ?_
  rintro e W5 ⟨a5, c5, t5, rfl, hc5, hq, r5⟩
  obtain rfl := sl2 hq
  rw [dcode_sD (v := 2) (by omega) (by omega)]
  have ht : SysV (⟨4, 2, 1, [⟨1, 1, 0, 0, []⟩, ⟨2, 0, 1, 0, []⟩, ⟨2, 1, 2, 0, []⟩]⟩ : Sy) (.slice a5 (⟨4, 2, 1, [⟨1, 1, 0, 0, []⟩, ⟨2, 0, 1, 0, []⟩, ⟨2, 1, 2, 0, []⟩]⟩ : Sy).cons.length c5) = .agg #[.int .i64 4, .int .i64 2, .int .i64 1, .slice a5 3 c5] := rfl
  rw [ht]
  have H5 := Lib.hid (And.intro (H4.out.1.below r5) (And.intro (H4.out.2.1.trans (r5.mono H4.out.2.1.size)) (And.intro (H4.out.2.2.1.below r5) (H4.out.2.2.2.below r5))))
  clear hq hc5 r5 H4 ht
  have d0 : W5.cell? ⟨bs, 0, none⟩ = some (.int .i64 4) := H5.out.1.box.1
  have d1 : W5.cell? ⟨bs, 1, none⟩ = some (.int .i64 2) := H5.out.1.box.2.1
  have d2 : W5.cell? ⟨bs, 2, none⟩ = some (.int .i64 1) := H5.out.1.box.2.2.1
  have d3 : W5.cell? ⟨bs, 3, none⟩ = some (.slice (some ⟨bw, 0, none⟩) 4 4) := H5.out.1.box.2.2.2
  have nb : bs < W5.heap.size := World.block_lt_of_cell? W5 _ d0
  have nb2 : bs ≠ W5.heap.size := by omega
  go_wp2_with fail
  clear d0 d1 d2 d3
  clear nb nb2
  have hal : Below W5.heap.size W5 (W5.alloc (.cells #[.int .i64 4, .int .i64 2, .int .i64 1, .slice a5 3 c5] 24)) := (Below.refl _ _).alloc (Nat.le_refl _) _
  have ct := cells_new (W := W5) (cs := [.int .i64 4, .int .i64 2, .int .i64 1, .slice a5 3 c5]) (t := 24) rfl
  refine calls_gen (fun Z => SysB bs sD (.slice (some ⟨bw, 0, none⟩) 4 4) Z ∧ Below W.heap.size W Z ∧ Ints Z (.slice a1 1 c1) [1] ∧ Ints Z (.slice a4 3 c4) [0, 1, 2] ∧ Z.cell? ⟨W5.heap.size, 0, none⟩ = some (.int .i64 4) ∧ Z.cell? ⟨W5.heap.size, 3, none⟩ = some (.slice a5 3 c5)) ⟨H5.out.1.below hal, H5.out.2.1.alloc H5.out.2.1.size _, H5.out.2.2.1.below hal, H5.out.2.2.2.below hal, ct 0 _ rfl, ct 3 _ rfl⟩ ?_
  rintro Z5 h5
  obtain ⟨bt, hbt⟩ : ∃ b, b = W5.heap.size := ⟨_, rfl⟩
  rw [← hbt] at h5 ⊢
  have H6 := Lib.hid h5
  clear h5 hbt H5 hal ct
  refine (Alias_one sD (.slice (some ⟨bw, 0, none⟩) 4 4) 0 2 3 1 Z5 H6.out.1.cons sm_sD q03 q23).mono ?_
  rintro e W7 ⟨rfl, r7⟩
  have g7 := grownBy_below r7
  have H7 := Lib.hid (And.intro (H6.out.1.below r7) (And.intro (H6.out.2.1.trans (r7.mono H6.out.2.1.size)) (And.intro (H6.out.2.2.1.below r7) (And.intro (H6.out.2.2.2.1.below r7) (And.intro (g7.cell H6.out.2.2.2.2.1 (by simp)) (g7.cell H6.out.2.2.2.2.2 (by simp)))))))
  clear r7 g7 H6
  have d0 : W7.cell? ⟨bs, 0, none⟩ = some (.int .i64 4) := H7.out.1.box.1
  have d1 : W7.cell? ⟨bs, 1, none⟩ = some (.int .i64 2) := H7.out.1.box.2.1
  have d2 : W7.cell? ⟨bs, 2, none⟩ = some (.int .i64 1) := H7.out.1.box.2.2.1
  have d3 : W7.cell? ⟨bs, 3, none⟩ = some (.slice (some ⟨bw, 0, none⟩) 4 4) := H7.out.1.box.2.2.2
  go_wp2_with fail
  clear d0 d1 d2 d3
  refine (Alias_nil sD (.slice (some ⟨bw, 0, none⟩) 4 4) 3 3 3 W7 H7.out.1.cons sm_sD q33 q33).mono ?_
  rintro e W8 ⟨rfl, r8⟩
  have g8 := grownBy_below r8
  have t0 := g8.cell H7.out.2.2.2.2.1 (by simp)
  have t3 := g8.cell H7.out.2.2.2.2.2 (by simp)
  obtain ⟨ia, xa⟩ := ints_rd (H7.out.2.2.1.below r8) rfl (j := 0) (by omega)
  obtain ⟨il, xl⟩ := ints_rd (H7.out.2.2.2.1.below r8) rfl (j := 2) (by omega)
  have xa' : W8.cell? ⟨blk a1, ofs a1, none⟩ = some (.int .i64 1) := xa
  have xl' : W8.cell? ⟨blk a4, ofs a4 + 2, none⟩ = some (.int .i64 2) := xl
  have ia' : ∀ Z, (Instr.indexAt 27 (.slice a1 1 c1) (.int .i64 0)).run Try.prog Z = .ok (.pointer (some ⟨blk a1, ofs a1, none⟩)) Z := ia
  have il' : ∀ Z, (Instr.indexAt 27 (.slice a4 3 c4) (.int .i64 2)).run Try.prog Z = .ok (.pointer (some ⟨blk a4, ofs a4 + 2, none⟩)) Z := il
  have H8 := Lib.hid (H7.out.2.1.trans (r8.mono H7.out.2.1.size))
  clear r8 g8 H7 xa xl ia il
  go_wp2_with fail
  go_ret
  exact ⟨rfl, H8.out⟩

set_option maxHeartbeats 1600000 in
theorem sameInts_eq (u v : Value) (l : List Int) (W : World) (hu : Ints W u l) (hv : Ints W v l) : Calls Try.prog 13 #[u, v] W fun e W' => e = .returned (.bool true) ∧ Qt W W' := by
  obtain ⟨a, c, rfl, hm, hi, hc, -⟩ := hu.out1 sIntD
  obtain ⟨a2, c2, rfl, -, hi2, hc2, -⟩ := hv.out1 sIntD
  have HC := Lib.hid (And.intro hc hc2)
  clear hu hv hc hc2
  go_enter Try.func13, Try.ntmps13
  go_wp2_with fail
  go_loopw [5, 13] (fun _ x wr => ∃ k : Nat, k ≤ l.length ∧ x = .int .i64 k ∧ Qt W wr) (fun _ x _ => l.length - (intOf x).toNat)
  case atStart => exact ⟨0, by omega, rfl, by exact (by first | exact Qt.refl _ | exact Qt.drewN _ _ | exact (Qt.drewN _ _).trans (Qt.drewN _ _) | exact ((Qt.drewN _ _).trans (Qt.drewN _ _)).trans (Qt.drewN _ _) | exact Qt.drew _ | exact (Qt.drewN _ _).trans (Qt.drew _))⟩
  case round =>
    obtain ⟨k, hk, rfl, ⟨nw, rfl⟩⟩ := hrel
    by_cases hlt : k < l.length
    · have c1 := HC.out.1 k hlt
      have c2 := HC.out.2 k hlt
      have hne : (nth l k != nth l k) = false := by simp
      go_wp2_with fail
      go_quiet (fail)
      go_wp2_with fail
      go_roundw
      case rel => exact ⟨k + 1, by omega, by go_num, (by first | exact Qt.refl _ | exact Qt.drewN _ _ | exact (Qt.drewN _ _).trans (Qt.drewN _ _) | exact ((Qt.drewN _ _).trans (Qt.drewN _ _)).trans (Qt.drewN _ _) | exact Qt.drew _ | exact (Qt.drewN _ _).trans (Qt.drew _))⟩
      case measure => simp [intOf]; omega
    · go_wp2_with fail
      go_ret
      exact ⟨rfl, (by first | exact Qt.refl _ | exact Qt.drewN _ _ | exact (Qt.drewN _ _).trans (Qt.drewN _ _) | exact ((Qt.drewN _ _).trans (Qt.drewN _ _)).trans (Qt.drewN _ _) | exact Qt.drew _ | exact (Qt.drewN _ _).trans (Qt.drew _))⟩
end Go.Proofs.Ytkfhopnolflchaa
