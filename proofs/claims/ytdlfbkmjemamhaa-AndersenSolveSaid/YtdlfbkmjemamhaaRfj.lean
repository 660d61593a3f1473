/- Contract of the reference's Same for equal assignments. -/
import Derived.Test.YtdlfbkmjemamhaaRfi
import Derived.Test.YtdlfbkmjemamhaaLwA
namespace Go.Proofs.Ytdlfbkmjemamhaa
open Go.RowKit Go.Dfl Go.And

theorem grid_out {W : World} {ua : Option Addr} {n uc : Nat} {us : List Value} {a : List (List Int)} (h : Grid (Value.int .i64) W (.slice ua n uc) us a) : n = a.length ∧ a.length ≤ 9223372036854775807 ∧
    (∀ x : Int, 0 ≤ x → x < a.length → ∀ Z, (Instr.indexAt 27 (.slice ua a.length uc) (.int .i64 x)).run Try.prog Z = .ok (.pointer (some ⟨blk ua, ofs ua + x.toNat, none⟩)) Z) ∧
    ∀ j, j < a.length → ∃ xa xc, W.cell? ⟨blk ua, ofs ua + j, none⟩ = some (.slice xa (nth a j).length xc) ∧ Ints W (.slice xa (nth a j).length xc) (nth a j) ∧ (nth a j).length ≤ 9223372036854775807 := by
  obtain ⟨va, vc, e, hm, hi, hc, -⟩ := h.1.out1 sInt2
  simp only [Value.slice.injEq] at e
  obtain ⟨rfl, hl, rfl⟩ := e
  rw [h.2.1] at hm hi hc hl
  refine ⟨hl, hm, fun x => hi .i64 x, fun j hj => ?_⟩
  obtain ⟨xa, xc, e2, hx, -⟩ := (h.2.2 j hj).out1 sInt
  refine ⟨xa, xc, ?_, ?_, hx⟩
  · rw [← e2]; exact hc j hj
  · rw [← e2]; exact h.2.2 j hj

set_option maxHeartbeats 3200000 in
set_option maxRecDepth 100000 in
theorem rSame_eq (u1 u2 v1 v2 : Value) (a b : List (List Int)) (W : World) (hu : PtsIn W u1 u2 a b) (hv : PtsIn W v1 v2 a b) :
    Calls Try.prog 13 #[.agg #[u1, u2], .agg #[v1, v2]] W (TruePost W) := by
  obtain ⟨ua1, uc1, ua2, uc2, rfl, rfl⟩ := hu.shape
  obtain ⟨va1, vc1, va2, vc2, rfl, rfl⟩ := hv.shape
  have HC := Lib.hid (And.intro hu hv)
  clear hu hv
  go_enter Try.func13, Try.ntmps13
  go_wp2_with fail
  refine calls_gen (fun Z => PtsB W.heap.size (.slice ua1 a.length uc1) (.slice ua2 b.length uc2) a b Z ∧ PtsB (W.heap.size + 1) (.slice va1 a.length vc1) (.slice va2 b.length vc2) a b Z ∧ Below W.heap.size W Z) ⟨(PtsB.new HC.out.1 29).below ((Below.refl _ _).alloc (Nat.le_refl _) _), ?_, below2' _ _ _⟩ ?_
  · have h := PtsB.new (HC.out.2.below ((Below.refl _ _).alloc (Nat.le_refl _) (.cells #[.slice ua1 a.length uc1, .slice ua2 b.length uc2] 29))) 29
    rw [World.size_alloc] at h
    exact h
  rintro Z0 h0
  obtain ⟨bp, hbp⟩ : ∃ bp, bp = W.heap.size := ⟨_, rfl⟩
  obtain ⟨bq, hbq⟩ : ∃ bq, bq = W.heap.size + 1 := ⟨_, rfl⟩
  have H0 : Hid (PtsB bp (.slice ua1 a.length uc1) (.slice ua2 b.length uc2) a b Z0 ∧ PtsB bq (.slice va1 a.length vc1) (.slice va2 b.length vc2) a b Z0 ∧ Below W.heap.size W Z0) := by rw [hbp, hbq]; exact h0
  rw [← hbq, ← hbp]
  clear h0 hbp hbq HC
  refine (rWithin_any _ _ _ _ a b a b _ H0.out.1.pts H0.out.2.1.pts).mono ?_
  rintro e W1 ⟨rfl, r1⟩
  rw [winB_refl, winB_refl, Bool.and_true]
  have H1 := Lib.hid (And.intro (H0.out.1.below r1) (And.intro (H0.out.2.1.below r1) (H0.out.2.2.trans (r1.mono H0.out.2.2.size))))
  clear H0 r1
  obtain ⟨p0, p1, -⟩ := H1.out.1
  obtain ⟨q0, q1, -⟩ := H1.out.2.1
  go_wp2_with fail
  refine (rWithin_any _ _ _ _ a b a b _ H1.out.2.1.pts H1.out.1.pts).mono ?_
  rintro e W2 ⟨rfl, r2⟩
  rw [winB_refl, winB_refl, Bool.and_true]
  have H2 := Lib.hid (And.intro (H1.out.1.below r2) (And.intro (H1.out.2.1.below r2) (H1.out.2.2.trans (r2.mono H1.out.2.2.size))))
  clear H1 r2 p0 p1 q0 q1
  obtain ⟨p0, p1, ⟨us1, g1⟩, us2, g2⟩ := H2.out.1
  obtain ⟨q0, q1, ⟨vs1, g3⟩, vs2, g4⟩ := H2.out.2.1
  obtain ⟨-, m1, i1, c1⟩ := grid_out g1
  obtain ⟨-, m2, i2, c2⟩ := grid_out g2
  obtain ⟨-, m3, i3, c3⟩ := grid_out g3
  obtain ⟨-, m4, i4, c4⟩ := grid_out g4
  have C1 := Lib.hid c1
  have C2 := Lib.hid c2
  have C3 := Lib.hid c3
  have C4 := Lib.hid c4
  clear c1 c2 c3 c4 g1 g2 g3 g4
  go_wp2_with fail
  go_loopw [5] (fun x wr => ∃ k : Nat, k ≤ a.length ∧ x = .int .i64 k ∧ Qt W2 wr) (fun x _ => a.length - (intOf x).toNat)
  case atStart => exact ⟨0, by omega, rfl, by exact (by first | exact Qt.refl _ | exact Qt.drewN _ _ | exact (Qt.drewN _ _).trans (Qt.drewN _ _) | exact ((Qt.drewN _ _).trans (Qt.drewN _ _)).trans (Qt.drewN _ _) | exact Qt.drew _ | exact (Qt.drewN _ _).trans (Qt.drew _))⟩
  case round =>
    obtain ⟨k, hk, rfl, ⟨nw, rfl⟩⟩ := hrel
    by_cases hlt : k < a.length
    · obtain ⟨xa, xc, c1, -, x1⟩ := C1.out k hlt
      obtain ⟨ya, yc, c2, -, x2⟩ := C3.out k hlt
      obtain ⟨n, hn⟩ : ∃ n, n = (nth a k).length := ⟨_, rfl⟩
      rw [← hn] at c1 c2 x1
      clear hn x2
      go_wp2_with fail
      go_quiet (fail)
      go_wp2_with fail
      go_roundw
      case rel => exact ⟨k + 1, by omega, by go_num, (by first | exact Qt.refl _ | exact Qt.drewN _ _ | exact (Qt.drewN _ _).trans (Qt.drewN _ _) | exact ((Qt.drewN _ _).trans (Qt.drewN _ _)).trans (Qt.drewN _ _) | exact Qt.drew _ | exact (Qt.drewN _ _).trans (Qt.drew _))⟩
      case measure => simp [intOf]; omega
    · obtain rfl : k = a.length := by omega
      go_wp2_with fail
      go_loopw [6] (fun x wr => ∃ k : Nat, k ≤ b.length ∧ x = .int .i64 k ∧ Qt W2 wr) (fun x _ => b.length - (intOf x).toNat)
      case atStart => exact ⟨0, by omega, rfl, by exact (by first | exact Qt.refl _ | exact Qt.drewN _ _ | exact (Qt.drewN _ _).trans (Qt.drewN _ _) | exact ((Qt.drewN _ _).trans (Qt.drewN _ _)).trans (Qt.drewN _ _) | exact Qt.drew _ | exact (Qt.drewN _ _).trans (Qt.drew _))⟩
      case round =>
        obtain ⟨k, hk, rfl, ⟨nw, rfl⟩⟩ := hrel
        by_cases hlt : k < b.length
        · obtain ⟨xa, xc, c1, -, x1⟩ := C2.out k hlt
          obtain ⟨ya, yc, c2, -, x2⟩ := C4.out k hlt
          obtain ⟨n, hn⟩ : ∃ n, n = (nth b k).length := ⟨_, rfl⟩
          rw [← hn] at c1 c2 x1
          clear hn x2
          go_wp2_with fail
          go_quiet (fail)
          go_wp2_with fail
          go_roundw
          case rel => exact ⟨k + 1, by omega, by go_num, (by first | exact Qt.refl _ | exact Qt.drewN _ _ | exact (Qt.drewN _ _).trans (Qt.drewN _ _) | exact ((Qt.drewN _ _).trans (Qt.drewN _ _)).trans (Qt.drewN _ _) | exact Qt.drew _ | exact (Qt.drewN _ _).trans (Qt.drew _))⟩
          case measure => simp [intOf]; omega
        · obtain rfl : k = b.length := by omega
          go_wp2_with fail
          go_ret
          exact ⟨rfl, below_drewN H2.out.2.2 _⟩
end Go.Proofs.Ytdlfbkmjemamhaa
