/- Contract of SameLists. -/
import Derived.Test.YtchmjgjagaaomaaGls
import Derived.Test.YtchmjgjagaaomaaGeq
namespace Go.Proofs.Ytchmjgjagaaomaa
open Go.RowKit Go.Dfl Go.Gra
def eqLB (a b : List (List Int)) : Bool := decide (a = b)
/-- What a walk needs of rows that are only read. -/
theorem rows_rd {W : World} {v : Value} {vs : List Value} {ll : List (List Int)} (h : Grid (Value.int .i64) W v vs ll) : ∃ a c, v = .slice a ll.length c ∧ ll.length ≤ 9223372036854775807 ∧ vs.length = ll.length ∧
    (∀ i, i < ll.length → (∀ Y, (Instr.indexAt 28 (.slice a ll.length c) (.int .i64 (i : Int))).run Try.prog Y = .ok (.pointer (some ⟨blk a, ofs a + i, none⟩)) Y) ∧ blk a < W.heap.size ∧ W.cell? ⟨blk a, ofs a + i, none⟩ = some (nth vs i) ∧ Ints W (nth vs i) (nth ll i)) := by
  obtain ⟨h1, h2, h3⟩ := h
  obtain ⟨a, c, rfl, hm, hi, hc, hb⟩ := h1.out1 sRowsG
  rw [h2] at hm hi hc hb ⊢
  refine ⟨a, c, rfl, hm, rfl, fun i hl => ⟨fun Y => ?_, hb i hl, hc i hl, h3 i hl⟩⟩
  have := hi .i64 (i : Int) (by omega) (by omega) Y
  rw [Int.toNat_natCast] at this; exact this
set_option maxHeartbeats 1600000 in
set_option maxRecDepth 100000 in
theorem sameLists_any (v u : Value) (vs us : List Value) (ll mm : List (List Int)) (W : World) (h : Grid (Value.int .i64) W v vs ll) (h' : Grid (Value.int .i64) W u us mm) :
    Calls Try.prog 21 #[v, u] W fun e W' => e = .returned (.bool (eqLB ll mm)) ∧ Qt W W' := by
  obtain ⟨a, c, rfl, hm, hvl, hr⟩ := rows_rd h
  obtain ⟨a', c', rfl, hm', hul, hr'⟩ := rows_rd h'
  have H := Lib.hid (And.intro hr hr')
  clear h h' hr hr'
  by_cases hl : ll.length = mm.length
  · have hd2 : ((ll.length : Int) != (mm.length : Int)) = false := by simp; omega
    have HL := Lib.hid hl
    clear hl
    go_enter Try.func21, Try.ntmps21
    go_wp2_with fail
    go_loopw [5] (fun x wr => ∃ k : Nat, k ≤ ll.length ∧ x = .int .i64 (k : Int) ∧ Qt W wr ∧ Hid (∀ j, j < k → nth ll j = nth mm j)) (fun x _ => ll.length - (intOf x).toNat)
    case atStart => exact ⟨0, by omega, rfl, Qt.refl _, fun j hj => by omega⟩
    case round =>
      obtain ⟨k, hk, rfl, ⟨nw, rfl⟩, hch⟩ := hrel
      by_cases hlt : k < ll.length
      · have hkl : (k : Int) < (ll.length : Int) := by omega
        have hlt' : k < mm.length := by have := HL.out; omega
        obtain ⟨i1, b1, p1, q1⟩ := H.out.1 k hlt
        obtain ⟨i2, b2, p2, q2⟩ := H.out.2 k hlt'
        have HQ := Lib.hid (And.intro q1 q2)
        obtain ⟨x, hx⟩ : ∃ x, x = nth vs k := ⟨_, rfl⟩
        obtain ⟨y, hy⟩ : ∃ y, y = nth us k := ⟨_, rfl⟩
        rw [← hx] at p1 HQ
        rw [← hy] at p2 HQ
        obtain ⟨x1, x2, hxs, -⟩ := HQ.out.1.out1 sIntG
        obtain ⟨y1, y2, hys, -⟩ := HQ.out.2.out1 sIntG
        rw [hxs] at p1 HQ
        rw [hys] at p2 HQ
        clear hx hy hxs hys q1 q2
        by_cases he : nth ll k = nth mm k
        · have HE : Hid (eqB (nth ll k) (nth mm k) = true) := Lib.hid (by simp [eqB, he])
          have HK := Lib.hid he
          clear he
          go_upto_region 6 with fail
          go_quiet ((go_at_call 22; exact Qt.quiet2 (HE.out ▸ rEqual_any _ _ _ _ _ (HQ.out.1.qt (by first | exact Qt.refl _ | exact Qt.drewN _ _ | exact (Qt.drewN _ _).trans (Qt.drewN _ _) | exact ((Qt.drewN _ _).trans (Qt.drewN _ _)).trans (Qt.drewN _ _) | exact Qt.drew _ | exact (Qt.drewN _ _).trans (Qt.drew _))) (HQ.out.2.qt (by first | exact Qt.refl _ | exact Qt.drewN _ _ | exact (Qt.drewN _ _).trans (Qt.drewN _ _) | exact ((Qt.drewN _ _).trans (Qt.drewN _ _)).trans (Qt.drewN _ _) | exact Qt.drew _ | exact (Qt.drewN _ _).trans (Qt.drew _))))))
          go_wp2_with fail
          go_roundw
          case rel => exact ⟨k + 1, by omega, by go_num, (by first | exact Qt.refl _ | exact Qt.drewN _ _ | exact (Qt.drewN _ _).trans (Qt.drewN _ _) | exact ((Qt.drewN _ _).trans (Qt.drewN _ _)).trans (Qt.drewN _ _) | exact Qt.drew _ | exact (Qt.drewN _ _).trans (Qt.drew _)), fun j hj => by
            by_cases e : j = k
            · subst e; exact HK.out
            · exact hch.out j (by omega)⟩
          case measure => simp [intOf]; omega
        · have HE : Hid (eqB (nth ll k) (nth mm k) = false) := Lib.hid (by simp [eqB, he])
          have HK := Lib.hid he
          clear he
          go_upto_region 6 with fail
          go_quiet ((go_at_call 22; exact Qt.quiet2 (HE.out ▸ rEqual_any _ _ _ _ _ (HQ.out.1.qt (by first | exact Qt.refl _ | exact Qt.drewN _ _ | exact (Qt.drewN _ _).trans (Qt.drewN _ _) | exact ((Qt.drewN _ _).trans (Qt.drewN _ _)).trans (Qt.drewN _ _) | exact Qt.drew _ | exact (Qt.drewN _ _).trans (Qt.drew _))) (HQ.out.2.qt (by first | exact Qt.refl _ | exact Qt.drewN _ _ | exact (Qt.drewN _ _).trans (Qt.drewN _ _) | exact ((Qt.drewN _ _).trans (Qt.drewN _ _)).trans (Qt.drewN _ _) | exact Qt.drew _ | exact (Qt.drewN _ _).trans (Qt.drew _))))))
          go_wp2_with fail
          go_ret
          exact ⟨by rw [show eqLB ll mm = false from decide_eq_false fun e => HK.out (by rw [e])]; rfl, (by first | exact Qt.refl _ | exact Qt.drewN _ _ | exact (Qt.drewN _ _).trans (Qt.drewN _ _) | exact ((Qt.drewN _ _).trans (Qt.drewN _ _)).trans (Qt.drewN _ _) | exact Qt.drew _ | exact (Qt.drewN _ _).trans (Qt.drew _))⟩
      · obtain rfl : k = ll.length := by omega
        go_wp2_with fail
        go_ret
        exact ⟨by rw [show eqLB ll mm = true from decide_eq_true (nth_ext HL.out hch.out)]; rfl, (by first | exact Qt.refl _ | exact Qt.drewN _ _ | exact (Qt.drewN _ _).trans (Qt.drewN _ _) | exact ((Qt.drewN _ _).trans (Qt.drewN _ _)).trans (Qt.drewN _ _) | exact Qt.drew _ | exact (Qt.drewN _ _).trans (Qt.drew _))⟩
  · have hd2 : ((ll.length : Int) != (mm.length : Int)) = true := by simp; omega
    have HE : Hid (eqLB ll mm = false) := Lib.hid (decide_eq_false fun e => hl (by rw [e]))
    clear hl
    go_enter Try.func21, Try.ntmps21
    go_wp2_with fail
    go_ret
    exact ⟨by rw [HE.out]; rfl, Qt.refl _⟩
end Go.Proofs.Ytchmjgjagaaomaa
