/- Contract of SameLoops. -/
import Derived.Test.YtlijimdkadobmaaDnw
import Derived.Test.YtlijimdkadobmaaGeq
namespace Go.Proofs.Ytlijimdkadobmaa
open Go.RowKit Go.Dfl Go.Gra
def eqPB (a b : List (Int × List Int)) : Bool := decide (a = b)
set_option maxHeartbeats 1600000 in
set_option maxRecDepth 100000 in
theorem sameLoops_any (v u : Value) (ls ms : List (Int × List Int)) (W : World) (h : LpV W v ls) (h' : LpV W u ms) :
    Calls Try.prog 20 #[v, u] W fun e W' => e = .returned (.bool (eqPB ls ms)) ∧ Qt W W' := by
  obtain ⟨a, c, rfl, hm, hi, hr⟩ := h.rd
  obtain ⟨a', c', rfl, hm', hi', hr'⟩ := h'.rd
  have H := Lib.hid (And.intro hr hr')
  clear h h' hr hr'
  by_cases hl : ls.length = ms.length
  · have hd2 : ((ls.length : Int) != (ms.length : Int)) = false := by simp; omega
    have HL := Lib.hid hl
    clear hl
    go_enter Try.func20, Try.ntmps20
    go_wp2_with fail
    go_loopw [5] (fun x wr => ∃ k : Nat, k ≤ ls.length ∧ x = .int .i64 (k : Int) ∧ Qt W wr ∧ Hid (∀ j, j < k → nth ls j = nth ms j)) (fun x _ => ls.length - (intOf x).toNat)
    case atStart => exact ⟨0, by omega, rfl, Qt.refl _, fun j hj => by omega⟩
    case round =>
      obtain ⟨k, hk, rfl, ⟨nw, rfl⟩, hch⟩ := hrel
      by_cases hlt : k < ls.length
      · have hkl : (k : Int) < (ls.length : Int) := by omega
        have hlt' : k < ms.length := by have := HL.out; omega
        obtain ⟨b1, p1, ra, rc, q1, s1⟩ := H.out.1 k hlt
        obtain ⟨b2, p2, ra', rc', q2, s2⟩ := H.out.2 k hlt'
        have i1 := hi (k : Int) (by omega) (by omega)
        have i2 := hi' (k : Int) (by omega) (by omega)
        rw [Int.toNat_natCast] at i1 i2
        have HQ := Lib.hid (And.intro s1 s2)
        obtain ⟨x, hx⟩ : ∃ x, x = nth ls k := ⟨_, rfl⟩
        obtain ⟨y, hy⟩ : ∃ y, y = nth ms k := ⟨_, rfl⟩
        rw [← hx] at p1 q1 HQ
        rw [← hy] at p2 q2 HQ
        have HXY := Lib.hid (And.intro hx hy)
        clear hx hy s1 s2 hi hi'
        obtain ⟨x1, x2⟩ := x
        obtain ⟨y1, y2⟩ := y
        dsimp only at p1 q1 HQ p2 q2
        by_cases hne : x1 = y1
        · have w1 : (x1 != y1) = false := by simpa using hne
          by_cases he : x2 = y2
          · have HE : Hid (eqB x2 y2 = true) := Lib.hid (by simp [eqB, he])
            have HK : Hid (nth ls k = nth ms k) := Lib.hid (by rw [← HXY.out.1, ← HXY.out.2, hne, he])
            clear he hne
            go_upto_region 6 with fail
            go_quiet ((go_at_call 25; exact Qt.quiet2 (HE.out ▸ rEqual_any _ _ _ _ _ (HQ.out.1.qt (by first | exact Qt.refl _ | exact Qt.drewN _ _ | exact (Qt.drewN _ _).trans (Qt.drewN _ _) | exact ((Qt.drewN _ _).trans (Qt.drewN _ _)).trans (Qt.drewN _ _) | exact Qt.drew _ | exact (Qt.drewN _ _).trans (Qt.drew _))) (HQ.out.2.qt (by first | exact Qt.refl _ | exact Qt.drewN _ _ | exact (Qt.drewN _ _).trans (Qt.drewN _ _) | exact ((Qt.drewN _ _).trans (Qt.drewN _ _)).trans (Qt.drewN _ _) | exact Qt.drew _ | exact (Qt.drewN _ _).trans (Qt.drew _))))))
            go_wp2_with fail
            go_roundw
            case rel => exact ⟨k + 1, by omega, by go_num, (by first | exact Qt.refl _ | exact Qt.drewN _ _ | exact (Qt.drewN _ _).trans (Qt.drewN _ _) | exact ((Qt.drewN _ _).trans (Qt.drewN _ _)).trans (Qt.drewN _ _) | exact Qt.drew _ | exact (Qt.drewN _ _).trans (Qt.drew _)), fun j hj => by
              by_cases e : j = k
              · subst e; exact HK.out
              · exact hch.out j (by omega)⟩
            case measure => simp [intOf]; omega
          · have HE : Hid (eqB x2 y2 = false) := Lib.hid (by simp [eqB, he])
            have HK : Hid (eqPB ls ms = false) := Lib.hid (decide_eq_false fun e => he (by have h1 := HXY.out.1; rw [e, ← HXY.out.2] at h1; exact (Prod.mk.inj h1).2))
            clear he hne
            go_upto_region 6 with fail
            go_quiet ((go_at_call 25; exact Qt.quiet2 (HE.out ▸ rEqual_any _ _ _ _ _ (HQ.out.1.qt (by first | exact Qt.refl _ | exact Qt.drewN _ _ | exact (Qt.drewN _ _).trans (Qt.drewN _ _) | exact ((Qt.drewN _ _).trans (Qt.drewN _ _)).trans (Qt.drewN _ _) | exact Qt.drew _ | exact (Qt.drewN _ _).trans (Qt.drew _))) (HQ.out.2.qt (by first | exact Qt.refl _ | exact Qt.drewN _ _ | exact (Qt.drewN _ _).trans (Qt.drewN _ _) | exact ((Qt.drewN _ _).trans (Qt.drewN _ _)).trans (Qt.drewN _ _) | exact Qt.drew _ | exact (Qt.drewN _ _).trans (Qt.drew _))))))
            go_wp2_with fail
            go_ret
            exact ⟨by rw [HK.out]; rfl, (by first | exact Qt.refl _ | exact Qt.drewN _ _ | exact (Qt.drewN _ _).trans (Qt.drewN _ _) | exact ((Qt.drewN _ _).trans (Qt.drewN _ _)).trans (Qt.drewN _ _) | exact Qt.drew _ | exact (Qt.drewN _ _).trans (Qt.drew _))⟩
        · have w1 : (x1 != y1) = true := by simpa using hne
          have HK : Hid (eqPB ls ms = false) := Lib.hid (decide_eq_false fun e => hne (by have h1 := HXY.out.1; rw [e, ← HXY.out.2] at h1; exact (Prod.mk.inj h1).1))
          clear hne
          go_upto_region 6 with fail
          go_quiet (fail)
          go_wp2_with fail
          go_ret
          exact ⟨by rw [HK.out]; rfl, (by first | exact Qt.refl _ | exact Qt.drewN _ _ | exact (Qt.drewN _ _).trans (Qt.drewN _ _) | exact ((Qt.drewN _ _).trans (Qt.drewN _ _)).trans (Qt.drewN _ _) | exact Qt.drew _ | exact (Qt.drewN _ _).trans (Qt.drew _))⟩
      · obtain rfl : k = ls.length := by omega
        go_wp2_with fail
        go_ret
        exact ⟨by rw [show eqPB ls ms = true from decide_eq_true (nth_ext HL.out hch.out)]; rfl, (by first | exact Qt.refl _ | exact Qt.drewN _ _ | exact (Qt.drewN _ _).trans (Qt.drewN _ _) | exact ((Qt.drewN _ _).trans (Qt.drewN _ _)).trans (Qt.drewN _ _) | exact Qt.drew _ | exact (Qt.drewN _ _).trans (Qt.drew _))⟩
  · have hd2 : ((ls.length : Int) != (ms.length : Int)) = true := by simp; omega
    have HE : Hid (eqPB ls ms = false) := Lib.hid (decide_eq_false fun e => hl (by rw [e]))
    clear hl
    go_enter Try.func20, Try.ntmps20
    go_wp2_with fail
    go_ret
    exact ⟨by rw [HE.out]; rfl, Qt.refl _⟩
end Go.Proofs.Ytlijimdkadobmaa
