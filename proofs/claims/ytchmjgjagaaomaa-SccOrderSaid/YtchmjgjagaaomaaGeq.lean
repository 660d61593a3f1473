/- Contract of the reference's Equal. -/
import Derived.Test.YtchmjgjagaaomaaGra
namespace Go.Proofs.Ytchmjgjagaaomaa
open Go.RowKit Go.Dfl Go.Gra

def eqB (l m : List Int) : Bool := decide (l = m)

set_option maxHeartbeats 400000 in
theorem rEqual_any (v u : Value) (l m : List Int) (w : World) (h : Ints w v l) (h' : Ints w u m) :
    Calls Try.prog 22 #[v, u] w fun e w' => e = .returned (.bool (eqB l m)) ∧ Qt w w' := by
  obtain ⟨a, cap, rfl, hm, hidx, hcell, _⟩ := h.out1 sIntG
  obtain ⟨a', cap', rfl, hm', hidx', hcell', _⟩ := h'.out1 sIntG
  clear h h'
  by_cases hlen : l.length = m.length
  · have hd : ((l.length : Int) != (m.length : Int)) = false := by simp; omega
    have Hlen := Lib.hid hlen
    have hle : l.length ≤ m.length := by omega
    clear hlen
    go_enter Try.func22, Try.ntmps22
    go_wp2
    go_loopw [5] (fun i wr => ∃ k : Nat, k ≤ l.length ∧ i = .int .i64 k ∧ Qt w wr ∧ ∀ j, j < k → nth l j = nth m j) (fun i _ => l.length - (intOf i).toNat)
    case atStart => exact ⟨0, by omega, rfl, Qt.refl _, by omega⟩
    case round =>
      obtain ⟨k, hk, rfl, ⟨nw, rfl⟩, hch⟩ := hrel
      have Hch := Lib.hid hch; clear hch
      by_cases hlt : k < l.length
      · have hck := hcell k hlt
        have hlt' : k < m.length := by omega
        have hck' := hcell' k hlt'
        by_cases h5 : nth l k = nth m k
        · have h6 : (nth l k != nth m k) = false := by simpa using h5
          have H5 := Lib.hid h5
          clear h5
          go_wp2
          go_quiet (fail)
          go_wp2
          go_roundw
          case rel => exact ⟨k + 1, by omega, by go_num, (by first | exact Qt.refl _ | exact Qt.drewN _ _ | exact (Qt.drewN _ _).trans (Qt.drewN _ _) | exact ((Qt.drewN _ _).trans (Qt.drewN _ _)).trans (Qt.drewN _ _) | exact Qt.drew _ | exact (Qt.drewN _ _).trans (Qt.drew _)), fun j hj => by
            by_cases e : j = k
            · subst e; exact H5.out
            · exact Hch.out j (by omega)⟩
          case measure => simp [intOf]; omega
        · have h6 : (nth l k != nth m k) = true := by simpa using h5
          have H5 := Lib.hid h5
          clear h5
          go_wp2
          go_quiet (fail)
          go_wp2
          go_ret
          exact ⟨ret_bool (by have := H5.out; simp [eqB]; rintro rfl; simp at this), (by first | exact Qt.refl _ | exact Qt.drewN _ _ | exact (Qt.drewN _ _).trans (Qt.drewN _ _) | exact ((Qt.drewN _ _).trans (Qt.drewN _ _)).trans (Qt.drewN _ _) | exact Qt.drew _ | exact (Qt.drewN _ _).trans (Qt.drew _))⟩
      · go_wp2
        go_ret
        exact ⟨ret_bool (by simp [eqB]; exact nth_ext Hlen.out (fun i hi => Hch.out i (by omega))), (by first | exact Qt.refl _ | exact Qt.drewN _ _ | exact (Qt.drewN _ _).trans (Qt.drewN _ _) | exact ((Qt.drewN _ _).trans (Qt.drewN _ _)).trans (Qt.drewN _ _) | exact Qt.drew _ | exact (Qt.drewN _ _).trans (Qt.drew _))⟩
  · have hd : ((l.length : Int) != (m.length : Int)) = true := by simp; omega
    have Hlen := Lib.hid hlen
    clear hlen
    go_enter Try.func22, Try.ntmps22
    go_wp2
    go_ret
    exact ⟨ret_bool (by have := Hlen.out; simp [eqB]; rintro rfl; simp at this), Qt.refl _⟩
end Go.Proofs.Ytchmjgjagaaomaa
