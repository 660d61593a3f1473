/- Contracts of more functions of package partition and of its reference. -/
import Derived.Test.YtmgeadhiohlblaaPartA
namespace Go.Proofs.Ytmgeadhiohlblaa
open Go.RowKit Go.Dfl

set_option maxHeartbeats 400000 in
theorem RCheck_any (v : Value) (l : List Int) (w : World) (h : Ints w v l) :
    Calls Try.prog 17 #[v] w fun e w' => e = .returned (.int .i64 (chk l)) ∧ Qt w w' := by
  obtain ⟨a, cap, rfl, hm, hidx, hcell, _⟩ := h.out1 sInt
  clear h
  by_cases hbig : 8192 < l.length
  · go_enter Try.func17, Try.ntmps17
    go_wp2
    go_ret
    exact ⟨ret_int (by simp [chk, hbig]), Qt.refl _⟩
  · have hd : decide (8192 < l.length) = false := by simpa using hbig
    go_enter Try.func17, Try.ntmps17
    go_wp2
    go_loopw [3] (fun i wr => ∃ k : Nat, k ≤ l.length ∧ i = .int .i64 k ∧ Qt w wr ∧ chk l = chkFrom l (l.length - k) k) (fun i _ => l.length - (intOf i).toNat)
    case atStart => exact ⟨0, by omega, rfl, Qt.refl _, by simp [chk]; omega⟩
    case round =>
      obtain ⟨k, hk, rfl, ⟨nw, rfl⟩, hch⟩ := hrel
      by_cases hlt : k < l.length
      · have hck := hcell k hlt
        obtain ⟨d, hd⟩ : ∃ d, l.length - k = d + 1 := ⟨l.length - k - 1, by omega⟩
        have hd' : l.length - (k+1) = d := by omega
        rw [hd, chkFrom] at hch
        rw [← hd'] at hch
        have Hch := Lib.hid hch; clear hch hd hd'
        by_cases h1 : nth l k < 0
        · go_wp2
          go_ret
          exact ⟨ret_int (by rw [Hch.out, if_pos (by omega)]), (by first | exact Qt.refl _ | exact Qt.drewN _ _ | exact (Qt.drewN _ _).trans (Qt.drewN _ _) | exact ((Qt.drewN _ _).trans (Qt.drewN _ _)).trans (Qt.drewN _ _) | exact Qt.drew _ | exact (Qt.drewN _ _).trans (Qt.drew _))⟩
        · by_cases h2 : k < nth l k
          · go_wp2
            go_ret
            exact ⟨ret_int (by rw [Hch.out, if_pos (by omega)]), (by first | exact Qt.refl _ | exact Qt.drewN _ _ | exact (Qt.drewN _ _).trans (Qt.drewN _ _) | exact ((Qt.drewN _ _).trans (Qt.drewN _ _)).trans (Qt.drewN _ _) | exact Qt.drew _ | exact (Qt.drewN _ _).trans (Qt.drew _))⟩
          · have hck2 := hcell (nth l k).toNat (by omega)
            have h3 : 0 ≤ nth l k := by omega
            have h4 : nth l k < l.length := by omega
            by_cases h5 : nth l (nth l k).toNat = nth l k
            · have h6 : (nth l (nth l k).toNat != nth l k) = false := by simpa using h5
              have H5 := Lib.hid h5
              clear h5
              go_wp2
              go_quiet (fail)
              go_wp2
              go_roundw
              case rel => exact ⟨k + 1, by omega, by go_num, (by first | exact Qt.refl _ | exact Qt.drewN _ _ | exact (Qt.drewN _ _).trans (Qt.drewN _ _) | exact ((Qt.drewN _ _).trans (Qt.drewN _ _)).trans (Qt.drewN _ _) | exact Qt.drew _ | exact (Qt.drewN _ _).trans (Qt.drew _)), by rw [Hch.out, if_neg (by omega), if_neg (by simpa using H5.out)]⟩
              case measure => simp [intOf]; omega
            · have h6 : (nth l (nth l k).toNat != nth l k) = true := by simpa using h5
              go_wp2
              go_quiet (fail)
              go_wp2
              go_ret
              exact ⟨ret_int (by rw [Hch.out, if_neg (by omega), if_pos h5]), (by first | exact Qt.refl _ | exact Qt.drewN _ _ | exact (Qt.drewN _ _).trans (Qt.drewN _ _) | exact ((Qt.drewN _ _).trans (Qt.drewN _ _)).trans (Qt.drewN _ _) | exact Qt.drew _ | exact (Qt.drewN _ _).trans (Qt.drew _))⟩
      · go_wp2
        go_ret
        exact ⟨ret_int (by rw [hch]; simp [show l.length - k = 0 by omega, chkFrom]), (by first | exact Qt.refl _ | exact Qt.drewN _ _ | exact (Qt.drewN _ _).trans (Qt.drewN _ _) | exact ((Qt.drewN _ _).trans (Qt.drewN _ _)).trans (Qt.drewN _ _) | exact Qt.drew _ | exact (Qt.drewN _ _).trans (Qt.drew _))⟩

def eqB (l m : List Int) : Bool := decide (l = m)

set_option maxHeartbeats 400000 in
theorem Equal_any (v u : Value) (l m : List Int) (w : World) (h : Ints w v l) (h' : Ints w u m) :
    Calls Try.prog 15 #[v, u] w fun e w' => e = .returned (.bool (eqB l m)) ∧ Qt w w' := by
  obtain ⟨a, cap, rfl, hm, hidx, hcell, _⟩ := h.out1 sInt
  obtain ⟨a', cap', rfl, hm', hidx', hcell', _⟩ := h'.out1 sInt
  clear h h'
  by_cases hlen : l.length = m.length
  · have hd : ((l.length : Int) != (m.length : Int)) = false := by simp; omega
    have Hlen := Lib.hid hlen
    have hle : l.length ≤ m.length := by omega
    clear hlen
    go_enter Try.func15, Try.ntmps15
    go_wp2
    go_loopw [5] (fun i wr => ∃ k : Nat, k ≤ l.length ∧ i = .int .i64 k ∧ Qt w wr ∧ ∀ j, j < k → nth l j = nth m j) (fun i _ => l.length - (intOf i).toNat)
    case atStart => exact ⟨0, by omega, rfl, Qt.refl _, by omega⟩
    case round =>
      obtain ⟨k, hk, rfl, ⟨nw, rfl⟩, hch⟩ := hrel
      have Hch := Lib.hid hch; clear hch
      by_cases hlt : k < l.length
      · have hck := hcell k hlt
        have hlt' : k < m.length := by omega
        have hck' := hcell' k hlt'
        by_cases h5 : nth l k = nth m k
        · have h6 : (nth l k != nth m k) = false := by simpa using h5
          have H5 := Lib.hid h5
          clear h5
          go_wp2
          go_quiet (fail)
          go_wp2
          go_roundw
          case rel => exact ⟨k + 1, by omega, by go_num, (by first | exact Qt.refl _ | exact Qt.drewN _ _ | exact (Qt.drewN _ _).trans (Qt.drewN _ _) | exact ((Qt.drewN _ _).trans (Qt.drewN _ _)).trans (Qt.drewN _ _) | exact Qt.drew _ | exact (Qt.drewN _ _).trans (Qt.drew _)), fun j hj => by
            by_cases e : j = k
            · subst e; exact H5.out
            · exact Hch.out j (by omega)⟩
          case measure => simp [intOf]; omega
        · have h6 : (nth l k != nth m k) = true := by simpa using h5
          have H5 := Lib.hid h5
          clear h5
          go_wp2
          go_quiet (fail)
          go_wp2
          go_ret
          exact ⟨ret_bool (by have := H5.out; simp [eqB]; rintro rfl; simp at this), (by first | exact Qt.refl _ | exact Qt.drewN _ _ | exact (Qt.drewN _ _).trans (Qt.drewN _ _) | exact ((Qt.drewN _ _).trans (Qt.drewN _ _)).trans (Qt.drewN _ _) | exact Qt.drew _ | exact (Qt.drewN _ _).trans (Qt.drew _))⟩
      · go_wp2
        go_ret
        exact ⟨ret_bool (by simp [eqB]; exact nth_ext Hlen.out (fun i hi => Hch.out i (by omega))), (by first | exact Qt.refl _ | exact Qt.drewN _ _ | exact (Qt.drewN _ _).trans (Qt.drewN _ _) | exact ((Qt.drewN _ _).trans (Qt.drewN _ _)).trans (Qt.drewN _ _) | exact Qt.drew _ | exact (Qt.drewN _ _).trans (Qt.drew _))⟩
  · have hd : ((l.length : Int) != (m.length : Int)) = true := by simp; omega
    have Hlen := Lib.hid hlen
    clear hlen
    go_enter Try.func15, Try.ntmps15
    go_wp2
    go_ret
    exact ⟨ret_bool (by have := Hlen.out; simp [eqB]; rintro rfl; simp at this), Qt.refl _⟩

def sameB (l : List Int) (x y : Int) : Bool := (chk l == 0) && memB l.length x && memB l.length y && (nth l x.toNat == nth l y.toNat)

set_option maxHeartbeats 400000 in
theorem Same_any (v : Value) (l : List Int) (x y : Int) (w : World) (h : Ints w v l) :
    Calls Try.prog 16 #[v, .int .i64 x, .int .i64 y] w fun e w' => e = .returned (.bool (sameB l x y)) ∧ Qt w w' := by
  have hI := h
  obtain ⟨a, cap, rfl, hm, hidx, hcell, _⟩ := h.out1 sInt
  cases h0 : (chk l == 0)
  · go_enter Try.func16, Try.ntmps16
    go_wp2
    go_quiet (first | (go_at_call 19; exact Qt.quiet (Check_any _ l _ (hI.qt (Qt.drewN _ _)))))
    go_wp2
    go_ret
    exact ⟨ret_bool (by simp [sameB, h0]), (by first | exact Qt.refl _ | exact Qt.drewN _ _ | exact (Qt.drewN _ _).trans (Qt.drewN _ _) | exact ((Qt.drewN _ _).trans (Qt.drewN _ _)).trans (Qt.drewN _ _) | exact Qt.drew _ | exact (Qt.drewN _ _).trans (Qt.drew _))⟩
  cases hx : memB l.length x
  · go_enter Try.func16, Try.ntmps16
    go_wp2
    go_quiet (first | (go_at_call 19; exact Qt.quiet (Check_any _ l _ (hI.qt (Qt.drewN _ _)))) | (go_at_call 25; exact Qt.quiet (member_any _ l _ _ (hI.qt (Qt.drewN _ _)))))
    go_wp2
    go_ret
    exact ⟨ret_bool (by simp [sameB, hx]), (by first | exact Qt.refl _ | exact Qt.drewN _ _ | exact (Qt.drewN _ _).trans (Qt.drewN _ _) | exact ((Qt.drewN _ _).trans (Qt.drewN _ _)).trans (Qt.drewN _ _) | exact Qt.drew _ | exact (Qt.drewN _ _).trans (Qt.drew _))⟩
  cases hy : memB l.length y
  · go_enter Try.func16, Try.ntmps16
    go_wp2
    go_quiet (first | (go_at_call 19; exact Qt.quiet (Check_any _ l _ (hI.qt (Qt.drewN _ _)))) | (go_at_call 25; exact Qt.quiet (member_any _ l _ _ (hI.qt (Qt.drewN _ _)))))
    go_wp2
    go_ret
    exact ⟨ret_bool (by simp [sameB, hy]), (by first | exact Qt.refl _ | exact Qt.drewN _ _ | exact (Qt.drewN _ _).trans (Qt.drewN _ _) | exact ((Qt.drewN _ _).trans (Qt.drewN _ _)).trans (Qt.drewN _ _) | exact Qt.drew _ | exact (Qt.drewN _ _).trans (Qt.drew _))⟩
  obtain ⟨hx1, hx2⟩ := memB_iff.1 hx
  obtain ⟨hy1, hy2⟩ := memB_iff.1 hy
  have hcx := hcell x.toNat (by omega)
  have hcy := hcell y.toNat (by omega)
  go_enter Try.func16, Try.ntmps16
  go_wp2
  go_quiet (first | (go_at_call 19; exact Qt.quiet (Check_any _ l _ (hI.qt (Qt.drewN _ _)))) | (go_at_call 25; exact Qt.quiet (member_any _ l _ _ (hI.qt (Qt.drewN _ _)))))
  go_wp2
  go_ret
  exact ⟨ret_bool (by simp [sameB, h0, hx, hy]), (by first | exact Qt.refl _ | exact Qt.drewN _ _ | exact (Qt.drewN _ _).trans (Qt.drewN _ _) | exact ((Qt.drewN _ _).trans (Qt.drewN _ _)).trans (Qt.drewN _ _) | exact Qt.drew _ | exact (Qt.drewN _ _).trans (Qt.drew _))⟩

end Go.Proofs.Ytmgeadhiohlblaa
