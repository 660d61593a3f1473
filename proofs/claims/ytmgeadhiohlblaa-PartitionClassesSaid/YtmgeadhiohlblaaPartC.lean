/- Contracts of more functions of package partition and of its reference: Same, Finer, Find, Join. -/
import Derived.Test.YtmgeadhiohlblaaPartB
namespace Go.Proofs.Ytmgeadhiohlblaa
open Go.RowKit Go.Dfl

set_option maxHeartbeats 400000 in
theorem RSame_any (v : Value) (l : List Int) (x y : Int) (w : World) (h : Ints w v l) :
    Calls Try.prog 18 #[v, .int .i64 x, .int .i64 y] w fun e w' => e = .returned (.bool (sameB l x y)) ∧ Qt w w' := by
  have hI := h
  obtain ⟨a, cap, rfl, hm, hidx, hcell, _⟩ := h.out1 sInt
  by_cases h0 : chk l = 0
  · have h0' : (chk l != 0) = false := by simpa using h0
    have H0 := Lib.hid h0
    clear h0
    cases hx : memB l.length x
    · have Hx := Lib.hid hx
      have hx' : x < 0 ∨ l.length ≤ x := by have := mt memB_iff.2 (by rw [hx]; simp : ¬ memB l.length x = true); omega
      clear hx
      go_enter Try.func18, Try.ntmps18
      go_wp2_with (go_at_call 17; refine (RCheck_any _ l _ hI).mono ?_; rintro e w' ⟨rfl, nw, rfl⟩)
      all_goals first | (go_ret; exact ⟨ret_bool (by simp [sameB, Hx.out]), (by first | exact Qt.refl _ | exact Qt.drewN _ _ | exact (Qt.drewN _ _).trans (Qt.drewN _ _) | exact ((Qt.drewN _ _).trans (Qt.drewN _ _)).trans (Qt.drewN _ _) | exact Qt.drew _ | exact (Qt.drewN _ _).trans (Qt.drew _))⟩) | (exfalso; omega)
    cases hy : memB l.length y
    · have Hy := Lib.hid hy
      have hy' : y < 0 ∨ l.length ≤ y := by have := mt memB_iff.2 (by rw [hy]; simp : ¬ memB l.length y = true); omega
      obtain ⟨hx1, hx2⟩ := memB_iff.1 hx
      clear hy
      go_enter Try.func18, Try.ntmps18
      go_wp2_with (go_at_call 17; refine (RCheck_any _ l _ hI).mono ?_; rintro e w' ⟨rfl, nw, rfl⟩)
      all_goals first | (go_ret; exact ⟨ret_bool (by simp [sameB, Hy.out]), (by first | exact Qt.refl _ | exact Qt.drewN _ _ | exact (Qt.drewN _ _).trans (Qt.drewN _ _) | exact ((Qt.drewN _ _).trans (Qt.drewN _ _)).trans (Qt.drewN _ _) | exact Qt.drew _ | exact (Qt.drewN _ _).trans (Qt.drew _))⟩) | (exfalso; omega)
    obtain ⟨hx1, hx2⟩ := memB_iff.1 hx
    obtain ⟨hy1, hy2⟩ := memB_iff.1 hy
    have hcx := hcell x.toNat (by omega)
    have hcy := hcell y.toNat (by omega)
    go_enter Try.func18, Try.ntmps18
    go_wp2_with (go_at_call 17; refine (RCheck_any _ l _ hI).mono ?_; rintro e w' ⟨rfl, nw, rfl⟩)
    go_quiet (fail)
    go_wp2
    go_ret
    exact ⟨ret_bool (by simp [sameB, H0.out, hx, hy]), (by first | exact Qt.refl _ | exact Qt.drewN _ _ | exact (Qt.drewN _ _).trans (Qt.drewN _ _) | exact ((Qt.drewN _ _).trans (Qt.drewN _ _)).trans (Qt.drewN _ _) | exact Qt.drew _ | exact (Qt.drewN _ _).trans (Qt.drew _))⟩
  · have h0' : (chk l != 0) = true := by simpa using h0
    have H0 := Lib.hid h0
    clear h0
    go_enter Try.func18, Try.ntmps18
    go_wp2_with (go_at_call 17; refine (RCheck_any _ l _ hI).mono ?_; rintro e w' ⟨rfl, nw, rfl⟩)
    go_ret
    exact ⟨ret_bool (by simp [sameB, H0.out]), (by first | exact Qt.refl _ | exact Qt.drewN _ _ | exact (Qt.drewN _ _).trans (Qt.drewN _ _) | exact ((Qt.drewN _ _).trans (Qt.drewN _ _)).trans (Qt.drewN _ _) | exact Qt.drew _ | exact (Qt.drewN _ _).trans (Qt.drew _))⟩

theorem chkFrom_ok {l : List Int} : ∀ (d k : Nat), chkFrom l d k = 0 → ∀ i, k ≤ i → i < k + d → 0 ≤ nth l i ∧ nth l i ≤ i ∧ nth l (nth l i).toNat = nth l i
  | 0, k, _, i, h1, h2 => by omega
  | d+1, k, h, i, h1, h2 => by
    rw [chkFrom] at h
    split at h
    · simp at h
    · split at h
      · simp at h
      · rename_i g1 g2
        by_cases e : i = k
        · subst e; exact ⟨by omega, by omega, by simpa using g2⟩
        · exact chkFrom_ok d (k+1) h i (by omega) (by omega)
theorem chk_ok {l : List Int} (h : chk l = 0) : l.length ≤ 8192 ∧ ∀ i, i < l.length → 0 ≤ nth l i ∧ nth l i ≤ i ∧ nth l (nth l i).toNat = nth l i := by
  unfold chk at h
  split at h
  · simp at h
  · exact ⟨by omega, fun i hi => chkFrom_ok _ 0 h i (by omega) (by omega)⟩
theorem chkFrom_mk {l : List Int} : ∀ (d k : Nat), (∀ i, k ≤ i → i < k + d → 0 ≤ nth l i ∧ nth l i ≤ i ∧ nth l (nth l i).toNat = nth l i) → chkFrom l d k = 0
  | 0, k, _ => rfl
  | d+1, k, h => by
    have := h k (by omega) (by omega)
    rw [chkFrom, if_neg (by omega), if_neg (by simpa using this.2.2)]
    exact chkFrom_mk d (k+1) fun i h1 h2 => h i (by omega) (by omega)
theorem chk_mk {l : List Int} (h : l.length ≤ 8192) (h2 : ∀ i, i < l.length → 0 ≤ nth l i ∧ nth l i ≤ i ∧ nth l (nth l i).toNat = nth l i) : chk l = 0 := by
  rw [chk, if_neg (by omega)]
  exact chkFrom_mk _ _ fun i _ h => h2 i (by omega)

def finerFrom (a b : List Int) : Nat → Nat → Bool
  | 0, _ => true
  | n+1, i => if nth b i ≠ nth b (nth a i).toNat then false else finerFrom a b n (i+1)
def finerB (a b : List Int) : Bool := (chk a == 0) && (chk b == 0) && (a.length == b.length) && finerFrom a b a.length 0

set_option maxHeartbeats 400000 in
theorem Finer_any (v u : Value) (l m : List Int) (w : World) (h : Ints w v l) (h' : Ints w u m) :
    Calls Try.prog 20 #[v, u] w fun e w' => e = .returned (.bool (finerB l m)) ∧ Qt w w' := by
  have hI := h
  have hI' := h'
  obtain ⟨a, cap, rfl, hm, hidx, hcell, _⟩ := h.out1 sInt
  obtain ⟨a', cap', rfl, hm', hidx', hcell', _⟩ := h'.out1 sInt
  clear h h'
  by_cases h0 : chk l = 0
  · have h0' : (chk l != 0) = false := by simpa using h0
    have H0 := Lib.hid h0
    clear h0
    by_cases h1 : chk m = 0
    · have h1' : (chk m != 0) = false := by simpa using h1
      have H1 := Lib.hid h1
      clear h1
      by_cases hlen : l.length = m.length
      · have hd : ((l.length : Int) != (m.length : Int)) = false := by simp; omega
        have Hlen := Lib.hid hlen
        have hle : l.length ≤ m.length := by omega
        clear hlen
        go_enter Try.func20, Try.ntmps20
        go_wp2_with fail
        refine (Check_any _ l _ hI).mono ?_; rintro e w' ⟨rfl, nw, rfl⟩
        go_wp2_with fail
        refine (Check_any _ m _ (hI'.qt (Qt.drewN _ _))).mono ?_; rintro e w' ⟨rfl, nw', rfl⟩
        go_wp2_with fail
        go_loopw [5, 6, 24] (fun _ _ i wr => ∃ k : Nat, k ≤ l.length ∧ i = .int .i64 k ∧ Qt w wr ∧ finerFrom l m l.length 0 = finerFrom l m (l.length - k) k) (fun _ _ i _ => l.length - (intOf i).toNat)
        case atStart => exact ⟨0, by omega, rfl, (by first | exact Qt.refl _ | exact Qt.drewN _ _ | exact (Qt.drewN _ _).trans (Qt.drewN _ _) | exact ((Qt.drewN _ _).trans (Qt.drewN _ _)).trans (Qt.drewN _ _) | exact Qt.drew _ | exact (Qt.drewN _ _).trans (Qt.drew _)), rfl⟩
        case round =>
          obtain ⟨k, hk, rfl, ⟨nw, rfl⟩, hch⟩ := hrel
          by_cases hlt : k < l.length
          · have hck := hcell k hlt
            have hcm := hcell' k (by omega)
            obtain ⟨g1, g2, g3⟩ := (chk_ok H0.out).2 k hlt
            have H3 := Lib.hid g3
            clear g3
            have hlt' : k < m.length := by omega
            have g4 : nth l k < m.length := by omega
            have hcm2 := hcell' (nth l k).toNat (by omega)
            obtain ⟨d, hd⟩ : ∃ d, l.length - k = d + 1 := ⟨l.length - k - 1, by omega⟩
            have hd' : l.length - (k+1) = d := by omega
            rw [hd, finerFrom] at hch
            rw [← hd'] at hch
            have Hch := Lib.hid hch; clear hch hd hd'
            by_cases h5 : nth m k = nth m (nth l k).toNat
            · have h6 : (nth m k != nth m (nth l k).toNat) = false := by simpa using h5
              have H5 := Lib.hid h5
              clear h5
              go_wp2
              go_quiet (fail)
              go_wp2
              go_roundw
              case rel => exact ⟨k + 1, by omega, by go_num, (by first | exact Qt.refl _ | exact Qt.drewN _ _ | exact (Qt.drewN _ _).trans (Qt.drewN _ _) | exact ((Qt.drewN _ _).trans (Qt.drewN _ _)).trans (Qt.drewN _ _) | exact Qt.drew _ | exact (Qt.drewN _ _).trans (Qt.drew _)), by rw [Hch.out, if_neg (by simpa using H5.out)]⟩
              case measure => simp [intOf]; omega
            · have h6 : (nth m k != nth m (nth l k).toNat) = true := by simpa using h5
              have H5 := Lib.hid h5
              clear h5
              go_wp2
              go_quiet (fail)
              go_wp2
              go_ret
              exact ⟨ret_bool (by rw [finerB, Hch.out, if_pos H5.out]; simp), (by first | exact Qt.refl _ | exact Qt.drewN _ _ | exact (Qt.drewN _ _).trans (Qt.drewN _ _) | exact ((Qt.drewN _ _).trans (Qt.drewN _ _)).trans (Qt.drewN _ _) | exact Qt.drew _ | exact (Qt.drewN _ _).trans (Qt.drew _))⟩
          · have Hch := Lib.hid hch; clear hch
            go_wp2
            go_ret
            exact ⟨ret_bool (by rw [finerB, Hch.out, H0.out, H1.out, Hlen.out]; simp [show m.length - k = 0 by have := Hlen.out; omega, finerFrom]), (by first | exact Qt.refl _ | exact Qt.drewN _ _ | exact (Qt.drewN _ _).trans (Qt.drewN _ _) | exact ((Qt.drewN _ _).trans (Qt.drewN _ _)).trans (Qt.drewN _ _) | exact Qt.drew _ | exact (Qt.drewN _ _).trans (Qt.drew _))⟩
      · have hd : ((l.length : Int) != (m.length : Int)) = true := by simp; omega
        have Hlen := Lib.hid hlen
        clear hlen
        go_enter Try.func20, Try.ntmps20
        go_wp2_with fail
        refine (Check_any _ l _ hI).mono ?_; rintro e w' ⟨rfl, nw, rfl⟩
        go_wp2_with fail
        refine (Check_any _ m _ (hI'.qt (Qt.drewN _ _))).mono ?_; rintro e w' ⟨rfl, nw', rfl⟩
        go_wp2_with fail
        go_ret
        exact ⟨ret_bool (by have := Hlen.out; simp [finerB, this]), (by first | exact Qt.refl _ | exact Qt.drewN _ _ | exact (Qt.drewN _ _).trans (Qt.drewN _ _) | exact ((Qt.drewN _ _).trans (Qt.drewN _ _)).trans (Qt.drewN _ _) | exact Qt.drew _ | exact (Qt.drewN _ _).trans (Qt.drew _))⟩
    · have h1' : (chk m != 0) = true := by simpa using h1
      have H1 := Lib.hid h1
      clear h1
      go_enter Try.func20, Try.ntmps20
      go_wp2_with fail
      refine (Check_any _ l _ hI).mono ?_; rintro e w' ⟨rfl, nw, rfl⟩
      go_wp2_with fail
      refine (Check_any _ m _ (hI'.qt (Qt.drewN _ _))).mono ?_; rintro e w' ⟨rfl, nw', rfl⟩
      go_wp2_with fail
      go_ret
      exact ⟨ret_bool (by have := H1.out; simp [finerB, this]), (by first | exact Qt.refl _ | exact Qt.drewN _ _ | exact (Qt.drewN _ _).trans (Qt.drewN _ _) | exact ((Qt.drewN _ _).trans (Qt.drewN _ _)).trans (Qt.drewN _ _) | exact Qt.drew _ | exact (Qt.drewN _ _).trans (Qt.drew _))⟩
  · have h0' : (chk l != 0) = true := by simpa using h0
    have H0 := Lib.hid h0
    clear h0
    go_enter Try.func20, Try.ntmps20
    go_wp2_with fail
    refine (Check_any _ l _ hI).mono ?_; rintro e w' ⟨rfl, nw, rfl⟩
    go_wp2_with fail
    go_ret
    exact ⟨ret_bool (by have := H0.out; simp [finerB, this]), (by first | exact Qt.refl _ | exact Qt.drewN _ _ | exact (Qt.drewN _ _).trans (Qt.drewN _ _) | exact ((Qt.drewN _ _).trans (Qt.drewN _ _)).trans (Qt.drewN _ _) | exact Qt.drew _ | exact (Qt.drewN _ _).trans (Qt.drew _))⟩

def findV (l : List Int) (x : Int) : Int := if chk l = 0 ∧ memB l.length x = true then nth l x.toNat else 0
def findE (l : List Int) (x : Int) : Int := if chk l = 0 then (if memB l.length x = true then 0 else 4) else chk l

set_option maxHeartbeats 400000 in
theorem Find_any (v : Value) (l : List Int) (x : Int) (w : World) (h : Ints w v l) :
    Calls Try.prog 23 #[v, .int .i64 x] w fun e w' => e = .returned (.tuple #[.int .i64 (findV l x), .int .i64 (findE l x)]) ∧ Qt w w' := by
  have hI := h
  obtain ⟨a, cap, rfl, hm, hidx, hcell, _⟩ := h.out1 sInt
  clear h
  by_cases h0 : chk l = 0
  · have h0' : (chk l != 0) = false := by simpa using h0
    have H0 := Lib.hid h0
    clear h0
    cases hx : memB l.length x
    · have hv : findV l x = 0 := by simp [findV, hx]
      have he : findE l x = 4 := by simp [findE, H0.out, hx]
      rw [hv, he]; clear hv he
      go_enter Try.func23, Try.ntmps23
      go_wp2_with fail
      refine (Check_any _ l _ hI).mono ?_; rintro e w' ⟨rfl, nw, rfl⟩
      go_wp2_with fail
      refine (member_any _ l _ _ (hI.qt (Qt.drewN _ _))).mono ?_; rintro e w' ⟨rfl, nw', rfl⟩
      go_wp2_with fail
      go_ret2
      exact ⟨rfl, (by first | exact Qt.refl _ | exact Qt.drewN _ _ | exact (Qt.drewN _ _).trans (Qt.drewN _ _) | exact ((Qt.drewN _ _).trans (Qt.drewN _ _)).trans (Qt.drewN _ _) | exact Qt.drew _ | exact (Qt.drewN _ _).trans (Qt.drew _))⟩
    · obtain ⟨hx1, hx2⟩ := memB_iff.1 hx
      have hcx := hcell x.toNat (by omega)
      have hv : findV l x = nth l x.toNat := by simp [findV, hx, H0.out]
      have he : findE l x = 0 := by simp [findE, H0.out, hx]
      rw [hv, he]; clear hv he
      go_enter Try.func23, Try.ntmps23
      go_wp2_with fail
      refine (Check_any _ l _ hI).mono ?_; rintro e w' ⟨rfl, nw, rfl⟩
      go_wp2_with fail
      refine (member_any _ l _ _ (hI.qt (Qt.drewN _ _))).mono ?_; rintro e w' ⟨rfl, nw', rfl⟩
      go_wp2_with fail
      go_ret2
      exact ⟨rfl, (by first | exact Qt.refl _ | exact Qt.drewN _ _ | exact (Qt.drewN _ _).trans (Qt.drewN _ _) | exact ((Qt.drewN _ _).trans (Qt.drewN _ _)).trans (Qt.drewN _ _) | exact Qt.drew _ | exact (Qt.drewN _ _).trans (Qt.drew _))⟩
  · have h0' : (chk l != 0) = true := by simpa using h0
    have hv : findV l x = 0 := by simp [findV, h0]
    have he : findE l x = chk l := by simp [findE, h0]
    rw [hv, he]; clear hv he h0
    go_enter Try.func23, Try.ntmps23
    go_wp2_with fail
    refine (Check_any _ l _ hI).mono ?_; rintro e w' ⟨rfl, nw, rfl⟩
    go_wp2_with fail
    go_ret2
    exact ⟨rfl, (by first | exact Qt.refl _ | exact Qt.drewN _ _ | exact (Qt.drewN _ _).trans (Qt.drewN _ _) | exact ((Qt.drewN _ _).trans (Qt.drewN _ _)).trans (Qt.drewN _ _) | exact Qt.drew _ | exact (Qt.drewN _ _).trans (Qt.drew _))⟩

end Go.Proofs.Ytmgeadhiohlblaa
