/- PartitionFiner: for any two lists of numbers, Finer holds exactly if members that are together in the first one are together in the second one. Conditions: none. -/
import Derived.Test.YtmgeadhiohlblaaLawOf
import Derived.Test.YtmgeadhiohlblaaPlainP
namespace Go.Proofs.Ytmgeadhiohlblaa
open Go.ChangeShapes Go.WideShapes Go.ChangeAt Go.RowKit Go.Dfl


def RelXY (a b : List Int) (x y : Nat) : Prop := nth a x ≠ nth a y ∨ nth b x = nth b y
def GoodTo (a b : List Int) (k : Nat) : Prop := (chk a = 0 ∧ chk b = 0 ∧ a.length = b.length) ∧ ∀ x, x < k → ∀ y, y < a.length → RelXY a b x y

theorem good_finer {a b : List Int} (h : GoodTo a b a.length) : finerB a b = true := by
  obtain ⟨⟨h1, h2, h3⟩, h4⟩ := h
  have g := (chk_ok h1).2
  refine (finerB_iff a b).2 ⟨h1, h2, h3, fun i hi => ?_⟩
  have gi := g i hi
  rcases h4 i hi (nth a i).toNat (by omega) with e | e
  · exact absurd gi.2.2.symm e
  · exact e
theorem bad_finer {a b : List Int} {x y : Nat} (hx : x < a.length) (hy : y < a.length) (h : ¬ RelXY a b x y) : finerB a b = false := by
  rw [Bool.eq_false_iff]
  intro hf
  obtain ⟨h1, h2, h3, h4⟩ := (finerB_iff a b).1 hf
  apply h
  by_cases e : nth a x = nth a y
  · right; rw [h4 x hx, h4 y hy, e]
  · left; exact e
theorem bad_start {a b : List Int} (h : ¬ (chk a = 0 ∧ chk b = 0 ∧ a.length = b.length)) : finerB a b = false := by
  rw [Bool.eq_false_iff]
  intro hf
  obtain ⟨h1, h2, h3, h4⟩ := (finerB_iff a b).1 hf
  exact h ⟨h1, h2, h3⟩

/-- What the variable 'is' says. -/
def IsOk (a b : List Int) (t : Bool) (G : Prop) : Prop := (t = true → G) ∧ (t = false → finerB a b = false)


set_option maxHeartbeats 3200000 in
set_option maxRecDepth 100000 in
theorem PartitionFiner_walk (v : Value) (a : List Int) (u : Value) (b : List Int) (w : World) (h : Ints w v a) (_ : ∀ x ∈ a, -9223372036854775808 ≤ x ∧ x ≤ 9223372036854775807) (h' : Ints w u b) (_ : ∀ x ∈ b, -9223372036854775808 ≤ x ∧ x ≤ 9223372036854775807) :
    Calls Try.prog 6 #[v, u] w (TruePost w) := by
  have hIa := h
  have hIb := h'
  obtain ⟨pa, cap, rfl, hm, hia, hca, -⟩ := h.out1 sInt
  obtain ⟨pb, cap', rfl, hm', hib, hcb, -⟩ := h'.out1 sInt
  clear h h'
  by_cases hl1 : 60 < a.length
  · go_enter Try.func6, Try.ntmps6
    go_wp2_with fail
    refine (awake_any _).mono ?_; rintro e w5 ⟨rfl, b5⟩
    go_wp2_with fail
    go_ret
    exact ⟨rfl, b5⟩
  have hd1 : decide (60 < a.length) = false := by simpa using hl1
  by_cases hl2 : 60 < b.length
  · go_enter Try.func6, Try.ntmps6
    go_wp2_with fail
    refine (awake_any _).mono ?_; rintro e w5 ⟨rfl, b5⟩
    go_wp2_with fail
    go_ret
    exact ⟨rfl, b5⟩
  have hd2 : decide (60 < b.length) = false := by simpa using hl2
  by_cases h0 : chk a = 0
  · have h0' : (chk a == 0) = true := by simpa using h0
    by_cases h1 : chk b = 0
    · have h1' : (chk b == 0) = true := by simpa using h1
      by_cases h2 : a.length = b.length
      · have h2' : ((a.length : Int) == (b.length : Int)) = true := by simp; omega
        have HA := Lib.hid (And.intro h0 (And.intro h1 h2))
        clear h0 h1 h2
        go_enter Try.func6, Try.ntmps6
        go_wp2_with fail
        refine (RCheck_any _ a _ hIa).mono ?_; rintro e w' ⟨rfl, n1, rfl⟩
        go_wp2_with fail
        refine (RCheck_any _ b _ (hIb.qt (by first | exact Qt.refl _ | exact Qt.drewN _ _ | exact (Qt.drewN _ _).trans (Qt.drewN _ _) | exact ((Qt.drewN _ _).trans (Qt.drewN _ _)).trans (Qt.drewN _ _) | exact Qt.drew _ | exact (Qt.drewN _ _).trans (Qt.drew _)))).mono ?_; rintro e w' ⟨rfl, n2, rfl⟩
        go_wp2_with fail
        go_loopw [5, 6] (fun t x wr => ∃ (k : Nat) (i : Bool), k ≤ a.length ∧ x = .int .i64 k ∧ t = .bool i ∧ Qt w wr ∧ Hid (IsOk a b i (GoodTo a b k))) (fun _ x _ => a.length - (intOf x).toNat)
        case atStart => exact ⟨0, true, by omega, rfl, rfl, (by first | exact Qt.refl _ | exact Qt.drewN _ _ | exact (Qt.drewN _ _).trans (Qt.drewN _ _) | exact ((Qt.drewN _ _).trans (Qt.drewN _ _)).trans (Qt.drewN _ _) | exact Qt.drew _ | exact (Qt.drewN _ _).trans (Qt.drew _)), ⟨fun _ => ⟨HA.out, fun x hx => by omega⟩, fun h => by simp at h⟩⟩
        case round =>
          obtain ⟨k, i, hk, rfl, rfl, ⟨nw, rfl⟩, hh⟩ := hrel
          have fin : i = true → k = a.length → finerB a b = i := fun e e2 => by rw [e]; exact good_finer (by rw [← e2]; exact hh.out.1 e)
          have fin2 : i = false → finerB a b = i := fun e => by rw [e]; exact hh.out.2 e
          have Fin := Lib.hid (And.intro fin fin2)
          clear fin fin2
          by_cases hlt : k < a.length
          · cases i
            · have hfb := Fin.out.2 rfl
              go_wp2_with fail
              refine (Finer_any _ _ a b _ (hIa.qt (by first | exact Qt.refl _ | exact Qt.drewN _ _ | exact (Qt.drewN _ _).trans (Qt.drewN _ _) | exact ((Qt.drewN _ _).trans (Qt.drewN _ _)).trans (Qt.drewN _ _) | exact Qt.drew _ | exact (Qt.drewN _ _).trans (Qt.drew _))) (hIb.qt (by first | exact Qt.refl _ | exact Qt.drewN _ _ | exact (Qt.drewN _ _).trans (Qt.drewN _ _) | exact ((Qt.drewN _ _).trans (Qt.drewN _ _)).trans (Qt.drewN _ _) | exact Qt.drew _ | exact (Qt.drewN _ _).trans (Qt.drew _)))).mono ?_; rintro e w' ⟨rfl, q1, rfl⟩
              go_wp2_with fail
              refine (awake_any _).mono ?_; rintro e w5 ⟨rfl, b5⟩
              go_wp2_with fail
              go_ret
              exact ⟨rfl, (below_drewN (Below.refl _ _) _).trans (b5.mono (by simp))⟩
            · have hG := hh.out.1 rfl
              have HG := Lib.hid hG
              have hle : a.length ≤ b.length := by have := hG.1.2.2; omega
              clear hG hh Fin
              go_wp2_with fail
              go_loopw [5, 7] (fun t y wr => ∃ (j : Nat) (i : Bool), j ≤ a.length ∧ y = .int .i64 j ∧ t = .bool i ∧ Qt w wr ∧ Hid (IsOk a b i (∀ y, y < j → RelXY a b k y))) (fun _ y _ => a.length - (intOf y).toNat)
              case atStart => exact ⟨0, true, by omega, rfl, rfl, (by first | exact Qt.refl _ | exact Qt.drewN _ _ | exact (Qt.drewN _ _).trans (Qt.drewN _ _) | exact ((Qt.drewN _ _).trans (Qt.drewN _ _)).trans (Qt.drewN _ _) | exact Qt.drew _ | exact (Qt.drewN _ _).trans (Qt.drew _)), fun _ y hy => by omega, fun h => by simp at h⟩
              case round =>
                obtain ⟨j, i, hj, rfl, rfl, ⟨nw, rfl⟩, hh⟩ := hrel
                by_cases hlj : j < a.length
                · cases i
                  · go_wp2_with fail
                    go_roundw
                    case rel => exact ⟨k + 1, false, by omega, by go_num, rfl, (by first | exact Qt.refl _ | exact Qt.drewN _ _ | exact (Qt.drewN _ _).trans (Qt.drewN _ _) | exact ((Qt.drewN _ _).trans (Qt.drewN _ _)).trans (Qt.drewN _ _) | exact Qt.drew _ | exact (Qt.drewN _ _).trans (Qt.drew _)), fun h => by simp at h, fun _ => hh.out.2 rfl⟩
                    case measure => simp [intOf]; omega
                  · have ca1 := hca k hlt
                    have ca2 := hca j hlj
                    have cb1 := hcb k (by omega)
                    have cb2 := hcb j (by omega)
                    have hkb : k < b.length := by omega
                    have hjb : j < b.length := by omega
                    clear hca hcb
                    by_cases e1 : nth a k = nth a j
                    · have e1' : (nth a k != nth a j) = false := by simpa using e1
                      by_cases e2 : nth b k = nth b j
                      · have e2' : (nth b k == nth b j) = true := by simpa using e2
                        have E2 := Lib.hid e2
                        clear e1 e2
                        go_wp2_with fail
                        go_quiet (fail)
                        go_wp2_with fail
                        go_roundw
                        case rel => exact ⟨j + 1, true, by omega, by go_num, rfl, (by first | exact Qt.refl _ | exact Qt.drewN _ _ | exact (Qt.drewN _ _).trans (Qt.drewN _ _) | exact ((Qt.drewN _ _).trans (Qt.drewN _ _)).trans (Qt.drewN _ _) | exact Qt.drew _ | exact (Qt.drewN _ _).trans (Qt.drew _)), fun _ y hy => by
                          by_cases e : y = j
                          · subst e; exact .inr E2.out
                          · exact hh.out.1 rfl y (by omega), fun h => by simp at h⟩
                        case measure => simp [intOf]; omega
                      · have e2' : (nth b k == nth b j) = false := by simpa using e2
                        have hbad := bad_finer (a := a) (b := b) hlt hlj (by unfold RelXY; simp [e1, e2])
                        have E2 := Lib.hid hbad
                        clear e1 e2 hbad
                        go_wp2_with fail
                        go_quiet (fail)
                        go_wp2_with fail
                        go_roundw
                        case rel => exact ⟨j + 1, false, by omega, by go_num, rfl, (by first | exact Qt.refl _ | exact Qt.drewN _ _ | exact (Qt.drewN _ _).trans (Qt.drewN _ _) | exact ((Qt.drewN _ _).trans (Qt.drewN _ _)).trans (Qt.drewN _ _) | exact Qt.drew _ | exact (Qt.drewN _ _).trans (Qt.drew _)), fun h => by simp at h, fun _ => E2.out⟩
                        case measure => simp [intOf]; omega
                    · have e1' : (nth a k != nth a j) = true := by simpa using e1
                      have E2 := Lib.hid e1
                      clear e1
                      go_wp2_with fail
                      go_quiet (fail)
                      go_wp2_with fail
                      go_roundw
                      case rel => exact ⟨j + 1, true, by omega, by go_num, rfl, (by first | exact Qt.refl _ | exact Qt.drewN _ _ | exact (Qt.drewN _ _).trans (Qt.drewN _ _) | exact ((Qt.drewN _ _).trans (Qt.drewN _ _)).trans (Qt.drewN _ _) | exact Qt.drew _ | exact (Qt.drewN _ _).trans (Qt.drew _)), fun _ y hy => by
                        by_cases e : y = j
                        · subst e; exact .inl E2.out
                        · exact hh.out.1 rfl y (by omega), fun h => by simp at h⟩
                      case measure => simp [intOf]; omega
                · go_wp2_with fail
                  go_roundw
                  case rel => exact ⟨k + 1, i, by omega, by go_num, rfl, (by first | exact Qt.refl _ | exact Qt.drewN _ _ | exact (Qt.drewN _ _).trans (Qt.drewN _ _) | exact ((Qt.drewN _ _).trans (Qt.drewN _ _)).trans (Qt.drewN _ _) | exact Qt.drew _ | exact (Qt.drewN _ _).trans (Qt.drew _)), fun e => ⟨HG.out.1, fun x hx y hy => by
                    by_cases e3 : x = k
                    · subst e3; exact hh.out.1 e y (by omega)
                    · exact HG.out.2 x (by omega) y hy⟩, hh.out.2⟩
                  case measure => simp [intOf]; omega
          · have hfb : finerB a b = i := by
              cases i
              · exact Fin.out.2 rfl
              · exact Fin.out.1 rfl (by omega)
            go_wp2_with fail
            refine (Finer_any _ _ a b _ (hIa.qt (by first | exact Qt.refl _ | exact Qt.drewN _ _ | exact (Qt.drewN _ _).trans (Qt.drewN _ _) | exact ((Qt.drewN _ _).trans (Qt.drewN _ _)).trans (Qt.drewN _ _) | exact Qt.drew _ | exact (Qt.drewN _ _).trans (Qt.drew _))) (hIb.qt (by first | exact Qt.refl _ | exact Qt.drewN _ _ | exact (Qt.drewN _ _).trans (Qt.drewN _ _) | exact ((Qt.drewN _ _).trans (Qt.drewN _ _)).trans (Qt.drewN _ _) | exact Qt.drew _ | exact (Qt.drewN _ _).trans (Qt.drew _)))).mono ?_; rintro e w' ⟨rfl, q1, rfl⟩
            go_wp2_with fail
            refine (awake_any _).mono ?_; rintro e w5 ⟨rfl, b5⟩
            go_wp2_with fail
            go_ret
            exact ⟨rfl, (below_drewN (Below.refl _ _) _).trans (b5.mono (by simp))⟩
      · have h2' : ((a.length : Int) == (b.length : Int)) = false := by simp; omega
        have HA := Lib.hid (bad_start (a := a) (b := b) (by simp [h2]))
        clear h0 h1 h2
        go_enter Try.func6, Try.ntmps6
        go_wp2_with fail
        refine (RCheck_any _ a _ hIa).mono ?_; rintro e w' ⟨rfl, n1, rfl⟩
        go_wp2_with fail
        refine (RCheck_any _ b _ (hIb.qt (by first | exact Qt.refl _ | exact Qt.drewN _ _ | exact (Qt.drewN _ _).trans (Qt.drewN _ _) | exact ((Qt.drewN _ _).trans (Qt.drewN _ _)).trans (Qt.drewN _ _) | exact Qt.drew _ | exact (Qt.drewN _ _).trans (Qt.drew _)))).mono ?_; rintro e w' ⟨rfl, n2, rfl⟩
        go_wp2_with fail
        go_loopw [5, 6] (fun t x wr => ∃ (k : Nat) (i : Bool), k ≤ a.length ∧ x = .int .i64 k ∧ t = .bool i ∧ Qt w wr ∧ Hid (IsOk a b i (GoodTo a b k))) (fun _ x _ => a.length - (intOf x).toNat)
        case atStart => exact ⟨0, false, by omega, rfl, rfl, (by first | exact Qt.refl _ | exact Qt.drewN _ _ | exact (Qt.drewN _ _).trans (Qt.drewN _ _) | exact ((Qt.drewN _ _).trans (Qt.drewN _ _)).trans (Qt.drewN _ _) | exact Qt.drew _ | exact (Qt.drewN _ _).trans (Qt.drew _)), ⟨fun h => by simp at h, fun _ => HA.out⟩⟩
        case round =>
          obtain ⟨k, i, hk, rfl, rfl, ⟨nw, rfl⟩, hh⟩ := hrel
          have fin : i = true → k = a.length → finerB a b = i := fun e e2 => by rw [e]; exact good_finer (by rw [← e2]; exact hh.out.1 e)
          have fin2 : i = false → finerB a b = i := fun e => by rw [e]; exact hh.out.2 e
          have Fin := Lib.hid (And.intro fin fin2)
          clear fin fin2
          by_cases hlt : k < a.length
          · cases i
            · have hfb := Fin.out.2 rfl
              go_wp2_with fail
              refine (Finer_any _ _ a b _ (hIa.qt (by first | exact Qt.refl _ | exact Qt.drewN _ _ | exact (Qt.drewN _ _).trans (Qt.drewN _ _) | exact ((Qt.drewN _ _).trans (Qt.drewN _ _)).trans (Qt.drewN _ _) | exact Qt.drew _ | exact (Qt.drewN _ _).trans (Qt.drew _))) (hIb.qt (by first | exact Qt.refl _ | exact Qt.drewN _ _ | exact (Qt.drewN _ _).trans (Qt.drewN _ _) | exact ((Qt.drewN _ _).trans (Qt.drewN _ _)).trans (Qt.drewN _ _) | exact Qt.drew _ | exact (Qt.drewN _ _).trans (Qt.drew _)))).mono ?_; rintro e w' ⟨rfl, q1, rfl⟩
              go_wp2_with fail
              refine (awake_any _).mono ?_; rintro e w5 ⟨rfl, b5⟩
              go_wp2_with fail
              go_ret
              exact ⟨rfl, (below_drewN (Below.refl _ _) _).trans (b5.mono (by simp))⟩
            · have hG := hh.out.1 rfl
              have HG := Lib.hid hG
              have hle : a.length ≤ b.length := by have := hG.1.2.2; omega
              clear hG hh Fin
              go_wp2_with fail
              go_loopw [5, 7] (fun t y wr => ∃ (j : Nat) (i : Bool), j ≤ a.length ∧ y = .int .i64 j ∧ t = .bool i ∧ Qt w wr ∧ Hid (IsOk a b i (∀ y, y < j → RelXY a b k y))) (fun _ y _ => a.length - (intOf y).toNat)
              case atStart => exact ⟨0, true, by omega, rfl, rfl, (by first | exact Qt.refl _ | exact Qt.drewN _ _ | exact (Qt.drewN _ _).trans (Qt.drewN _ _) | exact ((Qt.drewN _ _).trans (Qt.drewN _ _)).trans (Qt.drewN _ _) | exact Qt.drew _ | exact (Qt.drewN _ _).trans (Qt.drew _)), fun _ y hy => by omega, fun h => by simp at h⟩
              case round =>
                obtain ⟨j, i, hj, rfl, rfl, ⟨nw, rfl⟩, hh⟩ := hrel
                by_cases hlj : j < a.length
                · cases i
                  · go_wp2_with fail
                    go_roundw
                    case rel => exact ⟨k + 1, false, by omega, by go_num, rfl, (by first | exact Qt.refl _ | exact Qt.drewN _ _ | exact (Qt.drewN _ _).trans (Qt.drewN _ _) | exact ((Qt.drewN _ _).trans (Qt.drewN _ _)).trans (Qt.drewN _ _) | exact Qt.drew _ | exact (Qt.drewN _ _).trans (Qt.drew _)), fun h => by simp at h, fun _ => hh.out.2 rfl⟩
                    case measure => simp [intOf]; omega
                  · have ca1 := hca k hlt
                    have ca2 := hca j hlj
                    have cb1 := hcb k (by omega)
                    have cb2 := hcb j (by omega)
                    have hkb : k < b.length := by omega
                    have hjb : j < b.length := by omega
                    clear hca hcb
                    by_cases e1 : nth a k = nth a j
                    · have e1' : (nth a k != nth a j) = false := by simpa using e1
                      by_cases e2 : nth b k = nth b j
                      · have e2' : (nth b k == nth b j) = true := by simpa using e2
                        have E2 := Lib.hid e2
                        clear e1 e2
                        go_wp2_with fail
                        go_quiet (fail)
                        go_wp2_with fail
                        go_roundw
                        case rel => exact ⟨j + 1, true, by omega, by go_num, rfl, (by first | exact Qt.refl _ | exact Qt.drewN _ _ | exact (Qt.drewN _ _).trans (Qt.drewN _ _) | exact ((Qt.drewN _ _).trans (Qt.drewN _ _)).trans (Qt.drewN _ _) | exact Qt.drew _ | exact (Qt.drewN _ _).trans (Qt.drew _)), fun _ y hy => by
                          by_cases e : y = j
                          · subst e; exact .inr E2.out
                          · exact hh.out.1 rfl y (by omega), fun h => by simp at h⟩
                        case measure => simp [intOf]; omega
                      · have e2' : (nth b k == nth b j) = false := by simpa using e2
                        have hbad := bad_finer (a := a) (b := b) hlt hlj (by unfold RelXY; simp [e1, e2])
                        have E2 := Lib.hid hbad
                        clear e1 e2 hbad
                        go_wp2_with fail
                        go_quiet (fail)
                        go_wp2_with fail
                        go_roundw
                        case rel => exact ⟨j + 1, false, by omega, by go_num, rfl, (by first | exact Qt.refl _ | exact Qt.drewN _ _ | exact (Qt.drewN _ _).trans (Qt.drewN _ _) | exact ((Qt.drewN _ _).trans (Qt.drewN _ _)).trans (Qt.drewN _ _) | exact Qt.drew _ | exact (Qt.drewN _ _).trans (Qt.drew _)), fun h => by simp at h, fun _ => E2.out⟩
                        case measure => simp [intOf]; omega
                    · have e1' : (nth a k != nth a j) = true := by simpa using e1
                      have E2 := Lib.hid e1
                      clear e1
                      go_wp2_with fail
                      go_quiet (fail)
                      go_wp2_with fail
                      go_roundw
                      case rel => exact ⟨j + 1, true, by omega, by go_num, rfl, (by first | exact Qt.refl _ | exact Qt.drewN _ _ | exact (Qt.drewN _ _).trans (Qt.drewN _ _) | exact ((Qt.drewN _ _).trans (Qt.drewN _ _)).trans (Qt.drewN _ _) | exact Qt.drew _ | exact (Qt.drewN _ _).trans (Qt.drew _)), fun _ y hy => by
                        by_cases e : y = j
                        · subst e; exact .inl E2.out
                        · exact hh.out.1 rfl y (by omega), fun h => by simp at h⟩
                      case measure => simp [intOf]; omega
                · go_wp2_with fail
                  go_roundw
                  case rel => exact ⟨k + 1, i, by omega, by go_num, rfl, (by first | exact Qt.refl _ | exact Qt.drewN _ _ | exact (Qt.drewN _ _).trans (Qt.drewN _ _) | exact ((Qt.drewN _ _).trans (Qt.drewN _ _)).trans (Qt.drewN _ _) | exact Qt.drew _ | exact (Qt.drewN _ _).trans (Qt.drew _)), fun e => ⟨HG.out.1, fun x hx y hy => by
                    by_cases e3 : x = k
                    · subst e3; exact hh.out.1 e y (by omega)
                    · exact HG.out.2 x (by omega) y hy⟩, hh.out.2⟩
                  case measure => simp [intOf]; omega
          · have hfb : finerB a b = i := by
              cases i
              · exact Fin.out.2 rfl
              · exact Fin.out.1 rfl (by omega)
            go_wp2_with fail
            refine (Finer_any _ _ a b _ (hIa.qt (by first | exact Qt.refl _ | exact Qt.drewN _ _ | exact (Qt.drewN _ _).trans (Qt.drewN _ _) | exact ((Qt.drewN _ _).trans (Qt.drewN _ _)).trans (Qt.drewN _ _) | exact Qt.drew _ | exact (Qt.drewN _ _).trans (Qt.drew _))) (hIb.qt (by first | exact Qt.refl _ | exact Qt.drewN _ _ | exact (Qt.drewN _ _).trans (Qt.drewN _ _) | exact ((Qt.drewN _ _).trans (Qt.drewN _ _)).trans (Qt.drewN _ _) | exact Qt.drew _ | exact (Qt.drewN _ _).trans (Qt.drew _)))).mono ?_; rintro e w' ⟨rfl, q1, rfl⟩
            go_wp2_with fail
            refine (awake_any _).mono ?_; rintro e w5 ⟨rfl, b5⟩
            go_wp2_with fail
            go_ret
            exact ⟨rfl, (below_drewN (Below.refl _ _) _).trans (b5.mono (by simp))⟩
    · have h1' : (chk b == 0) = false := by simpa using h1
      have HA := Lib.hid (bad_start (a := a) (b := b) (by simp [h1]))
      clear h0 h1
      go_enter Try.func6, Try.ntmps6
      go_wp2_with fail
      refine (RCheck_any _ a _ hIa).mono ?_; rintro e w' ⟨rfl, n1, rfl⟩
      go_wp2_with fail
      refine (RCheck_any _ b _ (hIb.qt (by first | exact Qt.refl _ | exact Qt.drewN _ _ | exact (Qt.drewN _ _).trans (Qt.drewN _ _) | exact ((Qt.drewN _ _).trans (Qt.drewN _ _)).trans (Qt.drewN _ _) | exact Qt.drew _ | exact (Qt.drewN _ _).trans (Qt.drew _)))).mono ?_; rintro e w' ⟨rfl, n2, rfl⟩
      go_wp2_with fail
      go_loopw [5, 6] (fun t x wr => ∃ (k : Nat) (i : Bool), k ≤ a.length ∧ x = .int .i64 k ∧ t = .bool i ∧ Qt w wr ∧ Hid (IsOk a b i (GoodTo a b k))) (fun _ x _ => a.length - (intOf x).toNat)
      case atStart => exact ⟨0, false, by omega, rfl, rfl, (by first | exact Qt.refl _ | exact Qt.drewN _ _ | exact (Qt.drewN _ _).trans (Qt.drewN _ _) | exact ((Qt.drewN _ _).trans (Qt.drewN _ _)).trans (Qt.drewN _ _) | exact Qt.drew _ | exact (Qt.drewN _ _).trans (Qt.drew _)), ⟨fun h => by simp at h, fun _ => HA.out⟩⟩
      case round =>
        obtain ⟨k, i, hk, rfl, rfl, ⟨nw, rfl⟩, hh⟩ := hrel
        have fin : i = true → k = a.length → finerB a b = i := fun e e2 => by rw [e]; exact good_finer (by rw [← e2]; exact hh.out.1 e)
        have fin2 : i = false → finerB a b = i := fun e => by rw [e]; exact hh.out.2 e
        have Fin := Lib.hid (And.intro fin fin2)
        clear fin fin2
        by_cases hlt : k < a.length
        · cases i
          · have hfb := Fin.out.2 rfl
            go_wp2_with fail
            refine (Finer_any _ _ a b _ (hIa.qt (by first | exact Qt.refl _ | exact Qt.drewN _ _ | exact (Qt.drewN _ _).trans (Qt.drewN _ _) | exact ((Qt.drewN _ _).trans (Qt.drewN _ _)).trans (Qt.drewN _ _) | exact Qt.drew _ | exact (Qt.drewN _ _).trans (Qt.drew _))) (hIb.qt (by first | exact Qt.refl _ | exact Qt.drewN _ _ | exact (Qt.drewN _ _).trans (Qt.drewN _ _) | exact ((Qt.drewN _ _).trans (Qt.drewN _ _)).trans (Qt.drewN _ _) | exact Qt.drew _ | exact (Qt.drewN _ _).trans (Qt.drew _)))).mono ?_; rintro e w' ⟨rfl, q1, rfl⟩
            go_wp2_with fail
            refine (awake_any _).mono ?_; rintro e w5 ⟨rfl, b5⟩
            go_wp2_with fail
            go_ret
            exact ⟨rfl, (below_drewN (Below.refl _ _) _).trans (b5.mono (by simp))⟩
          · have hG := hh.out.1 rfl
            have HG := Lib.hid hG
            have hle : a.length ≤ b.length := by have := hG.1.2.2; omega
            clear hG hh Fin
            go_wp2_with fail
            go_loopw [5, 7] (fun t y wr => ∃ (j : Nat) (i : Bool), j ≤ a.length ∧ y = .int .i64 j ∧ t = .bool i ∧ Qt w wr ∧ Hid (IsOk a b i (∀ y, y < j → RelXY a b k y))) (fun _ y _ => a.length - (intOf y).toNat)
            case atStart => exact ⟨0, true, by omega, rfl, rfl, (by first | exact Qt.refl _ | exact Qt.drewN _ _ | exact (Qt.drewN _ _).trans (Qt.drewN _ _) | exact ((Qt.drewN _ _).trans (Qt.drewN _ _)).trans (Qt.drewN _ _) | exact Qt.drew _ | exact (Qt.drewN _ _).trans (Qt.drew _)), fun _ y hy => by omega, fun h => by simp at h⟩
            case round =>
              obtain ⟨j, i, hj, rfl, rfl, ⟨nw, rfl⟩, hh⟩ := hrel
              by_cases hlj : j < a.length
              · cases i
                · go_wp2_with fail
                  go_roundw
                  case rel => exact ⟨k + 1, false, by omega, by go_num, rfl, (by first | exact Qt.refl _ | exact Qt.drewN _ _ | exact (Qt.drewN _ _).trans (Qt.drewN _ _) | exact ((Qt.drewN _ _).trans (Qt.drewN _ _)).trans (Qt.drewN _ _) | exact Qt.drew _ | exact (Qt.drewN _ _).trans (Qt.drew _)), fun h => by simp at h, fun _ => hh.out.2 rfl⟩
                  case measure => simp [intOf]; omega
                · have ca1 := hca k hlt
                  have ca2 := hca j hlj
                  have cb1 := hcb k (by omega)
                  have cb2 := hcb j (by omega)
                  have hkb : k < b.length := by omega
                  have hjb : j < b.length := by omega
                  clear hca hcb
                  by_cases e1 : nth a k = nth a j
                  · have e1' : (nth a k != nth a j) = false := by simpa using e1
                    by_cases e2 : nth b k = nth b j
                    · have e2' : (nth b k == nth b j) = true := by simpa using e2
                      have E2 := Lib.hid e2
                      clear e1 e2
                      go_wp2_with fail
                      go_quiet (fail)
                      go_wp2_with fail
                      go_roundw
                      case rel => exact ⟨j + 1, true, by omega, by go_num, rfl, (by first | exact Qt.refl _ | exact Qt.drewN _ _ | exact (Qt.drewN _ _).trans (Qt.drewN _ _) | exact ((Qt.drewN _ _).trans (Qt.drewN _ _)).trans (Qt.drewN _ _) | exact Qt.drew _ | exact (Qt.drewN _ _).trans (Qt.drew _)), fun _ y hy => by
                        by_cases e : y = j
                        · subst e; exact .inr E2.out
                        · exact hh.out.1 rfl y (by omega), fun h => by simp at h⟩
                      case measure => simp [intOf]; omega
                    · have e2' : (nth b k == nth b j) = false := by simpa using e2
                      have hbad := bad_finer (a := a) (b := b) hlt hlj (by unfold RelXY; simp [e1, e2])
                      have E2 := Lib.hid hbad
                      clear e1 e2 hbad
                      go_wp2_with fail
                      go_quiet (fail)
                      go_wp2_with fail
                      go_roundw
                      case rel => exact ⟨j + 1, false, by omega, by go_num, rfl, (by first | exact Qt.refl _ | exact Qt.drewN _ _ | exact (Qt.drewN _ _).trans (Qt.drewN _ _) | exact ((Qt.drewN _ _).trans (Qt.drewN _ _)).trans (Qt.drewN _ _) | exact Qt.drew _ | exact (Qt.drewN _ _).trans (Qt.drew _)), fun h => by simp at h, fun _ => E2.out⟩
                      case measure => simp [intOf]; omega
                  · have e1' : (nth a k != nth a j) = true := by simpa using e1
                    have E2 := Lib.hid e1
                    clear e1
                    go_wp2_with fail
                    go_quiet (fail)
                    go_wp2_with fail
                    go_roundw
                    case rel => exact ⟨j + 1, true, by omega, by go_num, rfl, (by first | exact Qt.refl _ | exact Qt.drewN _ _ | exact (Qt.drewN _ _).trans (Qt.drewN _ _) | exact ((Qt.drewN _ _).trans (Qt.drewN _ _)).trans (Qt.drewN _ _) | exact Qt.drew _ | exact (Qt.drewN _ _).trans (Qt.drew _)), fun _ y hy => by
                      by_cases e : y = j
                      · subst e; exact .inl E2.out
                      · exact hh.out.1 rfl y (by omega), fun h => by simp at h⟩
                    case measure => simp [intOf]; omega
              · go_wp2_with fail
                go_roundw
                case rel => exact ⟨k + 1, i, by omega, by go_num, rfl, (by first | exact Qt.refl _ | exact Qt.drewN _ _ | exact (Qt.drewN _ _).trans (Qt.drewN _ _) | exact ((Qt.drewN _ _).trans (Qt.drewN _ _)).trans (Qt.drewN _ _) | exact Qt.drew _ | exact (Qt.drewN _ _).trans (Qt.drew _)), fun e => ⟨HG.out.1, fun x hx y hy => by
                  by_cases e3 : x = k
                  · subst e3; exact hh.out.1 e y (by omega)
                  · exact HG.out.2 x (by omega) y hy⟩, hh.out.2⟩
                case measure => simp [intOf]; omega
        · have hfb : finerB a b = i := by
            cases i
            · exact Fin.out.2 rfl
            · exact Fin.out.1 rfl (by omega)
          go_wp2_with fail
          refine (Finer_any _ _ a b _ (hIa.qt (by first | exact Qt.refl _ | exact Qt.drewN _ _ | exact (Qt.drewN _ _).trans (Qt.drewN _ _) | exact ((Qt.drewN _ _).trans (Qt.drewN _ _)).trans (Qt.drewN _ _) | exact Qt.drew _ | exact (Qt.drewN _ _).trans (Qt.drew _))) (hIb.qt (by first | exact Qt.refl _ | exact Qt.drewN _ _ | exact (Qt.drewN _ _).trans (Qt.drewN _ _) | exact ((Qt.drewN _ _).trans (Qt.drewN _ _)).trans (Qt.drewN _ _) | exact Qt.drew _ | exact (Qt.drewN _ _).trans (Qt.drew _)))).mono ?_; rintro e w' ⟨rfl, q1, rfl⟩
          go_wp2_with fail
          refine (awake_any _).mono ?_; rintro e w5 ⟨rfl, b5⟩
          go_wp2_with fail
          go_ret
          exact ⟨rfl, (below_drewN (Below.refl _ _) _).trans (b5.mono (by simp))⟩
  · have h0' : (chk a == 0) = false := by simpa using h0
    have HA := Lib.hid (bad_start (a := a) (b := b) (by simp [h0]))
    clear h0
    go_enter Try.func6, Try.ntmps6
    go_wp2_with fail
    refine (RCheck_any _ a _ hIa).mono ?_; rintro e w' ⟨rfl, n1, rfl⟩
    go_wp2_with fail
    go_loopw [5, 6] (fun t x wr => ∃ (k : Nat) (i : Bool), k ≤ a.length ∧ x = .int .i64 k ∧ t = .bool i ∧ Qt w wr ∧ Hid (IsOk a b i (GoodTo a b k))) (fun _ x _ => a.length - (intOf x).toNat)
    case atStart => exact ⟨0, false, by omega, rfl, rfl, (by first | exact Qt.refl _ | exact Qt.drewN _ _ | exact (Qt.drewN _ _).trans (Qt.drewN _ _) | exact ((Qt.drewN _ _).trans (Qt.drewN _ _)).trans (Qt.drewN _ _) | exact Qt.drew _ | exact (Qt.drewN _ _).trans (Qt.drew _)), ⟨fun h => by simp at h, fun _ => HA.out⟩⟩
    case round =>
      obtain ⟨k, i, hk, rfl, rfl, ⟨nw, rfl⟩, hh⟩ := hrel
      have fin : i = true → k = a.length → finerB a b = i := fun e e2 => by rw [e]; exact good_finer (by rw [← e2]; exact hh.out.1 e)
      have fin2 : i = false → finerB a b = i := fun e => by rw [e]; exact hh.out.2 e
      have Fin := Lib.hid (And.intro fin fin2)
      clear fin fin2
      by_cases hlt : k < a.length
      · cases i
        · have hfb := Fin.out.2 rfl
          go_wp2_with fail
          refine (Finer_any _ _ a b _ (hIa.qt (by first | exact Qt.refl _ | exact Qt.drewN _ _ | exact (Qt.drewN _ _).trans (Qt.drewN _ _) | exact ((Qt.drewN _ _).trans (Qt.drewN _ _)).trans (Qt.drewN _ _) | exact Qt.drew _ | exact (Qt.drewN _ _).trans (Qt.drew _))) (hIb.qt (by first | exact Qt.refl _ | exact Qt.drewN _ _ | exact (Qt.drewN _ _).trans (Qt.drewN _ _) | exact ((Qt.drewN _ _).trans (Qt.drewN _ _)).trans (Qt.drewN _ _) | exact Qt.drew _ | exact (Qt.drewN _ _).trans (Qt.drew _)))).mono ?_; rintro e w' ⟨rfl, q1, rfl⟩
          go_wp2_with fail
          refine (awake_any _).mono ?_; rintro e w5 ⟨rfl, b5⟩
          go_wp2_with fail
          go_ret
          exact ⟨rfl, (below_drewN (Below.refl _ _) _).trans (b5.mono (by simp))⟩
        · have hG := hh.out.1 rfl
          have HG := Lib.hid hG
          have hle : a.length ≤ b.length := by have := hG.1.2.2; omega
          clear hG hh Fin
          go_wp2_with fail
          go_loopw [5, 7] (fun t y wr => ∃ (j : Nat) (i : Bool), j ≤ a.length ∧ y = .int .i64 j ∧ t = .bool i ∧ Qt w wr ∧ Hid (IsOk a b i (∀ y, y < j → RelXY a b k y))) (fun _ y _ => a.length - (intOf y).toNat)
          case atStart => exact ⟨0, true, by omega, rfl, rfl, (by first | exact Qt.refl _ | exact Qt.drewN _ _ | exact (Qt.drewN _ _).trans (Qt.drewN _ _) | exact ((Qt.drewN _ _).trans (Qt.drewN _ _)).trans (Qt.drewN _ _) | exact Qt.drew _ | exact (Qt.drewN _ _).trans (Qt.drew _)), fun _ y hy => by omega, fun h => by simp at h⟩
          case round =>
            obtain ⟨j, i, hj, rfl, rfl, ⟨nw, rfl⟩, hh⟩ := hrel
            by_cases hlj : j < a.length
            · cases i
              · go_wp2_with fail
                go_roundw
                case rel => exact ⟨k + 1, false, by omega, by go_num, rfl, (by first | exact Qt.refl _ | exact Qt.drewN _ _ | exact (Qt.drewN _ _).trans (Qt.drewN _ _) | exact ((Qt.drewN _ _).trans (Qt.drewN _ _)).trans (Qt.drewN _ _) | exact Qt.drew _ | exact (Qt.drewN _ _).trans (Qt.drew _)), fun h => by simp at h, fun _ => hh.out.2 rfl⟩
                case measure => simp [intOf]; omega
              · have ca1 := hca k hlt
                have ca2 := hca j hlj
                have cb1 := hcb k (by omega)
                have cb2 := hcb j (by omega)
                have hkb : k < b.length := by omega
                have hjb : j < b.length := by omega
                clear hca hcb
                by_cases e1 : nth a k = nth a j
                · have e1' : (nth a k != nth a j) = false := by simpa using e1
                  by_cases e2 : nth b k = nth b j
                  · have e2' : (nth b k == nth b j) = true := by simpa using e2
                    have E2 := Lib.hid e2
                    clear e1 e2
                    go_wp2_with fail
                    go_quiet (fail)
                    go_wp2_with fail
                    go_roundw
                    case rel => exact ⟨j + 1, true, by omega, by go_num, rfl, (by first | exact Qt.refl _ | exact Qt.drewN _ _ | exact (Qt.drewN _ _).trans (Qt.drewN _ _) | exact ((Qt.drewN _ _).trans (Qt.drewN _ _)).trans (Qt.drewN _ _) | exact Qt.drew _ | exact (Qt.drewN _ _).trans (Qt.drew _)), fun _ y hy => by
                      by_cases e : y = j
                      · subst e; exact .inr E2.out
                      · exact hh.out.1 rfl y (by omega), fun h => by simp at h⟩
                    case measure => simp [intOf]; omega
                  · have e2' : (nth b k == nth b j) = false := by simpa using e2
                    have hbad := bad_finer (a := a) (b := b) hlt hlj (by unfold RelXY; simp [e1, e2])
                    have E2 := Lib.hid hbad
                    clear e1 e2 hbad
                    go_wp2_with fail
                    go_quiet (fail)
                    go_wp2_with fail
                    go_roundw
                    case rel => exact ⟨j + 1, false, by omega, by go_num, rfl, (by first | exact Qt.refl _ | exact Qt.drewN _ _ | exact (Qt.drewN _ _).trans (Qt.drewN _ _) | exact ((Qt.drewN _ _).trans (Qt.drewN _ _)).trans (Qt.drewN _ _) | exact Qt.drew _ | exact (Qt.drewN _ _).trans (Qt.drew _)), fun h => by simp at h, fun _ => E2.out⟩
                    case measure => simp [intOf]; omega
                · have e1' : (nth a k != nth a j) = true := by simpa using e1
                  have E2 := Lib.hid e1
                  clear e1
                  go_wp2_with fail
                  go_quiet (fail)
                  go_wp2_with fail
                  go_roundw
                  case rel => exact ⟨j + 1, true, by omega, by go_num, rfl, (by first | exact Qt.refl _ | exact Qt.drewN _ _ | exact (Qt.drewN _ _).trans (Qt.drewN _ _) | exact ((Qt.drewN _ _).trans (Qt.drewN _ _)).trans (Qt.drewN _ _) | exact Qt.drew _ | exact (Qt.drewN _ _).trans (Qt.drew _)), fun _ y hy => by
                    by_cases e : y = j
                    · subst e; exact .inl E2.out
                    · exact hh.out.1 rfl y (by omega), fun h => by simp at h⟩
                  case measure => simp [intOf]; omega
            · go_wp2_with fail
              go_roundw
              case rel => exact ⟨k + 1, i, by omega, by go_num, rfl, (by first | exact Qt.refl _ | exact Qt.drewN _ _ | exact (Qt.drewN _ _).trans (Qt.drewN _ _) | exact ((Qt.drewN _ _).trans (Qt.drewN _ _)).trans (Qt.drewN _ _) | exact Qt.drew _ | exact (Qt.drewN _ _).trans (Qt.drew _)), fun e => ⟨HG.out.1, fun x hx y hy => by
                by_cases e3 : x = k
                · subst e3; exact hh.out.1 e y (by omega)
                · exact HG.out.2 x (by omega) y hy⟩, hh.out.2⟩
              case measure => simp [intOf]; omega
      · have hfb : finerB a b = i := by
          cases i
          · exact Fin.out.2 rfl
          · exact Fin.out.1 rfl (by omega)
        go_wp2_with fail
        refine (Finer_any _ _ a b _ (hIa.qt (by first | exact Qt.refl _ | exact Qt.drewN _ _ | exact (Qt.drewN _ _).trans (Qt.drewN _ _) | exact ((Qt.drewN _ _).trans (Qt.drewN _ _)).trans (Qt.drewN _ _) | exact Qt.drew _ | exact (Qt.drewN _ _).trans (Qt.drew _))) (hIb.qt (by first | exact Qt.refl _ | exact Qt.drewN _ _ | exact (Qt.drewN _ _).trans (Qt.drewN _ _) | exact ((Qt.drewN _ _).trans (Qt.drewN _ _)).trans (Qt.drewN _ _) | exact Qt.drew _ | exact (Qt.drewN _ _).trans (Qt.drew _)))).mono ?_; rintro e w' ⟨rfl, q1, rfl⟩
        go_wp2_with fail
        refine (awake_any _).mono ?_; rintro e w5 ⟨rfl, b5⟩
        go_wp2_with fail
        go_ret
        exact ⟨rfl, (below_drewN (Below.refl _ _) _).trans (b5.mono (by simp))⟩

set_option maxRecDepth 100000 in
theorem PartitionFiner_lifted (os : Os) (started : os.Started) (H : Type) (enc : TypeId × Value → H) :
    ReturnsInHanded {} Try.checked os 6 .any (Rows.partitionFinerSpec.pre6 enc Try.prog Try.f6 Rows.partitionFinerRow.domain false) (Rows.partitionFinerSpec.post enc Try.prog Try.f6 false true false false) := by
  refine returnsInHanded_of_change (C := Try.checked) own started (by kernel_rfl) Try.func6
    (ChangeSpec.witness6 (enc := enc) (C := Try.checked) false ⟨#[], #[.slice none 0 0, .slice none 0 0], []⟩ 8 (by kernel_rfl) (by kernel_rfl) (by kernel_rfl) (by kernel_rfl)) ?_
  intro W base args ds gs before hval0 hW hcnd _
  have hval : ∀ (j : Nat) t v, Try.f6.params[j]? = some t → args[j]? = some v → Value.okWide Try.prog W .any base t v := hval0
  have hW' := hW
  obtain ⟨p, q, hA0, hV, rfl, hfz, hnd⟩ := hW
  have hA : DataW.TrodAll enc Try.prog W 0 (fun _ => true) true Try.f6.params.toList args.toList ds p := hA0
  rw [Try.params6] at hA hval
  obtain ⟨v0, vs0, d0, ds0, p0, q0, hargs, rfl, rfl, h0, r0⟩ := trodAll_cons hA
  obtain ⟨v1, vs1, d1, ds1, p1, q1, rfl, rfl, rfl, h1, r1⟩ := trodAll_cons r0
  obtain ⟨rfl, rfl, rfl⟩ := trodAll_nil r1
  obtain rfl : args = #[v0, v1] := by cases args; simp_all
  obtain ⟨rfl, rfl⟩ := trodVars_none hV
  obtain ⟨a0, len0, cap0, rfl⟩ := okWide_slice Try.underlying24 (hval 0 24 v0 rfl rfl)
  have k0 := h0
  have lt0 : ∀ x ∈ p0, x.block < W.heap.size := by obtain ⟨m, hm⟩ := k0; exact DataW.trod_lt m _ _ _ hm
  obtain ⟨l0, hl0, hI0, b0⟩ := ints_of_trod Try.underlying24 Try.underlying3 (by kernel_rfl) h0
  obtain ⟨a1, len1, cap1, rfl⟩ := okWide_slice Try.underlying24 (hval 1 24 v1 rfl rfl)
  have k1 := h1
  have lt1 : ∀ x ∈ p1, x.block < W.heap.size := by obtain ⟨m, hm⟩ := k1; exact DataW.trod_lt m _ _ _ hm
  obtain ⟨l1, hl1, hI1, b1⟩ := ints_of_trod Try.underlying24 Try.underlying3 (by kernel_rfl) h1
  clear hA0 hval0
  refine (PartitionFiner_walk _ l0 _ l1 W hI0 b0 hI1 b1).mono fun e W' ⟨he, bel⟩ => ?_
  subst he
  exact ⟨_, rfl, _, _, _, [], _, [], hW', trodAll_mk1 (shut_bool Try.underlying4 _), (trodAll_cons_mk (Below.trod laidOut (by kernel_rfl) (of_decide_eq_true (by kernel_rfl)) k0 bel lt0) (trodAll_cons_mk (Below.trod laidOut (by kernel_rfl) (of_decide_eq_true (by kernel_rfl)) k1 bel lt1) trodAll_mk0)), rfl, bel.frame _, fun h => by cases h⟩

/-- The given statement. -/
theorem PartitionFiner_holds : Rows.PartitionFinerSaid :=
  OpenClaim.holds_of_wide 6 Try.f6 rfl rfl rfl rfl rfl rfl rfl ⟨rfl, rfl, rfl, rfl, rfl⟩ rfl rfl rfl rfl rfl (by kernel_rfl) Try.func6 (by kernel_rfl)
    (of_decide_eq_true (by kernel_rfl)) (by unfold Func.isWrapper; first | (rw [if_pos (by decide +kernel)]; kernel_rfl) | (rw [if_neg (by decide +kernel)]; exact ⟨rfl, rfl⟩))
    (fun os started H enc _ => PartitionFiner_lifted os started H enc)

end Go.Proofs.Ytmgeadhiohlblaa
