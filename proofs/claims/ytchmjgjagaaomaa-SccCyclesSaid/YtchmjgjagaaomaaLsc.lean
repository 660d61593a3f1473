/- SccCycles: for any graph, it is acyclic exactly if every component has one node and no node has an edge to itself. -/
import Derived.Test.YtchmjgjagaaomaaSck
namespace Go.Proofs.Ytchmjgjagaaomaa
open Go.ChangeShapes Go.WideShapes Go.ChangeAt Go.RowKit Go.Dfl Go.Gra Go.Tj
set_option maxHeartbeats 3200000 in
set_option maxRecDepth 100000 in
theorem SccCycles_walk (g : G) (cv : Value) (W : World) (h : Pairs W cv g.es) : Calls Try.prog 4 #[GV g cv] W (TruePost W) := by
  obtain ⟨ca, cc, rfl, -, hci, hcc⟩ := pairs_rd h
  have hal := (Below.refl W.heap.size W).alloc (Nat.le_refl _) (.cells #[.int .i64 g.n, .slice ca g.es.length cc] 24)
  have H0 := Lib.hid (And.intro (GB.new h 24) hal)
  have HCC := Lib.hid hcc
  clear h hal hcc
  obtain ⟨c0, c1⟩ := H0.out.1.box
  unfold GV
  go_enter Try.func4, Try.ntmps4
  by_cases h4 : g.es.length ≤ 400
  · have w0 : decide ((400 : Int) < (g.es.length : Int)) = false := decide_eq_false (by omega)
    by_cases h5 : g.n ≤ 400
    · have w1 : decide ((400 : Int) < g.n) = false := decide_eq_false (by omega)
      clear h5
      go_wp2_with fail
      have hc := gComps_any g (.slice ca g.es.length cc) _ H0.out.1.es
      unfold GV at hc
      refine hc.mono ?_
      rintro e W2 ⟨ls, of, v, vs, rfl, hcm, hG, b2⟩
      obtain ⟨la, lc, rfl, -, -, -⟩ := rows_rd hG
      have H2 := Lib.hid (And.intro (H0.out.1.below b2) (bel_trans H0.out.2 b2))
      have HPA : Hid ((Acy g → (ls.length : Int) = g.n) ∧ ((gCode g = 0 ∧ (ls.length : Int) = g.n) → (∀ j, j < g.es.length → (nth g.es j).1 ≠ (nth g.es j).2) → Acy g)) := Lib.hid ⟨fun hA => by
          obtain ⟨k1, -, ls2, of2, k2, k3⟩ := hA
          rw [(hcm.unique (.inr ⟨k1, k2⟩)).1]; exact k3, fun hx hy => ⟨hx.1, fun e he => by
          obtain ⟨j, hj, rfl⟩ := mem_nth he
          exact hy j hj, ls, of, by
          rcases hcm with h9 | h9
          · exact absurd hx.1 h9.1
          · exact h9.2, hx.2⟩⟩
      clear hc hcm hG b2 c0 c1 w0 w1
      obtain ⟨c0, c1⟩ := H2.out.1.box
      by_cases hg : gCode g = 0
      · have q0 : (gCode g == 0) = true := by simpa using hg
        by_cases hl : (ls.length : Int) = g.n
        · have q1 : ((ls.length : Int) == g.n) = true := by simpa using hl
          have HQ : Hid (((true : Bool) = true) = (gCode g = 0 ∧ (ls.length : Int) = g.n)) := Lib.hid (by simp [hg, hl])
          clear hg hl
          go_wp2_with fail
          clear q0
          go_loopw [5, 6] (fun y x wr => ∃ (i : Nat) (b : Bool), i ≤ g.es.length ∧ x = .int .i64 (i : Int) ∧ y = .bool b ∧ Hid (Below W2.heap.size W2 wr ∧ (b = true ↔ ((gCode g = 0 ∧ (ls.length : Int) = g.n) ∧ ∀ j, j < i → (nth g.es j).1 ≠ (nth g.es j).2)))) (fun _ x _ => g.es.length - (intOf x).toNat)
          case atStart => exact ⟨0, true, by omega, rfl, rfl, Below.refl _ _, by rw [← HQ.out]; simp⟩
          case round =>
            obtain ⟨i, b, hi, rfl, rfl, hh⟩ := hrel
            have HL := Lib.hid hh.out
            clear hh c0 c1
            obtain ⟨c0, c1⟩ := (H2.out.1.below HL.out.1).box
            by_cases hil : i < g.es.length
            · have hili : (i : Int) < (g.es.length : Int) := by omega
              cases b
              · have HA : Hid (false = true ↔ Acy g) := Lib.hid ⟨fun h => by simp at h, fun h => HL.out.2.2 ⟨⟨h.1, HPA.out.1 h⟩, fun j hj => h.2.1 _ (nth_mem _ _ (by omega))⟩⟩
                clear hil
                go_wp2_with fail
                obtain ⟨c0, c1⟩ := (H2.out.1.below HL.out.1).box
                have ha := gAcyclic_any g (.slice ca g.es.length cc) _ (H2.out.1.below HL.out.1).es
                unfold GV at ha
                go_wp2_with fail
                refine ha.mono ?_
                rintro e W3 ⟨b', rfl, hb', b3⟩
                obtain rfl : b' = false := by rw [Bool.eq_iff_iff, hb']; first | exact HA.out.symm | exact ⟨fun _ => rfl, fun _ => HA.out.1 trivial⟩
                have H3 := Lib.hid (bel_trans (bel_trans H2.out.2 HL.out.1) b3)
                clear ha hb' b3 c0 c1
                go_wp2_with fail
                refine (awake_any _).mono ?_
                rintro e Z ⟨rfl, b⟩
                have HB := Lib.hid (bel_trans H3.out b)
                go_wp2_with fail
                go_ret
                exact ⟨rfl, HB.out⟩
              · obtain ⟨p0, p1⟩ := (HCC.out i hil).2 wr (bel_trans H2.out.2 HL.out.1)
                have j1 := hci (i : Int) (by omega) (by omega)
                rw [Int.toNat_natCast] at j1
                obtain ⟨e, he⟩ : ∃ e, e = nth g.es i := ⟨_, rfl⟩
                rw [← he] at p0 p1
                obtain ⟨e1, e2⟩ := e
                dsimp only at p0 p1
                obtain ⟨b2, hb2⟩ : ∃ b2, (e1 != e2) = b2 := ⟨_, rfl⟩
                have HB : Hid (∀ m, Below W2.heap.size W2 (wr.drewN m) ∧ (b2 = true ↔ ((gCode g = 0 ∧ (ls.length : Int) = g.n) ∧ ∀ j, j < i + 1 → (nth g.es j).1 ≠ (nth g.es j).2))) := Lib.hid (fun m => ⟨below_drewN HL.out.1 m, by
                  rw [← hb2, bne_iff_ne]
                  obtain ⟨k1, k2⟩ := HL.out.2.1 rfl
                  constructor
                  · exact fun h => ⟨k1, fun j hj => by
                      by_cases ej : j = i
                      · subst ej; rw [← he]; exact h
                      · exact k2 j (by omega)⟩
                  · intro h; have := h.2 i (by omega); rw [← he] at this; exact this⟩)
                clear he hil
                go_upto_region 8 with fail
                go_quiet (fail)
                go_wp2_with fail
                go_roundw
                case rel => exact ⟨i + 1, b2, by omega, by go_num, rfl, HB.out _⟩
                case measure => simp [intOf]; omega
            · obtain rfl : i = g.es.length := by omega
              have HA : Hid (b = true ↔ Acy g) := Lib.hid ⟨fun h => HPA.out.2 (HL.out.2.1 h).1 (HL.out.2.1 h).2, fun h => HL.out.2.2 ⟨⟨h.1, HPA.out.1 h⟩, fun j hj => h.2.1 _ (nth_mem _ _ hj)⟩⟩
              clear hil
              cases b
              · go_wp2_with fail
                obtain ⟨c0, c1⟩ := (H2.out.1.below HL.out.1).box
                have ha := gAcyclic_any g (.slice ca g.es.length cc) _ (H2.out.1.below HL.out.1).es
                unfold GV at ha
                go_wp2_with fail
                refine ha.mono ?_
                rintro e W3 ⟨b', rfl, hb', b3⟩
                obtain rfl : b' = false := by rw [Bool.eq_iff_iff, hb']; first | exact HA.out.symm | exact ⟨fun _ => rfl, fun _ => HA.out.1 trivial⟩
                have H3 := Lib.hid (bel_trans (bel_trans H2.out.2 HL.out.1) b3)
                clear ha hb' b3 c0 c1
                go_wp2_with fail
                refine (awake_any _).mono ?_
                rintro e Z ⟨rfl, b⟩
                have HB := Lib.hid (bel_trans H3.out b)
                go_wp2_with fail
                go_ret
                exact ⟨rfl, HB.out⟩
              · go_wp2_with fail
                obtain ⟨c0, c1⟩ := (H2.out.1.below HL.out.1).box
                have ha := gAcyclic_any g (.slice ca g.es.length cc) _ (H2.out.1.below HL.out.1).es
                unfold GV at ha
                go_wp2_with fail
                refine ha.mono ?_
                rintro e W3 ⟨b', rfl, hb', b3⟩
                obtain rfl : b' = true := by rw [Bool.eq_iff_iff, hb']; first | exact HA.out.symm | exact ⟨fun _ => rfl, fun _ => HA.out.1 trivial⟩
                have H3 := Lib.hid (bel_trans (bel_trans H2.out.2 HL.out.1) b3)
                clear ha hb' b3 c0 c1
                go_wp2_with fail
                refine (awake_any _).mono ?_
                rintro e Z ⟨rfl, b⟩
                have HB := Lib.hid (bel_trans H3.out b)
                go_wp2_with fail
                go_ret
                exact ⟨rfl, HB.out⟩
        · have q1 : ((ls.length : Int) == g.n) = false := by simpa using hl
          have HQ : Hid (((false : Bool) = true) = (gCode g = 0 ∧ (ls.length : Int) = g.n)) := Lib.hid (by simp [hl])
          clear hg hl
          go_wp2_with fail
          clear q0
          go_loopw [5, 6] (fun y x wr => ∃ (i : Nat) (b : Bool), i ≤ g.es.length ∧ x = .int .i64 (i : Int) ∧ y = .bool b ∧ Hid (Below W2.heap.size W2 wr ∧ (b = true ↔ ((gCode g = 0 ∧ (ls.length : Int) = g.n) ∧ ∀ j, j < i → (nth g.es j).1 ≠ (nth g.es j).2)))) (fun _ x _ => g.es.length - (intOf x).toNat)
          case atStart => exact ⟨0, false, by omega, rfl, rfl, Below.refl _ _, by rw [← HQ.out]; simp⟩
          case round =>
            obtain ⟨i, b, hi, rfl, rfl, hh⟩ := hrel
            have HL := Lib.hid hh.out
            clear hh c0 c1
            obtain ⟨c0, c1⟩ := (H2.out.1.below HL.out.1).box
            by_cases hil : i < g.es.length
            · have hili : (i : Int) < (g.es.length : Int) := by omega
              cases b
              · have HA : Hid (false = true ↔ Acy g) := Lib.hid ⟨fun h => by simp at h, fun h => HL.out.2.2 ⟨⟨h.1, HPA.out.1 h⟩, fun j hj => h.2.1 _ (nth_mem _ _ (by omega))⟩⟩
                clear hil
                go_wp2_with fail
                obtain ⟨c0, c1⟩ := (H2.out.1.below HL.out.1).box
                have ha := gAcyclic_any g (.slice ca g.es.length cc) _ (H2.out.1.below HL.out.1).es
                unfold GV at ha
                go_wp2_with fail
                refine ha.mono ?_
                rintro e W3 ⟨b', rfl, hb', b3⟩
                obtain rfl : b' = false := by rw [Bool.eq_iff_iff, hb']; first | exact HA.out.symm | exact ⟨fun _ => rfl, fun _ => HA.out.1 trivial⟩
                have H3 := Lib.hid (bel_trans (bel_trans H2.out.2 HL.out.1) b3)
                clear ha hb' b3 c0 c1
                go_wp2_with fail
                refine (awake_any _).mono ?_
                rintro e Z ⟨rfl, b⟩
                have HB := Lib.hid (bel_trans H3.out b)
                go_wp2_with fail
                go_ret
                exact ⟨rfl, HB.out⟩
              · obtain ⟨p0, p1⟩ := (HCC.out i hil).2 wr (bel_trans H2.out.2 HL.out.1)
                have j1 := hci (i : Int) (by omega) (by omega)
                rw [Int.toNat_natCast] at j1
                obtain ⟨e, he⟩ : ∃ e, e = nth g.es i := ⟨_, rfl⟩
                rw [← he] at p0 p1
                obtain ⟨e1, e2⟩ := e
                dsimp only at p0 p1
                obtain ⟨b2, hb2⟩ : ∃ b2, (e1 != e2) = b2 := ⟨_, rfl⟩
                have HB : Hid (∀ m, Below W2.heap.size W2 (wr.drewN m) ∧ (b2 = true ↔ ((gCode g = 0 ∧ (ls.length : Int) = g.n) ∧ ∀ j, j < i + 1 → (nth g.es j).1 ≠ (nth g.es j).2))) := Lib.hid (fun m => ⟨below_drewN HL.out.1 m, by
                  rw [← hb2, bne_iff_ne]
                  obtain ⟨k1, k2⟩ := HL.out.2.1 rfl
                  constructor
                  · exact fun h => ⟨k1, fun j hj => by
                      by_cases ej : j = i
                      · subst ej; rw [← he]; exact h
                      · exact k2 j (by omega)⟩
                  · intro h; have := h.2 i (by omega); rw [← he] at this; exact this⟩)
                clear he hil
                go_upto_region 8 with fail
                go_quiet (fail)
                go_wp2_with fail
                go_roundw
                case rel => exact ⟨i + 1, b2, by omega, by go_num, rfl, HB.out _⟩
                case measure => simp [intOf]; omega
            · obtain rfl : i = g.es.length := by omega
              have HA : Hid (b = true ↔ Acy g) := Lib.hid ⟨fun h => HPA.out.2 (HL.out.2.1 h).1 (HL.out.2.1 h).2, fun h => HL.out.2.2 ⟨⟨h.1, HPA.out.1 h⟩, fun j hj => h.2.1 _ (nth_mem _ _ hj)⟩⟩
              clear hil
              cases b
              · go_wp2_with fail
                obtain ⟨c0, c1⟩ := (H2.out.1.below HL.out.1).box
                have ha := gAcyclic_any g (.slice ca g.es.length cc) _ (H2.out.1.below HL.out.1).es
                unfold GV at ha
                go_wp2_with fail
                refine ha.mono ?_
                rintro e W3 ⟨b', rfl, hb', b3⟩
                obtain rfl : b' = false := by rw [Bool.eq_iff_iff, hb']; first | exact HA.out.symm | exact ⟨fun _ => rfl, fun _ => HA.out.1 trivial⟩
                have H3 := Lib.hid (bel_trans (bel_trans H2.out.2 HL.out.1) b3)
                clear ha hb' b3 c0 c1
                go_wp2_with fail
                refine (awake_any _).mono ?_
                rintro e Z ⟨rfl, b⟩
                have HB := Lib.hid (bel_trans H3.out b)
                go_wp2_with fail
                go_ret
                exact ⟨rfl, HB.out⟩
              · go_wp2_with fail
                obtain ⟨c0, c1⟩ := (H2.out.1.below HL.out.1).box
                have ha := gAcyclic_any g (.slice ca g.es.length cc) _ (H2.out.1.below HL.out.1).es
                unfold GV at ha
                go_wp2_with fail
                refine ha.mono ?_
                rintro e W3 ⟨b', rfl, hb', b3⟩
                obtain rfl : b' = true := by rw [Bool.eq_iff_iff, hb']; first | exact HA.out.symm | exact ⟨fun _ => rfl, fun _ => HA.out.1 trivial⟩
                have H3 := Lib.hid (bel_trans (bel_trans H2.out.2 HL.out.1) b3)
                clear ha hb' b3 c0 c1
                go_wp2_with fail
                refine (awake_any _).mono ?_
                rintro e Z ⟨rfl, b⟩
                have HB := Lib.hid (bel_trans H3.out b)
                go_wp2_with fail
                go_ret
                exact ⟨rfl, HB.out⟩
      · have q0 : (gCode g == 0) = false := by simpa using hg
        have HQ : Hid (((false : Bool) = true) = (gCode g = 0 ∧ (ls.length : Int) = g.n)) := Lib.hid (by simp [hg])
        clear hg
        go_wp2_with fail
        clear q0
        go_loopw [5, 6] (fun y x wr => ∃ (i : Nat) (b : Bool), i ≤ g.es.length ∧ x = .int .i64 (i : Int) ∧ y = .bool b ∧ Hid (Below W2.heap.size W2 wr ∧ (b = true ↔ ((gCode g = 0 ∧ (ls.length : Int) = g.n) ∧ ∀ j, j < i → (nth g.es j).1 ≠ (nth g.es j).2)))) (fun _ x _ => g.es.length - (intOf x).toNat)
        case atStart => exact ⟨0, false, by omega, rfl, rfl, Below.refl _ _, by rw [← HQ.out]; simp⟩
        case round =>
          obtain ⟨i, b, hi, rfl, rfl, hh⟩ := hrel
          have HL := Lib.hid hh.out
          clear hh c0 c1
          obtain ⟨c0, c1⟩ := (H2.out.1.below HL.out.1).box
          by_cases hil : i < g.es.length
          · have hili : (i : Int) < (g.es.length : Int) := by omega
            cases b
            · have HA : Hid (false = true ↔ Acy g) := Lib.hid ⟨fun h => by simp at h, fun h => HL.out.2.2 ⟨⟨h.1, HPA.out.1 h⟩, fun j hj => h.2.1 _ (nth_mem _ _ (by omega))⟩⟩
              clear hil
              go_wp2_with fail
              obtain ⟨c0, c1⟩ := (H2.out.1.below HL.out.1).box
              have ha := gAcyclic_any g (.slice ca g.es.length cc) _ (H2.out.1.below HL.out.1).es
              unfold GV at ha
              go_wp2_with fail
              refine ha.mono ?_
              rintro e W3 ⟨b', rfl, hb', b3⟩
              obtain rfl : b' = false := by rw [Bool.eq_iff_iff, hb']; first | exact HA.out.symm | exact ⟨fun _ => rfl, fun _ => HA.out.1 trivial⟩
              have H3 := Lib.hid (bel_trans (bel_trans H2.out.2 HL.out.1) b3)
              clear ha hb' b3 c0 c1
              go_wp2_with fail
              refine (awake_any _).mono ?_
              rintro e Z ⟨rfl, b⟩
              have HB := Lib.hid (bel_trans H3.out b)
              go_wp2_with fail
              go_ret
              exact ⟨rfl, HB.out⟩
            · obtain ⟨p0, p1⟩ := (HCC.out i hil).2 wr (bel_trans H2.out.2 HL.out.1)
              have j1 := hci (i : Int) (by omega) (by omega)
              rw [Int.toNat_natCast] at j1
              obtain ⟨e, he⟩ : ∃ e, e = nth g.es i := ⟨_, rfl⟩
              rw [← he] at p0 p1
              obtain ⟨e1, e2⟩ := e
              dsimp only at p0 p1
              obtain ⟨b2, hb2⟩ : ∃ b2, (e1 != e2) = b2 := ⟨_, rfl⟩
              have HB : Hid (∀ m, Below W2.heap.size W2 (wr.drewN m) ∧ (b2 = true ↔ ((gCode g = 0 ∧ (ls.length : Int) = g.n) ∧ ∀ j, j < i + 1 → (nth g.es j).1 ≠ (nth g.es j).2))) := Lib.hid (fun m => ⟨below_drewN HL.out.1 m, by
                rw [← hb2, bne_iff_ne]
                obtain ⟨k1, k2⟩ := HL.out.2.1 rfl
                constructor
                · exact fun h => ⟨k1, fun j hj => by
                    by_cases ej : j = i
                    · subst ej; rw [← he]; exact h
                    · exact k2 j (by omega)⟩
                · intro h; have := h.2 i (by omega); rw [← he] at this; exact this⟩)
              clear he hil
              go_upto_region 8 with fail
              go_quiet (fail)
              go_wp2_with fail
              go_roundw
              case rel => exact ⟨i + 1, b2, by omega, by go_num, rfl, HB.out _⟩
              case measure => simp [intOf]; omega
          · obtain rfl : i = g.es.length := by omega
            have HA : Hid (b = true ↔ Acy g) := Lib.hid ⟨fun h => HPA.out.2 (HL.out.2.1 h).1 (HL.out.2.1 h).2, fun h => HL.out.2.2 ⟨⟨h.1, HPA.out.1 h⟩, fun j hj => h.2.1 _ (nth_mem _ _ hj)⟩⟩
            clear hil
            cases b
            · go_wp2_with fail
              obtain ⟨c0, c1⟩ := (H2.out.1.below HL.out.1).box
              have ha := gAcyclic_any g (.slice ca g.es.length cc) _ (H2.out.1.below HL.out.1).es
              unfold GV at ha
              go_wp2_with fail
              refine ha.mono ?_
              rintro e W3 ⟨b', rfl, hb', b3⟩
              obtain rfl : b' = false := by rw [Bool.eq_iff_iff, hb']; first | exact HA.out.symm | exact ⟨fun _ => rfl, fun _ => HA.out.1 trivial⟩
              have H3 := Lib.hid (bel_trans (bel_trans H2.out.2 HL.out.1) b3)
              clear ha hb' b3 c0 c1
              go_wp2_with fail
              refine (awake_any _).mono ?_
              rintro e Z ⟨rfl, b⟩
              have HB := Lib.hid (bel_trans H3.out b)
              go_wp2_with fail
              go_ret
              exact ⟨rfl, HB.out⟩
            · go_wp2_with fail
              obtain ⟨c0, c1⟩ := (H2.out.1.below HL.out.1).box
              have ha := gAcyclic_any g (.slice ca g.es.length cc) _ (H2.out.1.below HL.out.1).es
              unfold GV at ha
              go_wp2_with fail
              refine ha.mono ?_
              rintro e W3 ⟨b', rfl, hb', b3⟩
              obtain rfl : b' = true := by rw [Bool.eq_iff_iff, hb']; first | exact HA.out.symm | exact ⟨fun _ => rfl, fun _ => HA.out.1 trivial⟩
              have H3 := Lib.hid (bel_trans (bel_trans H2.out.2 HL.out.1) b3)
              clear ha hb' b3 c0 c1
              go_wp2_with fail
              refine (awake_any _).mono ?_
              rintro e Z ⟨rfl, b⟩
              have HB := Lib.hid (bel_trans H3.out b)
              go_wp2_with fail
              go_ret
              exact ⟨rfl, HB.out⟩
    · have w1 : decide ((400 : Int) < g.n) = true := decide_eq_true (by omega)
      clear h4 h5
      go_wp2_with fail
      refine (awake_any _).mono ?_
      rintro e Z ⟨rfl, b⟩
      have HB := Lib.hid (bel_trans H0.out.2 b)
      go_wp2_with fail
      go_ret
      exact ⟨rfl, HB.out⟩
  · have w0 : decide ((400 : Int) < (g.es.length : Int)) = true := decide_eq_true (by omega)
    clear h4
    go_wp2_with fail
    refine (awake_any _).mono ?_
    rintro e Z ⟨rfl, b⟩
    have HB := Lib.hid (bel_trans H0.out.2 b)
    go_wp2_with fail
    go_ret
    exact ⟨rfl, HB.out⟩
set_option maxRecDepth 100000 in
theorem SccCycles_lifted (os : Os) (started : os.Started) (H : Type) (enc : TypeId × Value → H) :
    ReturnsInHanded {} Try.checked os 4 .any (Rows.sccCyclesSpec.pre6 enc Try.prog Try.f4 Rows.sccCyclesRow.domain false) (Rows.sccCyclesSpec.post enc Try.prog Try.f4 false true false false) := by
  refine returnsInHanded_of_change (C := Try.checked) own started (by kernel_rfl) Try.func4
    (ChangeSpec.witness6 (enc := enc) (C := Try.checked) false ⟨#[], #[.agg #[.int .i64 0, .slice none 0 0]], []⟩ 8 (by kernel_rfl) (by kernel_rfl) (by kernel_rfl) (by kernel_rfl)) ?_
  intro W base args ds gs before hval0 hW hcnd _
  have hval : ∀ (j : Nat) t v, Try.f4.params[j]? = some t → args[j]? = some v → Value.okWide Try.prog W .any base t v := hval0
  have hW' := hW
  obtain ⟨p, q, hA0, hV, rfl, hfz, hnd⟩ := hW
  have hA : DataW.TrodAll enc Try.prog W 0 (fun _ => true) true Try.f4.params.toList args.toList ds p := hA0
  rw [Try.params4] at hA hval
  obtain ⟨v0, vs0, d0, ds0, p0, q0, hargs, rfl, rfl, h0, r0⟩ := trodAll_cons hA
  obtain ⟨rfl, rfl, rfl⟩ := trodAll_nil r0
  obtain rfl : args = #[v0] := by cases args; simp_all
  obtain ⟨rfl, rfl⟩ := trodVars_none hV
  obtain ⟨c0, rfl, sz0⟩ := okWide_struct Try.underlying24 (hval 0 24 v0 rfl rfl)
  have k0 := h0
  obtain ⟨g0, cv0, eq0, hC0⟩ := graph_of_trod sz0 h0
  obtain rfl : c0 = #[.int .i64 g0.n, cv0] := by simpa [GV] using eq0
  have lt0 : ∀ x ∈ p0, x.block < W.heap.size := by obtain ⟨m, hm⟩ := k0; exact DataW.trod_lt m _ _ _ hm
  clear hA0 hval0
  refine (SccCycles_walk g0 cv0 W hC0).mono fun e W' ⟨he, bel⟩ => ?_
  subst he
  exact ⟨_, rfl, _, _, _, [], _, [], hW', trodAll_mk1 (shut_bool Try.underlying4 _), (trodAll_cons_mk (Below.trod laidOut (by kernel_rfl) (of_decide_eq_true (by kernel_rfl)) k0 bel lt0) trodAll_mk0), rfl, bel.frame _, fun h => by cases h⟩

/-- The given statement. -/
theorem SccCycles_holds : Rows.SccCyclesSaid :=
  OpenClaim.holds_of_wide 4 Try.f4 rfl rfl rfl rfl rfl rfl rfl ⟨rfl, rfl, rfl, rfl, rfl⟩ rfl rfl rfl rfl rfl (by kernel_rfl) Try.func4 (by kernel_rfl)
    (of_decide_eq_true (by kernel_rfl)) (by unfold Func.isWrapper; first | (rw [if_pos (by decide +kernel)]; kernel_rfl) | (rw [if_neg (by decide +kernel)]; exact ⟨rfl, rfl⟩))
    (fun os started H enc _ => SccCycles_lifted os started H enc)

end Go.Proofs.Ytchmjgjagaaomaa
