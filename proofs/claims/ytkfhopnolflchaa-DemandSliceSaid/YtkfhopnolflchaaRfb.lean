/- Contract of the reference's con. -/
import Derived.Test.YtkfhopnolflchaaRfa
import Derived.Test.YtkfhopnolflchaaAwk
namespace Go.And
open Go.Dfl (nth nth_mem mem_nth nth_eq)
theorem amB_t {x n : Int} (h : amB x n = true) : 0 ≤ x ∧ x < n := by simpa [amB] using h
theorem amB_f {x n : Int} (h : amB x n = false) : x < 0 ∨ n ≤ x := by
  have h1 : ¬ (0 ≤ x ∧ x < n) := fun h2 => by simp [amB, h2.1, h2.2] at h
  omega
theorem con4 {s : Sy} {c : R} (h0 : 1 ≤ c.k ∧ c.k ≤ 5) (h : (c.a < 0 ∨ mostOf s c ≤ c.a ∨ c.b < 0 ∨ s.vars ≤ c.b) ∨ ((c.k = 3 ∨ c.k = 4) ∧ (c.f < 0 ∨ s.fields ≤ c.f)) ∨ subB c.s s.sites = false) : conCode s c = 4 := by
  unfold conCode
  rw [if_neg (by omega)]
  by_cases e : c.a < 0 ∨ mostOf s c ≤ c.a ∨ c.b < 0 ∨ s.vars ≤ c.b
  · rw [if_pos e]
  · rw [if_neg e, if_pos (h.resolve_left e)]
theorem conRest {s : Sy} {c : R} (h0 : 1 ≤ c.k ∧ c.k ≤ 5) (h1 : ¬ (c.a < 0 ∨ mostOf s c ≤ c.a ∨ c.b < 0 ∨ s.vars ≤ c.b)) (h2 : (c.k = 3 ∨ c.k = 4) → ¬ (c.f < 0 ∨ s.fields ≤ c.f)) (h3 : subB c.s s.sites = true) :
    conCode s c = if (c.k ≠ 3 ∧ c.k ≠ 4 ∧ c.f ≠ 0) ∨ (c.k ≠ 5 ∧ 0 < c.s.length) then 1 else if ascB c.s = false then 13 else 0 := by
  unfold conCode
  rw [if_neg (by omega), if_neg h1, if_neg]
  rintro (⟨h4, h5⟩ | h4)
  · exact h2 h4 h5
  · rw [h3] at h4; cases h4
end Go.And
namespace Go.Proofs.Ytkfhopnolflchaa
open Go.RowKit Go.Dfl Go.And

/-- What con reads. -/
structure ConR (W : World) (b0 b1 : Nat) (vars sites fields k a b f : Int) (sa : Option Addr) (sc : Nat) (cs : List Int) (Z : World) : Prop where
  s0 : Z.cell? ⟨b0, 0, none⟩ = some (.int .i64 vars)
  s1 : Z.cell? ⟨b0, 1, none⟩ = some (.int .i64 sites)
  s2 : Z.cell? ⟨b0, 2, none⟩ = some (.int .i64 fields)
  c0 : Z.cell? ⟨b1, 0, none⟩ = some (.int .i64 k)
  c1 : Z.cell? ⟨b1, 1, none⟩ = some (.int .i64 a)
  c2 : Z.cell? ⟨b1, 2, none⟩ = some (.int .i64 b)
  c3 : Z.cell? ⟨b1, 3, none⟩ = some (.int .i64 f)
  c4 : Z.cell? ⟨b1, 4, none⟩ = some (.slice sa cs.length sc)
  set : Ints Z (.slice sa cs.length sc) cs
  bel : Below W.heap.size W Z

theorem ConR.new (W : World) (cv : Value) (vars sites fields k a b f : Int) (sa : Option Addr) (sc : Nat) (cs : List Int) (h : Ints W (.slice sa cs.length sc) cs) :
    ConR W W.heap.size (W.heap.size + 1) vars sites fields k a b f sa sc cs ((W.alloc (.cells #[.int .i64 vars, .int .i64 sites, .int .i64 fields, cv] 24)).alloc (.cells #[.int .i64 k, .int .i64 a, .int .i64 b, .int .i64 f, .slice sa cs.length sc] 37)) := by
  have h1 := cells_new (W := W) (cs := [.int .i64 vars, .int .i64 sites, .int .i64 fields, cv]) (t := 24) rfl
  have h2 := cells_new (W := W.alloc (.cells #[.int .i64 vars, .int .i64 sites, .int .i64 fields, cv] 24)) (cs := [.int .i64 k, .int .i64 a, .int .i64 b, .int .i64 f, .slice sa cs.length sc]) (t := 37) rfl
  rw [World.size_alloc] at h2
  have g := grownBy_alloc (W.alloc (.cells #[.int .i64 vars, .int .i64 sites, .int .i64 fields, cv] 24)) (.cells #[.int .i64 k, .int .i64 a, .int .i64 b, .int .i64 f, .slice sa cs.length sc] 37)
  have hb : Below W.heap.size W _ := ((Below.refl W.heap.size W).alloc (Nat.le_refl _) (.cells #[.int .i64 vars, .int .i64 sites, .int .i64 fields, cv] 24)).alloc (by simp) (.cells #[.int .i64 k, .int .i64 a, .int .i64 b, .int .i64 f, .slice sa cs.length sc] 37)
  exact ⟨g.cell (h1 0 _ rfl) (by simp), g.cell (h1 1 _ rfl) (by simp), g.cell (h1 2 _ rfl) (by simp), h2 0 _ rfl, h2 1 _ rfl, h2 2 _ rfl, h2 3 _ rfl, h2 4 _ rfl, h.below hb, hb⟩

set_option maxHeartbeats 6400000 in
theorem rCon_any (s : Sy) (cv : Value) (c : R) (sv : Value) (W : World) (hset : Ints W sv c.s) :
    Calls Try.prog 49 #[SysV s cv, .agg #[.int .i64 c.k, .int .i64 c.a, .int .i64 c.b, .int .i64 c.f, sv]] W fun e W' => e = .returned (.int .i64 (conCode s c)) ∧ Below W.heap.size W W' := by
  obtain ⟨sa, sc, rfl, hm, hidx, hcell, hblk⟩ := hset.out1 sInt
  have HS := Lib.hid hset
  clear hset hcell hblk
  unfold SysV
  obtain ⟨vars, sites, fields, cons⟩ := s
  obtain ⟨k, a, b, f, cs⟩ := c
  dsimp only at *
  have hbel2 : ∀ n, Below W.heap.size W (((W.alloc (.cells #[.int .i64 vars, .int .i64 sites, .int .i64 fields, cv] 24)).alloc (.cells #[.int .i64 k, .int .i64 a, .int .i64 b, .int .i64 f, .slice sa cs.length sc] 37)).drewN n) := fun n => below_drewN (((Below.refl W.heap.size W).alloc (Nat.le_refl _) _).alloc (by simp) _) n
  by_cases h1 : k < 1
  · go_enter Try.func49, Try.ntmps49
    go_wp2_with fail
    go_ret
    exact ⟨ret_int (by unfold conCode; dsimp only; rw [if_pos (by omega)]), hbel2 0⟩
  by_cases h2 : 5 < k
  · go_enter Try.func49, Try.ntmps49
    go_wp2_with fail
    go_ret
    exact ⟨ret_int (by unfold conCode; dsimp only; rw [if_pos (by omega)]), hbel2 0⟩
  have hk : k = 1 ∨ k = 2 ∨ k = 3 ∨ k = 4 ∨ k = 5 := by omega
  clear h1 h2 hbel2
  rcases hk with rfl | rfl | rfl | rfl | rfl
  · go_enter Try.func49, Try.ntmps49
    go_wp2_with fail
    refine calls_gen (fun Z => ConR W W.heap.size (W.heap.size + 1) vars sites fields 1 a b f sa sc cs Z) (ConR.new W cv _ _ _ _ _ _ _ _ _ _ HS.out) ?_
    rintro Z hz
    obtain ⟨b1, hb1⟩ : ∃ b1, b1 = W.heap.size + 1 := ⟨_, rfl⟩
    obtain ⟨b0, hb0⟩ : ∃ b0, b0 = W.heap.size := ⟨_, rfl⟩
    have HZ : Hid (ConR W b0 b1 vars sites fields 1 a b f sa sc cs Z) := by rw [hb0, hb1]; exact hz
    rw [← hb1, ← hb0]
    clear hz hb1 hb0 HS
    obtain ⟨s0, s1, s2, c0, c1, c2, c3, c4, -, -⟩ := HZ.out
    refine (rAmong_any a sites Z).mono ?_
    rintro e W1 ⟨rfl, n1, rfl⟩
    have hcl : ∀ i, i < cs.length → Z.cell? ⟨blk sa, ofs sa + i, none⟩ = some (.int .i64 (nth cs i)) := by
      obtain ⟨a9, c9, e9, -, -, h9, -⟩ := HZ.out.set.out1 sInt
      simp only [Value.slice.injEq] at e9
      obtain ⟨rfl, -, rfl⟩ := e9
      exact h9
    have hmost : mostOf ⟨vars, sites, fields, cons⟩ ⟨1, a, b, f, cs⟩ = sites := by simp [mostOf]
    have HM := Lib.hid hmost
    clear hmost
    cases ha : amB a sites
    · have HA := Lib.hid (amB_f ha)
      clear ha
      go_wp2_with fail
      go_ret
      exact ⟨ret_int (con4 (by dsimp only; omega) (.inl (by rw [HM.out]; have := HA.out; dsimp only; omega))).symm, by first | exact below_drewN HZ.out.bel _ | exact below_drewN (below_drewN HZ.out.bel _) _⟩
    have HA := Lib.hid (amB_t ha)
    clear ha
    go_wp2_with fail
    refine (rAmong_any b vars _).mono ?_
    rintro e W2 ⟨rfl, n2, rfl⟩
    cases hb : amB b vars
    · have HBB := Lib.hid (amB_f hb)
      clear hb
      go_wp2_with fail
      go_ret
      exact ⟨ret_int (con4 (by dsimp only; omega) (.inl (by have := HBB.out; dsimp only; omega))).symm, by first | exact below_drewN HZ.out.bel _ | exact below_drewN (below_drewN HZ.out.bel _) _⟩
    have HBB := Lib.hid (amB_t hb)
    clear hb
    go_wp2_with fail
    have HF : Hid ((1 : Int) ≠ 3 ∧ (1 : Int) ≠ 4) := Lib.hid (by omega)
    go_loopw [7] (fun x wr => ∃ j : Nat, j ≤ cs.length ∧ x = .int .i64 j ∧ Qt Z wr ∧ Hid (∀ i, i < j → 0 ≤ nth cs i ∧ nth cs i < sites)) (fun x _ => cs.length - (intOf x).toNat)
    case atStart => exact ⟨0, by omega, rfl, by exact (by first | exact Qt.refl _ | exact Qt.drewN _ _ | exact (Qt.drewN _ _).trans (Qt.drewN _ _) | exact ((Qt.drewN _ _).trans (Qt.drewN _ _)).trans (Qt.drewN _ _) | exact Qt.drew _ | exact (Qt.drewN _ _).trans (Qt.drew _)), fun i hi => by omega⟩
    case round =>
      obtain ⟨j, hj, rfl, ⟨nw, rfl⟩, hch⟩ := hrel
      by_cases hlt : j < cs.length
      · have hck := hcl j hlt
        have hcall : ∀ n, Calls Try.prog 59 #[.int .i64 (nth cs j), .int .i64 sites] (Z.drewN n) fun e w' => e = .returned (.bool (amB (nth cs j) sites)) ∧ Qt (Z.drewN n) w' := fun n => rAmong_any _ _ _
        obtain ⟨d, hd⟩ : ∃ d, d = amB (nth cs j) sites := ⟨_, rfl⟩
        rw [← hd] at hcall
        have HCall := Lib.hid hcall
        clear hcall
        cases d
        · have HD := Lib.hid (amB_f hd.symm)
          clear hd
          go_wp2_with fail
          go_quiet ((go_at_call 59; exact Qt.quiet2 (HCall.out _)))
          go_wp2_with fail
          go_ret
          exact ⟨ret_int (con4 (by dsimp only; omega) (.inr (.inr (by rw [Bool.eq_false_iff]; intro hh; have h1 := (subB_iff _ _).1 hh j hlt; have := HD.out; dsimp only at h1; omega)))).symm, by first | exact below_drewN HZ.out.bel _ | exact below_drewN (below_drewN HZ.out.bel _) _⟩
        · have HD := Lib.hid (amB_t hd.symm)
          clear hd
          go_wp2_with fail
          go_quiet ((go_at_call 59; exact Qt.quiet2 (HCall.out _)))
          go_wp2_with fail
          go_roundw
          case rel => exact ⟨j + 1, by omega, by go_num, (by first | exact Qt.refl _ | exact Qt.drewN _ _ | exact (Qt.drewN _ _).trans (Qt.drewN _ _) | exact ((Qt.drewN _ _).trans (Qt.drewN _ _)).trans (Qt.drewN _ _) | exact Qt.drew _ | exact (Qt.drewN _ _).trans (Qt.drew _)), fun i hi => by
            by_cases e : i = j
            · subst e; exact HD.out
            · exact hch.out i (by omega)⟩
          case measure => simp [intOf]; omega
      · obtain rfl : j = cs.length := by omega
        have hrest := conRest (s := ⟨vars, sites, fields, cons⟩) (c := ⟨1, a, b, f, cs⟩) (by dsimp only; omega) (by rw [HM.out]; have := HA.out; have := HBB.out; dsimp only; omega) (by have := HF.out; dsimp only at *; omega) ((subB_iff _ _).2 hch.out)
        have HRest := Lib.hid hrest
        clear hrest
        clear hch
        go_wp2_with fail
        all_goals first
          | (go_ret
             exact ⟨ret_int (by rw [HRest.out]; (try dsimp only); rw [if_pos (by omega)]), by first | exact below_drewN HZ.out.bel _ | exact below_drewN (below_drewN HZ.out.bel _) _⟩)
          | (go_ret
             have hf0 : f = 0 := by assumption
             subst hf0
             exact ⟨ret_int (by rw [HRest.out]; (try dsimp only); rw [if_pos (by omega)]), by first | exact below_drewN HZ.out.bel _ | exact below_drewN (below_drewN HZ.out.bel _) _⟩)
          | (skip
             go_loopw [8] (fun x wr => ∃ j : Nat, 1 ≤ j ∧ x = .int .i64 j ∧ Qt Z wr ∧ (j ≤ cs.length ∨ j = 1) ∧ Hid (∀ i, i + 1 < j → nth cs i < nth cs (i + 1))) (fun x _ => cs.length + 1 - (intOf x).toNat)
             case atStart => exact ⟨1, by omega, rfl, by exact (by first | exact Qt.refl _ | exact Qt.drewN _ _ | exact (Qt.drewN _ _).trans (Qt.drewN _ _) | exact ((Qt.drewN _ _).trans (Qt.drewN _ _)).trans (Qt.drewN _ _) | exact Qt.drew _ | exact (Qt.drewN _ _).trans (Qt.drew _)), by omega, fun i hi => by omega⟩
             case round =>
               obtain ⟨j, hj, rfl, ⟨nw, rfl⟩, hj2, hch⟩ := hrel
               by_cases hlt : j < cs.length
               · first
                   | (exfalso; omega)
                   | (skip
                      obtain ⟨m, rfl⟩ : ∃ m, j = m + 1 := ⟨j - 1, by omega⟩
                      have hck := hcl (m + 1) hlt
                      have hck2 := hcl m (by omega)
                      have hw : IntKind.i64.wrap (m : Int) = m := IntWalk.i64_in _ (by omega)
                      have hm1 : (m : Int) < (cs.length : Int) := by omega
                      have hm2 : (m : Int) + 1 < (cs.length : Int) := by omega
                      have hm3 : (0 : Int) ≤ (m : Int) := by omega
                      have hm4 : (0 : Int) ≤ (m : Int) + 1 := by omega
                      have hm5 : ((m : Int) + 1).toNat = m + 1 := by omega
                      by_cases h1 : nth cs (m + 1) ≤ nth cs m
                      · have hd : decide (nth cs (m + 1) ≤ nth cs m) = true := by simpa using h1
                        go_wp2_with fail
                        go_quiet (fail)
                        go_wp2_with fail
                        go_ret
                        exact ⟨ret_int (by rw [HRest.out]; (try dsimp only); rw [if_neg (by omega), if_pos (by rw [Bool.eq_false_iff]; intro hh; have := (ascB_iff _).1 hh m hlt; omega)]), by first | exact below_drewN HZ.out.bel _ | exact below_drewN (below_drewN HZ.out.bel _) _⟩
                      · have hd : decide (nth cs (m + 1) ≤ nth cs m) = false := by simpa using h1
                        go_wp2_with fail
                        go_quiet (fail)
                        go_wp2_with fail
                        go_roundw
                        case rel => exact ⟨m + 2, by omega, by go_num, (by first | exact Qt.refl _ | exact Qt.drewN _ _ | exact (Qt.drewN _ _).trans (Qt.drewN _ _) | exact ((Qt.drewN _ _).trans (Qt.drewN _ _)).trans (Qt.drewN _ _) | exact Qt.drew _ | exact (Qt.drewN _ _).trans (Qt.drew _)), by omega, fun i hi => by
                          by_cases e : i = m
                          · subst e; omega
                          · exact hch.out i (by omega)⟩
                        case measure => simp [intOf]; omega
                      )
               · have hasc : ascB cs = true := (ascB_iff _).2 fun i hi => hch.out i (by omega)
                 have HAsc := Lib.hid hasc
                 clear hasc
                 go_wp2_with fail
                 go_ret
                 exact ⟨ret_int (by rw [HRest.out]; (try dsimp only); rw [if_neg (by omega), if_neg (by rw [HAsc.out]; simp)]), below_drewN HZ.out.bel _⟩
             )
  · go_enter Try.func49, Try.ntmps49
    go_wp2_with fail
    refine calls_gen (fun Z => ConR W W.heap.size (W.heap.size + 1) vars sites fields 2 a b f sa sc cs Z) (ConR.new W cv _ _ _ _ _ _ _ _ _ _ HS.out) ?_
    rintro Z hz
    obtain ⟨b1, hb1⟩ : ∃ b1, b1 = W.heap.size + 1 := ⟨_, rfl⟩
    obtain ⟨b0, hb0⟩ : ∃ b0, b0 = W.heap.size := ⟨_, rfl⟩
    have HZ : Hid (ConR W b0 b1 vars sites fields 2 a b f sa sc cs Z) := by rw [hb0, hb1]; exact hz
    rw [← hb1, ← hb0]
    clear hz hb1 hb0 HS
    obtain ⟨s0, s1, s2, c0, c1, c2, c3, c4, -, -⟩ := HZ.out
    refine (rAmong_any a vars Z).mono ?_
    rintro e W1 ⟨rfl, n1, rfl⟩
    have hcl : ∀ i, i < cs.length → Z.cell? ⟨blk sa, ofs sa + i, none⟩ = some (.int .i64 (nth cs i)) := by
      obtain ⟨a9, c9, e9, -, -, h9, -⟩ := HZ.out.set.out1 sInt
      simp only [Value.slice.injEq] at e9
      obtain ⟨rfl, -, rfl⟩ := e9
      exact h9
    have hmost : mostOf ⟨vars, sites, fields, cons⟩ ⟨2, a, b, f, cs⟩ = vars := by simp [mostOf]
    have HM := Lib.hid hmost
    clear hmost
    cases ha : amB a vars
    · have HA := Lib.hid (amB_f ha)
      clear ha
      go_wp2_with fail
      go_ret
      exact ⟨ret_int (con4 (by dsimp only; omega) (.inl (by rw [HM.out]; have := HA.out; dsimp only; omega))).symm, by first | exact below_drewN HZ.out.bel _ | exact below_drewN (below_drewN HZ.out.bel _) _⟩
    have HA := Lib.hid (amB_t ha)
    clear ha
    go_wp2_with fail
    refine (rAmong_any b vars _).mono ?_
    rintro e W2 ⟨rfl, n2, rfl⟩
    cases hb : amB b vars
    · have HBB := Lib.hid (amB_f hb)
      clear hb
      go_wp2_with fail
      go_ret
      exact ⟨ret_int (con4 (by dsimp only; omega) (.inl (by have := HBB.out; dsimp only; omega))).symm, by first | exact below_drewN HZ.out.bel _ | exact below_drewN (below_drewN HZ.out.bel _) _⟩
    have HBB := Lib.hid (amB_t hb)
    clear hb
    go_wp2_with fail
    have HF : Hid ((2 : Int) ≠ 3 ∧ (2 : Int) ≠ 4) := Lib.hid (by omega)
    go_loopw [7] (fun x wr => ∃ j : Nat, j ≤ cs.length ∧ x = .int .i64 j ∧ Qt Z wr ∧ Hid (∀ i, i < j → 0 ≤ nth cs i ∧ nth cs i < sites)) (fun x _ => cs.length - (intOf x).toNat)
    case atStart => exact ⟨0, by omega, rfl, by exact (by first | exact Qt.refl _ | exact Qt.drewN _ _ | exact (Qt.drewN _ _).trans (Qt.drewN _ _) | exact ((Qt.drewN _ _).trans (Qt.drewN _ _)).trans (Qt.drewN _ _) | exact Qt.drew _ | exact (Qt.drewN _ _).trans (Qt.drew _)), fun i hi => by omega⟩
    case round =>
      obtain ⟨j, hj, rfl, ⟨nw, rfl⟩, hch⟩ := hrel
      by_cases hlt : j < cs.length
      · have hck := hcl j hlt
        have hcall : ∀ n, Calls Try.prog 59 #[.int .i64 (nth cs j), .int .i64 sites] (Z.drewN n) fun e w' => e = .returned (.bool (amB (nth cs j) sites)) ∧ Qt (Z.drewN n) w' := fun n => rAmong_any _ _ _
        obtain ⟨d, hd⟩ : ∃ d, d = amB (nth cs j) sites := ⟨_, rfl⟩
        rw [← hd] at hcall
        have HCall := Lib.hid hcall
        clear hcall
        cases d
        · have HD := Lib.hid (amB_f hd.symm)
          clear hd
          go_wp2_with fail
          go_quiet ((go_at_call 59; exact Qt.quiet2 (HCall.out _)))
          go_wp2_with fail
          go_ret
          exact ⟨ret_int (con4 (by dsimp only; omega) (.inr (.inr (by rw [Bool.eq_false_iff]; intro hh; have h1 := (subB_iff _ _).1 hh j hlt; have := HD.out; dsimp only at h1; omega)))).symm, by first | exact below_drewN HZ.out.bel _ | exact below_drewN (below_drewN HZ.out.bel _) _⟩
        · have HD := Lib.hid (amB_t hd.symm)
          clear hd
          go_wp2_with fail
          go_quiet ((go_at_call 59; exact Qt.quiet2 (HCall.out _)))
          go_wp2_with fail
          go_roundw
          case rel => exact ⟨j + 1, by omega, by go_num, (by first | exact Qt.refl _ | exact Qt.drewN _ _ | exact (Qt.drewN _ _).trans (Qt.drewN _ _) | exact ((Qt.drewN _ _).trans (Qt.drewN _ _)).trans (Qt.drewN _ _) | exact Qt.drew _ | exact (Qt.drewN _ _).trans (Qt.drew _)), fun i hi => by
            by_cases e : i = j
            · subst e; exact HD.out
            · exact hch.out i (by omega)⟩
          case measure => simp [intOf]; omega
      · obtain rfl : j = cs.length := by omega
        have hrest := conRest (s := ⟨vars, sites, fields, cons⟩) (c := ⟨2, a, b, f, cs⟩) (by dsimp only; omega) (by rw [HM.out]; have := HA.out; have := HBB.out; dsimp only; omega) (by have := HF.out; dsimp only at *; omega) ((subB_iff _ _).2 hch.out)
        have HRest := Lib.hid hrest
        clear hrest
        clear hch
        go_wp2_with fail
        all_goals first
          | (go_ret
             exact ⟨ret_int (by rw [HRest.out]; (try dsimp only); rw [if_pos (by omega)]), by first | exact below_drewN HZ.out.bel _ | exact below_drewN (below_drewN HZ.out.bel _) _⟩)
          | (go_ret
             have hf0 : f = 0 := by assumption
             subst hf0
             exact ⟨ret_int (by rw [HRest.out]; (try dsimp only); rw [if_pos (by omega)]), by first | exact below_drewN HZ.out.bel _ | exact below_drewN (below_drewN HZ.out.bel _) _⟩)
          | (skip
             go_loopw [8] (fun x wr => ∃ j : Nat, 1 ≤ j ∧ x = .int .i64 j ∧ Qt Z wr ∧ (j ≤ cs.length ∨ j = 1) ∧ Hid (∀ i, i + 1 < j → nth cs i < nth cs (i + 1))) (fun x _ => cs.length + 1 - (intOf x).toNat)
             case atStart => exact ⟨1, by omega, rfl, by exact (by first | exact Qt.refl _ | exact Qt.drewN _ _ | exact (Qt.drewN _ _).trans (Qt.drewN _ _) | exact ((Qt.drewN _ _).trans (Qt.drewN _ _)).trans (Qt.drewN _ _) | exact Qt.drew _ | exact (Qt.drewN _ _).trans (Qt.drew _)), by omega, fun i hi => by omega⟩
             case round =>
               obtain ⟨j, hj, rfl, ⟨nw, rfl⟩, hj2, hch⟩ := hrel
               by_cases hlt : j < cs.length
               · first
                   | (exfalso; omega)
                   | (skip
                      obtain ⟨m, rfl⟩ : ∃ m, j = m + 1 := ⟨j - 1, by omega⟩
                      have hck := hcl (m + 1) hlt
                      have hck2 := hcl m (by omega)
                      have hw : IntKind.i64.wrap (m : Int) = m := IntWalk.i64_in _ (by omega)
                      have hm1 : (m : Int) < (cs.length : Int) := by omega
                      have hm2 : (m : Int) + 1 < (cs.length : Int) := by omega
                      have hm3 : (0 : Int) ≤ (m : Int) := by omega
                      have hm4 : (0 : Int) ≤ (m : Int) + 1 := by omega
                      have hm5 : ((m : Int) + 1).toNat = m + 1 := by omega
                      by_cases h1 : nth cs (m + 1) ≤ nth cs m
                      · have hd : decide (nth cs (m + 1) ≤ nth cs m) = true := by simpa using h1
                        go_wp2_with fail
                        go_quiet (fail)
                        go_wp2_with fail
                        go_ret
                        exact ⟨ret_int (by rw [HRest.out]; (try dsimp only); rw [if_neg (by omega), if_pos (by rw [Bool.eq_false_iff]; intro hh; have := (ascB_iff _).1 hh m hlt; omega)]), by first | exact below_drewN HZ.out.bel _ | exact below_drewN (below_drewN HZ.out.bel _) _⟩
                      · have hd : decide (nth cs (m + 1) ≤ nth cs m) = false := by simpa using h1
                        go_wp2_with fail
                        go_quiet (fail)
                        go_wp2_with fail
                        go_roundw
                        case rel => exact ⟨m + 2, by omega, by go_num, (by first | exact Qt.refl _ | exact Qt.drewN _ _ | exact (Qt.drewN _ _).trans (Qt.drewN _ _) | exact ((Qt.drewN _ _).trans (Qt.drewN _ _)).trans (Qt.drewN _ _) | exact Qt.drew _ | exact (Qt.drewN _ _).trans (Qt.drew _)), by omega, fun i hi => by
                          by_cases e : i = m
                          · subst e; omega
                          · exact hch.out i (by omega)⟩
                        case measure => simp [intOf]; omega
                      )
               · have hasc : ascB cs = true := (ascB_iff _).2 fun i hi => hch.out i (by omega)
                 have HAsc := Lib.hid hasc
                 clear hasc
                 go_wp2_with fail
                 go_ret
                 exact ⟨ret_int (by rw [HRest.out]; (try dsimp only); rw [if_neg (by omega), if_neg (by rw [HAsc.out]; simp)]), below_drewN HZ.out.bel _⟩
             )
  · go_enter Try.func49, Try.ntmps49
    go_wp2_with fail
    refine calls_gen (fun Z => ConR W W.heap.size (W.heap.size + 1) vars sites fields 3 a b f sa sc cs Z) (ConR.new W cv _ _ _ _ _ _ _ _ _ _ HS.out) ?_
    rintro Z hz
    obtain ⟨b1, hb1⟩ : ∃ b1, b1 = W.heap.size + 1 := ⟨_, rfl⟩
    obtain ⟨b0, hb0⟩ : ∃ b0, b0 = W.heap.size := ⟨_, rfl⟩
    have HZ : Hid (ConR W b0 b1 vars sites fields 3 a b f sa sc cs Z) := by rw [hb0, hb1]; exact hz
    rw [← hb1, ← hb0]
    clear hz hb1 hb0 HS
    obtain ⟨s0, s1, s2, c0, c1, c2, c3, c4, -, -⟩ := HZ.out
    refine (rAmong_any a vars Z).mono ?_
    rintro e W1 ⟨rfl, n1, rfl⟩
    have hcl : ∀ i, i < cs.length → Z.cell? ⟨blk sa, ofs sa + i, none⟩ = some (.int .i64 (nth cs i)) := by
      obtain ⟨a9, c9, e9, -, -, h9, -⟩ := HZ.out.set.out1 sInt
      simp only [Value.slice.injEq] at e9
      obtain ⟨rfl, -, rfl⟩ := e9
      exact h9
    have hmost : mostOf ⟨vars, sites, fields, cons⟩ ⟨3, a, b, f, cs⟩ = vars := by simp [mostOf]
    have HM := Lib.hid hmost
    clear hmost
    cases ha : amB a vars
    · have HA := Lib.hid (amB_f ha)
      clear ha
      go_wp2_with fail
      go_ret
      exact ⟨ret_int (con4 (by dsimp only; omega) (.inl (by rw [HM.out]; have := HA.out; dsimp only; omega))).symm, by first | exact below_drewN HZ.out.bel _ | exact below_drewN (below_drewN HZ.out.bel _) _⟩
    have HA := Lib.hid (amB_t ha)
    clear ha
    go_wp2_with fail
    refine (rAmong_any b vars _).mono ?_
    rintro e W2 ⟨rfl, n2, rfl⟩
    cases hb : amB b vars
    · have HBB := Lib.hid (amB_f hb)
      clear hb
      go_wp2_with fail
      go_ret
      exact ⟨ret_int (con4 (by dsimp only; omega) (.inl (by have := HBB.out; dsimp only; omega))).symm, by first | exact below_drewN HZ.out.bel _ | exact below_drewN (below_drewN HZ.out.bel _) _⟩
    have HBB := Lib.hid (amB_t hb)
    clear hb
    go_wp2_with fail
    refine (rAmong_any f fields _).mono ?_
    rintro e W3 ⟨rfl, n3, rfl⟩
    cases hf : amB f fields
    · have HF := Lib.hid (amB_f hf)
      clear hf
      go_wp2_with fail
      go_ret
      exact ⟨ret_int (con4 (by dsimp only; omega) (.inr (.inl ⟨by dsimp only; omega, by have := HF.out; dsimp only; omega⟩))).symm, by first | exact below_drewN HZ.out.bel _ | exact below_drewN (below_drewN HZ.out.bel _) _⟩
    have HF := Lib.hid (amB_t hf)
    clear hf
    go_wp2_with fail
    go_loopw [7] (fun x wr => ∃ j : Nat, j ≤ cs.length ∧ x = .int .i64 j ∧ Qt Z wr ∧ Hid (∀ i, i < j → 0 ≤ nth cs i ∧ nth cs i < sites)) (fun x _ => cs.length - (intOf x).toNat)
    case atStart => exact ⟨0, by omega, rfl, by exact (by first | exact Qt.refl _ | exact Qt.drewN _ _ | exact (Qt.drewN _ _).trans (Qt.drewN _ _) | exact ((Qt.drewN _ _).trans (Qt.drewN _ _)).trans (Qt.drewN _ _) | exact Qt.drew _ | exact (Qt.drewN _ _).trans (Qt.drew _)), fun i hi => by omega⟩
    case round =>
      obtain ⟨j, hj, rfl, ⟨nw, rfl⟩, hch⟩ := hrel
      by_cases hlt : j < cs.length
      · have hck := hcl j hlt
        have hcall : ∀ n, Calls Try.prog 59 #[.int .i64 (nth cs j), .int .i64 sites] (Z.drewN n) fun e w' => e = .returned (.bool (amB (nth cs j) sites)) ∧ Qt (Z.drewN n) w' := fun n => rAmong_any _ _ _
        obtain ⟨d, hd⟩ : ∃ d, d = amB (nth cs j) sites := ⟨_, rfl⟩
        rw [← hd] at hcall
        have HCall := Lib.hid hcall
        clear hcall
        cases d
        · have HD := Lib.hid (amB_f hd.symm)
          clear hd
          go_wp2_with fail
          go_quiet ((go_at_call 59; exact Qt.quiet2 (HCall.out _)))
          go_wp2_with fail
          go_ret
          exact ⟨ret_int (con4 (by dsimp only; omega) (.inr (.inr (by rw [Bool.eq_false_iff]; intro hh; have h1 := (subB_iff _ _).1 hh j hlt; have := HD.out; dsimp only at h1; omega)))).symm, by first | exact below_drewN HZ.out.bel _ | exact below_drewN (below_drewN HZ.out.bel _) _⟩
        · have HD := Lib.hid (amB_t hd.symm)
          clear hd
          go_wp2_with fail
          go_quiet ((go_at_call 59; exact Qt.quiet2 (HCall.out _)))
          go_wp2_with fail
          go_roundw
          case rel => exact ⟨j + 1, by omega, by go_num, (by first | exact Qt.refl _ | exact Qt.drewN _ _ | exact (Qt.drewN _ _).trans (Qt.drewN _ _) | exact ((Qt.drewN _ _).trans (Qt.drewN _ _)).trans (Qt.drewN _ _) | exact Qt.drew _ | exact (Qt.drewN _ _).trans (Qt.drew _)), fun i hi => by
            by_cases e : i = j
            · subst e; exact HD.out
            · exact hch.out i (by omega)⟩
          case measure => simp [intOf]; omega
      · obtain rfl : j = cs.length := by omega
        have hrest := conRest (s := ⟨vars, sites, fields, cons⟩) (c := ⟨3, a, b, f, cs⟩) (by dsimp only; omega) (by rw [HM.out]; have := HA.out; have := HBB.out; dsimp only; omega) (by have := HF.out; dsimp only at *; omega) ((subB_iff _ _).2 hch.out)
        have HRest := Lib.hid hrest
        clear hrest
        clear hch
        go_wp2_with fail
        all_goals first
          | (go_ret
             exact ⟨ret_int (by rw [HRest.out]; (try dsimp only); rw [if_pos (by omega)]), by first | exact below_drewN HZ.out.bel _ | exact below_drewN (below_drewN HZ.out.bel _) _⟩)
          | (go_ret
             have hf0 : f = 0 := by assumption
             subst hf0
             exact ⟨ret_int (by rw [HRest.out]; (try dsimp only); rw [if_pos (by omega)]), by first | exact below_drewN HZ.out.bel _ | exact below_drewN (below_drewN HZ.out.bel _) _⟩)
          | (skip
             go_loopw [8] (fun x wr => ∃ j : Nat, 1 ≤ j ∧ x = .int .i64 j ∧ Qt Z wr ∧ (j ≤ cs.length ∨ j = 1) ∧ Hid (∀ i, i + 1 < j → nth cs i < nth cs (i + 1))) (fun x _ => cs.length + 1 - (intOf x).toNat)
             case atStart => exact ⟨1, by omega, rfl, by exact (by first | exact Qt.refl _ | exact Qt.drewN _ _ | exact (Qt.drewN _ _).trans (Qt.drewN _ _) | exact ((Qt.drewN _ _).trans (Qt.drewN _ _)).trans (Qt.drewN _ _) | exact Qt.drew _ | exact (Qt.drewN _ _).trans (Qt.drew _)), by omega, fun i hi => by omega⟩
             case round =>
               obtain ⟨j, hj, rfl, ⟨nw, rfl⟩, hj2, hch⟩ := hrel
               by_cases hlt : j < cs.length
               · first
                   | (exfalso; omega)
                   | (skip
                      obtain ⟨m, rfl⟩ : ∃ m, j = m + 1 := ⟨j - 1, by omega⟩
                      have hck := hcl (m + 1) hlt
                      have hck2 := hcl m (by omega)
                      have hw : IntKind.i64.wrap (m : Int) = m := IntWalk.i64_in _ (by omega)
                      have hm1 : (m : Int) < (cs.length : Int) := by omega
                      have hm2 : (m : Int) + 1 < (cs.length : Int) := by omega
                      have hm3 : (0 : Int) ≤ (m : Int) := by omega
                      have hm4 : (0 : Int) ≤ (m : Int) + 1 := by omega
                      have hm5 : ((m : Int) + 1).toNat = m + 1 := by omega
                      by_cases h1 : nth cs (m + 1) ≤ nth cs m
                      · have hd : decide (nth cs (m + 1) ≤ nth cs m) = true := by simpa using h1
                        go_wp2_with fail
                        go_quiet (fail)
                        go_wp2_with fail
                        go_ret
                        exact ⟨ret_int (by rw [HRest.out]; (try dsimp only); rw [if_neg (by omega), if_pos (by rw [Bool.eq_false_iff]; intro hh; have := (ascB_iff _).1 hh m hlt; omega)]), by first | exact below_drewN HZ.out.bel _ | exact below_drewN (below_drewN HZ.out.bel _) _⟩
                      · have hd : decide (nth cs (m + 1) ≤ nth cs m) = false := by simpa using h1
                        go_wp2_with fail
                        go_quiet (fail)
                        go_wp2_with fail
                        go_roundw
                        case rel => exact ⟨m + 2, by omega, by go_num, (by first | exact Qt.refl _ | exact Qt.drewN _ _ | exact (Qt.drewN _ _).trans (Qt.drewN _ _) | exact ((Qt.drewN _ _).trans (Qt.drewN _ _)).trans (Qt.drewN _ _) | exact Qt.drew _ | exact (Qt.drewN _ _).trans (Qt.drew _)), by omega, fun i hi => by
                          by_cases e : i = m
                          · subst e; omega
                          · exact hch.out i (by omega)⟩
                        case measure => simp [intOf]; omega
                      )
               · have hasc : ascB cs = true := (ascB_iff _).2 fun i hi => hch.out i (by omega)
                 have HAsc := Lib.hid hasc
                 clear hasc
                 go_wp2_with fail
                 go_ret
                 exact ⟨ret_int (by rw [HRest.out]; (try dsimp only); rw [if_neg (by omega), if_neg (by rw [HAsc.out]; simp)]), below_drewN HZ.out.bel _⟩
             )
  · go_enter Try.func49, Try.ntmps49
    go_wp2_with fail
    refine calls_gen (fun Z => ConR W W.heap.size (W.heap.size + 1) vars sites fields 4 a b f sa sc cs Z) (ConR.new W cv _ _ _ _ _ _ _ _ _ _ HS.out) ?_
    rintro Z hz
    obtain ⟨b1, hb1⟩ : ∃ b1, b1 = W.heap.size + 1 := ⟨_, rfl⟩
    obtain ⟨b0, hb0⟩ : ∃ b0, b0 = W.heap.size := ⟨_, rfl⟩
    have HZ : Hid (ConR W b0 b1 vars sites fields 4 a b f sa sc cs Z) := by rw [hb0, hb1]; exact hz
    rw [← hb1, ← hb0]
    clear hz hb1 hb0 HS
    obtain ⟨s0, s1, s2, c0, c1, c2, c3, c4, -, -⟩ := HZ.out
    refine (rAmong_any a vars Z).mono ?_
    rintro e W1 ⟨rfl, n1, rfl⟩
    have hcl : ∀ i, i < cs.length → Z.cell? ⟨blk sa, ofs sa + i, none⟩ = some (.int .i64 (nth cs i)) := by
      obtain ⟨a9, c9, e9, -, -, h9, -⟩ := HZ.out.set.out1 sInt
      simp only [Value.slice.injEq] at e9
      obtain ⟨rfl, -, rfl⟩ := e9
      exact h9
    have hmost : mostOf ⟨vars, sites, fields, cons⟩ ⟨4, a, b, f, cs⟩ = vars := by simp [mostOf]
    have HM := Lib.hid hmost
    clear hmost
    cases ha : amB a vars
    · have HA := Lib.hid (amB_f ha)
      clear ha
      go_wp2_with fail
      go_ret
      exact ⟨ret_int (con4 (by dsimp only; omega) (.inl (by rw [HM.out]; have := HA.out; dsimp only; omega))).symm, by first | exact below_drewN HZ.out.bel _ | exact below_drewN (below_drewN HZ.out.bel _) _⟩
    have HA := Lib.hid (amB_t ha)
    clear ha
    go_wp2_with fail
    refine (rAmong_any b vars _).mono ?_
    rintro e W2 ⟨rfl, n2, rfl⟩
    cases hb : amB b vars
    · have HBB := Lib.hid (amB_f hb)
      clear hb
      go_wp2_with fail
      go_ret
      exact ⟨ret_int (con4 (by dsimp only; omega) (.inl (by have := HBB.out; dsimp only; omega))).symm, by first | exact below_drewN HZ.out.bel _ | exact below_drewN (below_drewN HZ.out.bel _) _⟩
    have HBB := Lib.hid (amB_t hb)
    clear hb
    go_wp2_with fail
    refine (rAmong_any f fields _).mono ?_
    rintro e W3 ⟨rfl, n3, rfl⟩
    cases hf : amB f fields
    · have HF := Lib.hid (amB_f hf)
      clear hf
      go_wp2_with fail
      go_ret
      exact ⟨ret_int (con4 (by dsimp only; omega) (.inr (.inl ⟨by dsimp only; omega, by have := HF.out; dsimp only; omega⟩))).symm, by first | exact below_drewN HZ.out.bel _ | exact below_drewN (below_drewN HZ.out.bel _) _⟩
    have HF := Lib.hid (amB_t hf)
    clear hf
    go_wp2_with fail
    go_loopw [7] (fun x wr => ∃ j : Nat, j ≤ cs.length ∧ x = .int .i64 j ∧ Qt Z wr ∧ Hid (∀ i, i < j → 0 ≤ nth cs i ∧ nth cs i < sites)) (fun x _ => cs.length - (intOf x).toNat)
    case atStart => exact ⟨0, by omega, rfl, by exact (by first | exact Qt.refl _ | exact Qt.drewN _ _ | exact (Qt.drewN _ _).trans (Qt.drewN _ _) | exact ((Qt.drewN _ _).trans (Qt.drewN _ _)).trans (Qt.drewN _ _) | exact Qt.drew _ | exact (Qt.drewN _ _).trans (Qt.drew _)), fun i hi => by omega⟩
    case round =>
      obtain ⟨j, hj, rfl, ⟨nw, rfl⟩, hch⟩ := hrel
      by_cases hlt : j < cs.length
      · have hck := hcl j hlt
        have hcall : ∀ n, Calls Try.prog 59 #[.int .i64 (nth cs j), .int .i64 sites] (Z.drewN n) fun e w' => e = .returned (.bool (amB (nth cs j) sites)) ∧ Qt (Z.drewN n) w' := fun n => rAmong_any _ _ _
        obtain ⟨d, hd⟩ : ∃ d, d = amB (nth cs j) sites := ⟨_, rfl⟩
        rw [← hd] at hcall
        have HCall := Lib.hid hcall
        clear hcall
        cases d
        · have HD := Lib.hid (amB_f hd.symm)
          clear hd
          go_wp2_with fail
          go_quiet ((go_at_call 59; exact Qt.quiet2 (HCall.out _)))
          go_wp2_with fail
          go_ret
          exact ⟨ret_int (con4 (by dsimp only; omega) (.inr (.inr (by rw [Bool.eq_false_iff]; intro hh; have h1 := (subB_iff _ _).1 hh j hlt; have := HD.out; dsimp only at h1; omega)))).symm, by first | exact below_drewN HZ.out.bel _ | exact below_drewN (below_drewN HZ.out.bel _) _⟩
        · have HD := Lib.hid (amB_t hd.symm)
          clear hd
          go_wp2_with fail
          go_quiet ((go_at_call 59; exact Qt.quiet2 (HCall.out _)))
          go_wp2_with fail
          go_roundw
          case rel => exact ⟨j + 1, by omega, by go_num, (by first | exact Qt.refl _ | exact Qt.drewN _ _ | exact (Qt.drewN _ _).trans (Qt.drewN _ _) | exact ((Qt.drewN _ _).trans (Qt.drewN _ _)).trans (Qt.drewN _ _) | exact Qt.drew _ | exact (Qt.drewN _ _).trans (Qt.drew _)), fun i hi => by
            by_cases e : i = j
            · subst e; exact HD.out
            · exact hch.out i (by omega)⟩
          case measure => simp [intOf]; omega
      · obtain rfl : j = cs.length := by omega
        have hrest := conRest (s := ⟨vars, sites, fields, cons⟩) (c := ⟨4, a, b, f, cs⟩) (by dsimp only; omega) (by rw [HM.out]; have := HA.out; have := HBB.out; dsimp only; omega) (by have := HF.out; dsimp only at *; omega) ((subB_iff _ _).2 hch.out)
        have HRest := Lib.hid hrest
        clear hrest
        clear hch
        go_wp2_with fail
        all_goals first
          | (go_ret
             exact ⟨ret_int (by rw [HRest.out]; (try dsimp only); rw [if_pos (by omega)]), by first | exact below_drewN HZ.out.bel _ | exact below_drewN (below_drewN HZ.out.bel _) _⟩)
          | (go_ret
             have hf0 : f = 0 := by assumption
             subst hf0
             exact ⟨ret_int (by rw [HRest.out]; (try dsimp only); rw [if_pos (by omega)]), by first | exact below_drewN HZ.out.bel _ | exact below_drewN (below_drewN HZ.out.bel _) _⟩)
          | (skip
             go_loopw [8] (fun x wr => ∃ j : Nat, 1 ≤ j ∧ x = .int .i64 j ∧ Qt Z wr ∧ (j ≤ cs.length ∨ j = 1) ∧ Hid (∀ i, i + 1 < j → nth cs i < nth cs (i + 1))) (fun x _ => cs.length + 1 - (intOf x).toNat)
             case atStart => exact ⟨1, by omega, rfl, by exact (by first | exact Qt.refl _ | exact Qt.drewN _ _ | exact (Qt.drewN _ _).trans (Qt.drewN _ _) | exact ((Qt.drewN _ _).trans (Qt.drewN _ _)).trans (Qt.drewN _ _) | exact Qt.drew _ | exact (Qt.drewN _ _).trans (Qt.drew _)), by omega, fun i hi => by omega⟩
             case round =>
               obtain ⟨j, hj, rfl, ⟨nw, rfl⟩, hj2, hch⟩ := hrel
               by_cases hlt : j < cs.length
               · first
                   | (exfalso; omega)
                   | (skip
                      obtain ⟨m, rfl⟩ : ∃ m, j = m + 1 := ⟨j - 1, by omega⟩
                      have hck := hcl (m + 1) hlt
                      have hck2 := hcl m (by omega)
                      have hw : IntKind.i64.wrap (m : Int) = m := IntWalk.i64_in _ (by omega)
                      have hm1 : (m : Int) < (cs.length : Int) := by omega
                      have hm2 : (m : Int) + 1 < (cs.length : Int) := by omega
                      have hm3 : (0 : Int) ≤ (m : Int) := by omega
                      have hm4 : (0 : Int) ≤ (m : Int) + 1 := by omega
                      have hm5 : ((m : Int) + 1).toNat = m + 1 := by omega
                      by_cases h1 : nth cs (m + 1) ≤ nth cs m
                      · have hd : decide (nth cs (m + 1) ≤ nth cs m) = true := by simpa using h1
                        go_wp2_with fail
                        go_quiet (fail)
                        go_wp2_with fail
                        go_ret
                        exact ⟨ret_int (by rw [HRest.out]; (try dsimp only); rw [if_neg (by omega), if_pos (by rw [Bool.eq_false_iff]; intro hh; have := (ascB_iff _).1 hh m hlt; omega)]), by first | exact below_drewN HZ.out.bel _ | exact below_drewN (below_drewN HZ.out.bel _) _⟩
                      · have hd : decide (nth cs (m + 1) ≤ nth cs m) = false := by simpa using h1
                        go_wp2_with fail
                        go_quiet (fail)
                        go_wp2_with fail
                        go_roundw
                        case rel => exact ⟨m + 2, by omega, by go_num, (by first | exact Qt.refl _ | exact Qt.drewN _ _ | exact (Qt.drewN _ _).trans (Qt.drewN _ _) | exact ((Qt.drewN _ _).trans (Qt.drewN _ _)).trans (Qt.drewN _ _) | exact Qt.drew _ | exact (Qt.drewN _ _).trans (Qt.drew _)), by omega, fun i hi => by
                          by_cases e : i = m
                          · subst e; omega
                          · exact hch.out i (by omega)⟩
                        case measure => simp [intOf]; omega
                      )
               · have hasc : ascB cs = true := (ascB_iff _).2 fun i hi => hch.out i (by omega)
                 have HAsc := Lib.hid hasc
                 clear hasc
                 go_wp2_with fail
                 go_ret
                 exact ⟨ret_int (by rw [HRest.out]; (try dsimp only); rw [if_neg (by omega), if_neg (by rw [HAsc.out]; simp)]), below_drewN HZ.out.bel _⟩
             )
  · go_enter Try.func49, Try.ntmps49
    go_wp2_with fail
    refine calls_gen (fun Z => ConR W W.heap.size (W.heap.size + 1) vars sites fields 5 a b f sa sc cs Z) (ConR.new W cv _ _ _ _ _ _ _ _ _ _ HS.out) ?_
    rintro Z hz
    obtain ⟨b1, hb1⟩ : ∃ b1, b1 = W.heap.size + 1 := ⟨_, rfl⟩
    obtain ⟨b0, hb0⟩ : ∃ b0, b0 = W.heap.size := ⟨_, rfl⟩
    have HZ : Hid (ConR W b0 b1 vars sites fields 5 a b f sa sc cs Z) := by rw [hb0, hb1]; exact hz
    rw [← hb1, ← hb0]
    clear hz hb1 hb0 HS
    obtain ⟨s0, s1, s2, c0, c1, c2, c3, c4, -, -⟩ := HZ.out
    refine (rAmong_any a vars Z).mono ?_
    rintro e W1 ⟨rfl, n1, rfl⟩
    have hcl : ∀ i, i < cs.length → Z.cell? ⟨blk sa, ofs sa + i, none⟩ = some (.int .i64 (nth cs i)) := by
      obtain ⟨a9, c9, e9, -, -, h9, -⟩ := HZ.out.set.out1 sInt
      simp only [Value.slice.injEq] at e9
      obtain ⟨rfl, -, rfl⟩ := e9
      exact h9
    have hmost : mostOf ⟨vars, sites, fields, cons⟩ ⟨5, a, b, f, cs⟩ = vars := by simp [mostOf]
    have HM := Lib.hid hmost
    clear hmost
    cases ha : amB a vars
    · have HA := Lib.hid (amB_f ha)
      clear ha
      go_wp2_with fail
      go_ret
      exact ⟨ret_int (con4 (by dsimp only; omega) (.inl (by rw [HM.out]; have := HA.out; dsimp only; omega))).symm, by first | exact below_drewN HZ.out.bel _ | exact below_drewN (below_drewN HZ.out.bel _) _⟩
    have HA := Lib.hid (amB_t ha)
    clear ha
    go_wp2_with fail
    refine (rAmong_any b vars _).mono ?_
    rintro e W2 ⟨rfl, n2, rfl⟩
    cases hb : amB b vars
    · have HBB := Lib.hid (amB_f hb)
      clear hb
      go_wp2_with fail
      go_ret
      exact ⟨ret_int (con4 (by dsimp only; omega) (.inl (by have := HBB.out; dsimp only; omega))).symm, by first | exact below_drewN HZ.out.bel _ | exact below_drewN (below_drewN HZ.out.bel _) _⟩
    have HBB := Lib.hid (amB_t hb)
    clear hb
    go_wp2_with fail
    have HF : Hid ((5 : Int) ≠ 3 ∧ (5 : Int) ≠ 4) := Lib.hid (by omega)
    go_loopw [7] (fun x wr => ∃ j : Nat, j ≤ cs.length ∧ x = .int .i64 j ∧ Qt Z wr ∧ Hid (∀ i, i < j → 0 ≤ nth cs i ∧ nth cs i < sites)) (fun x _ => cs.length - (intOf x).toNat)
    case atStart => exact ⟨0, by omega, rfl, by exact (by first | exact Qt.refl _ | exact Qt.drewN _ _ | exact (Qt.drewN _ _).trans (Qt.drewN _ _) | exact ((Qt.drewN _ _).trans (Qt.drewN _ _)).trans (Qt.drewN _ _) | exact Qt.drew _ | exact (Qt.drewN _ _).trans (Qt.drew _)), fun i hi => by omega⟩
    case round =>
      obtain ⟨j, hj, rfl, ⟨nw, rfl⟩, hch⟩ := hrel
      by_cases hlt : j < cs.length
      · have hck := hcl j hlt
        have hcall : ∀ n, Calls Try.prog 59 #[.int .i64 (nth cs j), .int .i64 sites] (Z.drewN n) fun e w' => e = .returned (.bool (amB (nth cs j) sites)) ∧ Qt (Z.drewN n) w' := fun n => rAmong_any _ _ _
        obtain ⟨d, hd⟩ : ∃ d, d = amB (nth cs j) sites := ⟨_, rfl⟩
        rw [← hd] at hcall
        have HCall := Lib.hid hcall
        clear hcall
        cases d
        · have HD := Lib.hid (amB_f hd.symm)
          clear hd
          go_wp2_with fail
          go_quiet ((go_at_call 59; exact Qt.quiet2 (HCall.out _)))
          go_wp2_with fail
          go_ret
          exact ⟨ret_int (con4 (by dsimp only; omega) (.inr (.inr (by rw [Bool.eq_false_iff]; intro hh; have h1 := (subB_iff _ _).1 hh j hlt; have := HD.out; dsimp only at h1; omega)))).symm, by first | exact below_drewN HZ.out.bel _ | exact below_drewN (below_drewN HZ.out.bel _) _⟩
        · have HD := Lib.hid (amB_t hd.symm)
          clear hd
          go_wp2_with fail
          go_quiet ((go_at_call 59; exact Qt.quiet2 (HCall.out _)))
          go_wp2_with fail
          go_roundw
          case rel => exact ⟨j + 1, by omega, by go_num, (by first | exact Qt.refl _ | exact Qt.drewN _ _ | exact (Qt.drewN _ _).trans (Qt.drewN _ _) | exact ((Qt.drewN _ _).trans (Qt.drewN _ _)).trans (Qt.drewN _ _) | exact Qt.drew _ | exact (Qt.drewN _ _).trans (Qt.drew _)), fun i hi => by
            by_cases e : i = j
            · subst e; exact HD.out
            · exact hch.out i (by omega)⟩
          case measure => simp [intOf]; omega
      · obtain rfl : j = cs.length := by omega
        have hrest := conRest (s := ⟨vars, sites, fields, cons⟩) (c := ⟨5, a, b, f, cs⟩) (by dsimp only; omega) (by rw [HM.out]; have := HA.out; have := HBB.out; dsimp only; omega) (by have := HF.out; dsimp only at *; omega) ((subB_iff _ _).2 hch.out)
        have HRest := Lib.hid hrest
        clear hrest
        clear hch
        go_wp2_with fail
        all_goals first
          | (go_ret
             exact ⟨ret_int (by rw [HRest.out]; (try dsimp only); rw [if_pos (by omega)]), by first | exact below_drewN HZ.out.bel _ | exact below_drewN (below_drewN HZ.out.bel _) _⟩)
          | (go_ret
             have hf0 : f = 0 := by assumption
             subst hf0
             exact ⟨ret_int (by rw [HRest.out]; (try dsimp only); rw [if_pos (by omega)]), by first | exact below_drewN HZ.out.bel _ | exact below_drewN (below_drewN HZ.out.bel _) _⟩)
          | (skip
             go_loopw [8] (fun x wr => ∃ j : Nat, 1 ≤ j ∧ x = .int .i64 j ∧ Qt Z wr ∧ (j ≤ cs.length ∨ j = 1) ∧ Hid (∀ i, i + 1 < j → nth cs i < nth cs (i + 1))) (fun x _ => cs.length + 1 - (intOf x).toNat)
             case atStart => exact ⟨1, by omega, rfl, by exact (by first | exact Qt.refl _ | exact Qt.drewN _ _ | exact (Qt.drewN _ _).trans (Qt.drewN _ _) | exact ((Qt.drewN _ _).trans (Qt.drewN _ _)).trans (Qt.drewN _ _) | exact Qt.drew _ | exact (Qt.drewN _ _).trans (Qt.drew _)), by omega, fun i hi => by omega⟩
             case round =>
               obtain ⟨j, hj, rfl, ⟨nw, rfl⟩, hj2, hch⟩ := hrel
               by_cases hlt : j < cs.length
               · first
                   | (exfalso; omega)
                   | (skip
                      obtain ⟨m, rfl⟩ : ∃ m, j = m + 1 := ⟨j - 1, by omega⟩
                      have hck := hcl (m + 1) hlt
                      have hck2 := hcl m (by omega)
                      have hw : IntKind.i64.wrap (m : Int) = m := IntWalk.i64_in _ (by omega)
                      have hm1 : (m : Int) < (cs.length : Int) := by omega
                      have hm2 : (m : Int) + 1 < (cs.length : Int) := by omega
                      have hm3 : (0 : Int) ≤ (m : Int) := by omega
                      have hm4 : (0 : Int) ≤ (m : Int) + 1 := by omega
                      have hm5 : ((m : Int) + 1).toNat = m + 1 := by omega
                      by_cases h1 : nth cs (m + 1) ≤ nth cs m
                      · have hd : decide (nth cs (m + 1) ≤ nth cs m) = true := by simpa using h1
                        go_wp2_with fail
                        go_quiet (fail)
                        go_wp2_with fail
                        go_ret
                        exact ⟨ret_int (by rw [HRest.out]; (try dsimp only); rw [if_neg (by omega), if_pos (by rw [Bool.eq_false_iff]; intro hh; have := (ascB_iff _).1 hh m hlt; omega)]), by first | exact below_drewN HZ.out.bel _ | exact below_drewN (below_drewN HZ.out.bel _) _⟩
                      · have hd : decide (nth cs (m + 1) ≤ nth cs m) = false := by simpa using h1
                        go_wp2_with fail
                        go_quiet (fail)
                        go_wp2_with fail
                        go_roundw
                        case rel => exact ⟨m + 2, by omega, by go_num, (by first | exact Qt.refl _ | exact Qt.drewN _ _ | exact (Qt.drewN _ _).trans (Qt.drewN _ _) | exact ((Qt.drewN _ _).trans (Qt.drewN _ _)).trans (Qt.drewN _ _) | exact Qt.drew _ | exact (Qt.drewN _ _).trans (Qt.drew _)), by omega, fun i hi => by
                          by_cases e : i = m
                          · subst e; omega
                          · exact hch.out i (by omega)⟩
                        case measure => simp [intOf]; omega
                      )
               · have hasc : ascB cs = true := (ascB_iff _).2 fun i hi => hch.out i (by omega)
                 have HAsc := Lib.hid hasc
                 clear hasc
                 go_wp2_with fail
                 go_ret
                 exact ⟨ret_int (by rw [HRest.out]; (try dsimp only); rw [if_neg (by omega), if_neg (by rw [HAsc.out]; simp)]), below_drewN HZ.out.bel _⟩
             )
end Go.Proofs.Ytkfhopnolflchaa
