/- Contracts of the reference's Has, Next, Valid, in, Within. -/
import Derived.Test.YtingmncemmipeaaBitsC
namespace Go.Proofs.Ytingmncemmipeaa
open Go.RowKit Go.Dfl

theorem mem_hasI {b : List Nat} {x : Int} : x ∈ els b ↔ hasI b x = true := by
  rw [mem_els]
  simp only [hasI, Bool.and_eq_true, decide_eq_true_eq]
  constructor
  · rintro ⟨m, rfl, h⟩; exact ⟨by omega, by simpa using h⟩
  · rintro ⟨h1, h2⟩; exact ⟨x.toNat, by omega, h2⟩


set_option maxHeartbeats 400000 in
theorem RHas_any (v : Value) (b : List Nat) (x : Int) (w : World) (hI : Words w v b) (hb : Wds b) (hlen : b.length ≤ 65536) :
    Calls Try.prog 24 #[v, .int .i64 x] w fun e w' => e = .returned (.bool (hasI b x)) ∧ Below w.heap.size w w' := by
  go_enter Try.func24, Try.ntmps24
  go_wp2_with fail
  refine (RList_any _ b _ hI hb hlen).mono ?_; rintro e w1 ⟨v1, rfl, ho, hbw⟩
  obtain ⟨s, c1, rfl⟩ := ho.shape rfl
  have hI1 := ho.lst
  obtain ⟨a2, c2, he, hm2, hidx, hcell, _⟩ := hI1.out1 sInt
  simp at he
  obtain ⟨rfl, rfl⟩ := he
  have hln : (els b).length ≤ 64 * b.length := elsUp_len _ _
  clear ho hm2
  generalize hL : els b = L at *
  have HL := Lib.hid hL
  clear hL
  go_wp2_with fail
  go_loop [6] (fun i => ∃ k : Nat, k ≤ L.length ∧ i = .int .i64 k ∧ Hid (∀ j, j < k → nth L j ≠ x)) (fun i => L.length - (intOf i).toNat)
  case atStart => exact ⟨0, by omega, rfl, fun j hj => by omega⟩
  case round =>
    obtain ⟨k, hk, rfl, hh⟩ := hrel
    by_cases hlt : k < L.length
    · have hck := hcell k hlt
      clear hcell
      by_cases hx : nth L k = x
      · have hx' : (nth L k == x) = true := by simpa using hx
        have HX := Lib.hid hx
        clear hx
        go_wp2_with fail
        go_ret
        exact ⟨ret_bool (by symm; rw [← mem_hasI, HL.out, ← HX.out]; exact nth_mem _ _ hlt), hbw⟩
      · have hx' : (nth L k == x) = false := by simpa using hx
        have HX := Lib.hid hx
        clear hx
        go_wp2_with fail
        go_round
        case rel => exact ⟨k + 1, by omega, by go_num, fun j hj => by
          by_cases e : j = k
          · subst e; exact HX.out
          · exact hh.out j (by omega)⟩
        case measure => simp [intOf]; omega
    · go_wp2_with fail
      go_ret
      exact ⟨ret_bool (by
        symm; rw [Bool.eq_false_iff, ne_eq, ← mem_hasI, HL.out]
        intro h; obtain ⟨j, hj, e⟩ := mem_nth h; exact hh.out j (by omega) e), hbw⟩

set_option maxHeartbeats 400000 in
theorem RNext_any (v : Value) (b : List Nat) (x : Int) (w : World) (hI : Words w v b) (hb : Wds b) (hlen : b.length ≤ 65536) :
    Calls Try.prog 36 #[v, .int .i64 x] w fun e w' => e = .returned (.int .i64 (nextI b x)) ∧ Below w.heap.size w w' := by
  go_enter Try.func36, Try.ntmps36
  go_wp2_with fail
  refine (RList_any _ b _ hI hb hlen).mono ?_; rintro e w1 ⟨v1, rfl, ho, hbw⟩
  obtain ⟨s, c1, rfl⟩ := ho.shape rfl
  have hI1 := ho.lst
  obtain ⟨a2, c2, he, hm2, hidx, hcell, _⟩ := hI1.out1 sInt
  simp at he
  obtain ⟨rfl, rfl⟩ := he
  have hln : (els b).length ≤ 64 * b.length := elsUp_len _ _
  clear ho hm2
  have hasc := els_asc b
  have hnx : nextI b x = ((els b).find? fun y => decide (x ≤ y)).getD (-1) := rfl
  generalize hL : els b = L at *
  have HL := Lib.hid (And.intro hL (And.intro hasc hnx))
  clear hL hasc hnx
  go_wp2_with fail
  go_loop [6] (fun i => ∃ k : Nat, k ≤ L.length ∧ i = .int .i64 k ∧ Hid (∀ j, j < k → nth L j < x)) (fun i => L.length - (intOf i).toNat)
  case atStart => exact ⟨0, by omega, rfl, fun j hj => by omega⟩
  case round =>
    obtain ⟨k, hk, rfl, hh⟩ := hrel
    by_cases hlt : k < L.length
    · have hck := hcell k hlt
      clear hcell
      by_cases hx : x ≤ nth L k
      · have HX : Hid (nextI b x = nth L k) := by
          show _ = _
          rw [HL.out.2.2, find_asc HL.out.2.1 (nth_mem L k hlt) hx]
          · rfl
          · intro y hy hxy
            obtain ⟨j, hj, rfl⟩ := mem_nth hy
            by_cases e : j < k
            · have := hh.out j e; omega
            · by_cases e2 : j = k
              · subst e2; omega
              · have := HL.out.2.1.nth (by omega : k < j) hj; omega
        go_wp2_with fail
        go_ret
        exact ⟨ret_int (by rw [HX.out]), hbw⟩
      · go_wp2_with fail
        go_round
        case rel => exact ⟨k + 1, by omega, by go_num, fun j hj => by
          by_cases e : j = k
          · subst e; omega
          · exact hh.out j (by omega)⟩
        case measure => simp [intOf]; omega
    · go_wp2_with fail
      go_ret
      exact ⟨ret_int (by
        rw [HL.out.2.2, List.find?_eq_none.2]
        · rfl
        · intro y hy
          obtain ⟨j, hj, rfl⟩ := mem_nth hy
          have := hh.out j (by omega)
          simp; omega), hbw⟩

theorem all_last {L : List Int} (h : Asc L) (h0 : 0 < L.length) : (L.all fun x => decide (x < 65536)) = decide (nth L (L.length - 1) < 65536) := by
  rw [Bool.eq_iff_iff, List.all_eq_true]
  simp only [decide_eq_true_eq]
  constructor
  · intro g; exact g _ (nth_mem _ _ (by omega))
  · intro g y hy
    obtain ⟨j, hj, rfl⟩ := mem_nth hy
    by_cases e : j = L.length - 1
    · rw [e]; exact g
    · have := h.nth (by omega : j < L.length - 1) (by omega); omega

set_option maxHeartbeats 400000 in
theorem Valid_any (v : Value) (b : List Nat) (w : World) (hI : Words w v b) (hb : Wds b) (hlen : b.length ≤ 65536) :
    Calls Try.prog 34 #[v] w fun e w' => e = .returned (.bool (bokB b)) ∧ Below w.heap.size w w' := by
  go_enter Try.func34, Try.ntmps34
  go_wp2_with fail
  refine (RList_any _ b _ hI hb hlen).mono ?_; rintro e w1 ⟨v1, rfl, ho, hbw⟩
  obtain ⟨s, c1, rfl⟩ := ho.shape rfl
  have hI1 := ho.lst
  obtain ⟨a2, c2, he, hm2, hidx, hcell, _⟩ := hI1.out1 sInt
  simp at he
  obtain ⟨rfl, rfl⟩ := he
  have hln : (els b).length ≤ 64 * b.length := elsUp_len _ _
  clear ho hm2
  have hasc := els_asc b
  have hbk : bokB b = (els b).all fun x => decide (x < 65536) := rfl
  generalize hL : els b = L at *
  by_cases h0 : L.length = 0
  · have h0' : ((L.length : Int) == 0) = true := by rw [beq_iff_eq]; omega
    have HX : Hid (bokB b = true) := by show _ = _; rw [hbk, List.eq_nil_of_length_eq_zero h0]; rfl
    clear hL hasc hbk h0
    go_wp2_with fail
    go_ret
    exact ⟨ret_bool (by rw [HX.out]), hbw⟩
  · have h0' : ((L.length : Int) == 0) = false := by rw [beq_eq_false_iff_ne]; omega
    have hck := hcell (L.length - 1) (by omega)
    have hi2 := hidx .i64 ((L.length : Int) - 1) (by omega) (by omega)
    rw [show ((L.length : Int) - 1).toNat = L.length - 1 by omega] at hi2
    have HX : Hid (bokB b = decide (nth L (L.length - 1) < 65536)) := by show _ = _; rw [hbk, all_last hasc (by omega)]
    clear hL hasc hbk hcell hidx h0
    go_wp2_with fail
    go_ret
    exact ⟨ret_bool (by rw [HX.out]), hbw⟩

set_option maxHeartbeats 400000 in
theorem in_any (v : Value) (l : List Int) (x : Int) (w : World) (h : Ints w v l) (hasc : Asc l) (hlen : l.length ≤ 67108864) :
    Calls Try.prog 43 #[v, .int .i64 x] w fun e w' => e = .returned (.bool (decide (x ∈ l))) ∧ Qt w w' := by
  obtain ⟨a, cap, rfl, hm, hidx, hcell, _⟩ := h.out1 sInt
  have HA := Lib.hid hasc
  clear h hasc
  go_enter Try.func43, Try.ntmps43
  go_wp2_with fail
  go_loop [5, 6, 7] (fun lo hi _ => ∃ p q : Nat, p ≤ q ∧ q ≤ l.length ∧ lo = .int .i64 p ∧ hi = .int .i64 q ∧ Hid ((∀ j, j < p → nth l j < x) ∧ ∀ j, q ≤ j → j < l.length → x ≤ nth l j)) (fun lo hi _ => (intOf hi).toNat - (intOf lo).toNat)
  case atStart => exact ⟨0, l.length, by omega, by omega, rfl, rfl, fun j hj => by omega, fun j h1 h2 => by omega⟩
  case round =>
    obtain ⟨p, q, hpq, hq, rfl, rfl, hh⟩ := hrel
    by_cases hlt : p < q
    · have hmid : (p + q) / 2 < l.length := by omega
      have hck := hcell ((p + q) / 2) hmid
      have hi2 := hidx .i64 (((p : Int) + q) / 2) (by omega) (by omega)
      rw [show (((p : Int) + q) / 2).toNat = (p + q) / 2 by omega] at hi2
      clear hcell
      by_cases hx : nth l ((p + q) / 2) < x
      · go_wp2_with fail
        go_round
        case rel => exact ⟨(p + q) / 2 + 1, q, by omega, hq, by go_num, rfl, fun j hj => by
          by_cases e : j = (p + q) / 2
          · subst e; exact hx
          · have := HA.out.nth (by omega : j < (p + q) / 2) hmid; omega, hh.out.2⟩
        case measure => simp [intOf]; omega
      · go_wp2_with fail
        go_round
        case rel => exact ⟨p, (p + q) / 2, by omega, by omega, rfl, by go_num, hh.out.1, fun j h1 h2 => by
          by_cases e : j = (p + q) / 2
          · subst e; omega
          · have := HA.out.nth (by omega : (p + q) / 2 < j) h2; omega⟩
        case measure => simp [intOf]; omega
    · obtain rfl : p = q := by omega
      by_cases hlp : p < l.length
      · have hck := hcell p hlp
        clear hcell
        have HX : Hid (decide (x ∈ l) = (nth l p == x)) := by
          show _ = _
          rw [Bool.eq_iff_iff, decide_eq_true_eq, beq_iff_eq]
          constructor
          · intro hm
            obtain ⟨j, hj, rfl⟩ := mem_nth hm
            by_cases e : j < p
            · have := hh.out.1 j e; omega
            · by_cases e2 : j = p
              · rw [e2]
              · have a1 := HA.out.nth (by omega : p < j) hj
                have a2 := hh.out.2 p (by omega) hlp; omega
          · intro e; rw [← e]; exact nth_mem _ _ hlp
        go_wp2_with fail
        go_ret
        exact ⟨ret_bool (by rw [HX.out]), Qt.refl _⟩
      · have hlp' : decide ((p : Int) < (l.length : Int)) = false := by simp; omega
        have HX : Hid (decide (x ∈ l) = false) := by
          show _ = _
          rw [Bool.eq_false_iff, ne_eq, decide_eq_true_eq]
          intro hm
          obtain ⟨j, hj, rfl⟩ := mem_nth hm
          have := hh.out.1 j (by omega); omega
        clear hcell
        go_wp2_with fail
        go_ret
        exact ⟨ret_bool (by rw [HX.out]), Qt.refl _⟩

set_option maxHeartbeats 400000 in
theorem RWithin_any (v u : Value) (b c : List Nat) (w : World) (hI : Words w v b) (hI' : Words w u c) (hb : Wds b) (hc : Wds c) (hlen : b.length ≤ 65536) (hlen' : c.length ≤ 65536) :
    Calls Try.prog 37 #[v, u] w fun e w' => e = .returned (.bool (withinB b c)) ∧ Below w.heap.size w w' := by
  have HW := Lib.hid (And.intro hc hI')
  obtain ⟨a', cap', rfl, -⟩ := hI'.out1 sU64
  clear hI' hc
  go_enter Try.func37, Try.ntmps37
  go_wp2_with fail
  refine (RList_any _ b _ hI hb hlen).mono ?_; rintro e w1 ⟨v1, rfl, ho, hbw⟩
  obtain ⟨s, c1, rfl⟩ := ho.shape rfl
  have hI1 := ho.lst
  obtain ⟨a2, c2, he, hm2, hidx, hcell, _⟩ := hI1.out1 sInt
  simp at he
  obtain ⟨rfl, rfl⟩ := he
  have hln : (els b).length ≤ 64 * b.length := elsUp_len _ _
  go_wp2_with fail
  refine (RList_any _ c _ (HW.out.2.below hbw) HW.out.1 hlen').mono ?_; rintro e w2 ⟨v2, rfl, ho2, hbw2⟩
  have hJ := ho2.lst
  obtain ⟨s2, c3, rfl⟩ := ho2.shape rfl
  have hb2 : Below w.heap.size w w2 := hbw.trans (hbw2.mono hbw.size)
  have hI2 := hI1.below hbw2
  obtain ⟨a3, c4, he, hm3, hidx2, hcell2, _⟩ := hI2.out1 sInt
  simp at he
  obtain ⟨rfl, rfl⟩ := he
  have hasc := els_asc c
  have hln2 : (els c).length ≤ 64 * c.length := elsUp_len _ _
  have hwb : withinB b c = (els b).all fun x => decide (x ∈ els c) := rfl
  generalize hL : els b = L at *
  generalize hM : els c = M at *
  have HL := Lib.hid (And.intro hwb hasc)
  clear ho ho2 hm2 hm3 hbw hbw2 hcell hidx hL hM hI1 hI2 hwb hasc
  go_wp2_with fail
  go_loopw [7] (fun i wr => ∃ k : Nat, k ≤ L.length ∧ i = .int .i64 k ∧ Qt w2 wr ∧ Hid (∀ j, j < k → nth L j ∈ M)) (fun i _ => L.length - (intOf i).toNat)
  case atStart => exact ⟨0, by omega, rfl, Qt.refl _, fun j hj => by omega⟩
  case round =>
    obtain ⟨k, hk, rfl, ⟨nw, rfl⟩, hh⟩ := hrel
    by_cases hlt : k < L.length
    · have hck := hcell2 k hlt
      clear hcell2
      by_cases hx : nth L k ∈ M
      · have hx' : decide (nth L k ∈ M) = true := by simpa using hx
        have HX := Lib.hid hx
        clear hx
        go_wp2_with fail
        refine (in_any _ M _ _ (hJ.qt (by first | exact Qt.refl _ | exact Qt.drewN _ _ | exact (Qt.drewN _ _).trans (Qt.drewN _ _) | exact ((Qt.drewN _ _).trans (Qt.drewN _ _)).trans (Qt.drewN _ _) | exact Qt.drew _ | exact (Qt.drewN _ _).trans (Qt.drew _))) HL.out.2 (by omega)).mono ?_; rintro e w' ⟨rfl, n1, rfl⟩
        go_wp2_with fail
        go_roundw
        case rel => exact ⟨k + 1, by omega, by go_num, (by first | exact Qt.refl _ | exact Qt.drewN _ _ | exact (Qt.drewN _ _).trans (Qt.drewN _ _) | exact ((Qt.drewN _ _).trans (Qt.drewN _ _)).trans (Qt.drewN _ _) | exact Qt.drew _ | exact (Qt.drewN _ _).trans (Qt.drew _)), fun j hj => by
          by_cases e : j = k
          · subst e; exact HX.out
          · exact hh.out j (by omega)⟩
        case measure => simp [intOf]; omega
      · have hx' : decide (nth L k ∈ M) = false := by simpa using hx
        have HX : Hid (withinB b c = false) := by
          show _ = _
          rw [HL.out.1, Bool.eq_false_iff, ne_eq, List.all_eq_true]
          intro g; exact hx (by simpa using g _ (nth_mem L k hlt))
        clear hx
        go_wp2_with fail
        refine (in_any _ M _ _ (hJ.qt (by first | exact Qt.refl _ | exact Qt.drewN _ _ | exact (Qt.drewN _ _).trans (Qt.drewN _ _) | exact ((Qt.drewN _ _).trans (Qt.drewN _ _)).trans (Qt.drewN _ _) | exact Qt.drew _ | exact (Qt.drewN _ _).trans (Qt.drew _))) HL.out.2 (by omega)).mono ?_; rintro e w' ⟨rfl, n1, rfl⟩
        go_wp2_with fail
        go_ret
        exact ⟨ret_bool (by rw [HX.out]), below_drewN hb2 _⟩
    · have HX : Hid (withinB b c = true) := by
        show _ = _
        rw [HL.out.1, List.all_eq_true]
        intro y hy
        obtain ⟨j, hj, rfl⟩ := mem_nth hy
        simpa using hh.out j (by omega)
      go_wp2_with fail
      go_ret
      exact ⟨ret_bool (by rw [HX.out]), below_drewN hb2 _⟩

end Go.Proofs.Ytingmncemmipeaa
