/- Contracts of bits.Count, Check, Within, Same, Next. -/
import Derived.Test.YtingmncemmipeaaBitsQ
import Derived.Test.YtingmncemmipeaaBitsB
namespace Go.Proofs.Ytingmncemmipeaa
open Go.RowKit Go.Dfl

set_option maxHeartbeats 400000 in
theorem Count_any (v : Value) (b : List Nat) (w : World) (h : Words w v b) (hb : Wds b) (hlen : b.length ≤ 65536) :
    Calls Try.prog 18 #[v] w fun e w' => e = .returned (.int .i64 (els b).length) ∧ Qt w w' := by
  obtain ⟨a, cap, rfl, hm, hidx, hcell, hblk⟩ := h.out1 sBits
  have HB := Lib.hid hb
  clear h hb
  go_enter Try.func18, Try.ntmps18
  go_wp2
  go_loop [3, 4, 5, 8] (fun n _ _ i => ∃ k c : Nat, k ≤ b.length ∧ i = .int .i64 k ∧ n = .int .i64 (c : Int) ∧ c ≤ k * 64 ∧ Hid (c = (elsUp b (k * 64)).length)) (fun _ _ _ i => b.length - (intOf i).toNat)
  case atStart => exact ⟨0, 0, by omega, rfl, rfl, by omega, rfl⟩
  case round =>
    obtain ⟨k, c, hk, rfl, rfl, hck, hh⟩ := hrel
    by_cases hlt : k < b.length
    · have hc : w.cell? ⟨blk a, ofs a + k, none⟩ = some (.int .u64 ((nth b k : Nat) : Int)) := hcell k hlt
      clear hcell
      go_wp2
      go_loop [3, 5] (fun n x => ∃ d m : Nat, n = .int .i64 (d : Int) ∧ x = .int .u64 (m : Int) ∧ d ≤ (k + 1) * 64 ∧ Hid (W64 m ∧ d + cntW m = (elsUp b ((k + 1) * 64)).length)) (fun _ x => (intOf x).toNat)
      case atStart => exact ⟨c, nth b k, rfl, rfl, by omega, HB.out k, by rw [elsUp_word, hh.out]⟩
      case round =>
        clear hc hh
        obtain ⟨d, m, rfl, rfl, hd, hh⟩ := hrel
        by_cases h0 : m = 0
        · have e1 : d + 0 = (elsUp b ((k + 1) * 64)).length := by have := hh.out.2; rw [h0, cntW_zero] at this; exact this
          have E1 := Lib.hid e1
          subst h0
          clear e1
          go_wp2
          go_round
          case rel => exact ⟨k + 1, d, by omega, by go_num, rfl, hd, E1.out⟩
          case measure => simp [intOf]; omega
        · have h0' : (((m : Nat) : Int) != 0) = true := by simp; omega
          have hm1 : 1 ≤ m := by omega
          have hle : (elsUp b ((k + 1) * 64)).length ≤ (k + 1) * 64 := elsUp_len _ _
          have hcl := cntW_clear hh.out.1 h0
          have hlt2 := clear_lt h0
          have hand : bits BinOp.and IntKind.u64 (m : Int) (IntKind.u64.wrap ((m : Int) - 1)) = ((m &&& (m - 1) : Nat) : Int) := by
            have hw : IntKind.u64.wrap ((m : Int) - 1) = (m : Int) - 1 := by
              have := hh.out.1; rw [IntKind.wrap_u64]; unfold W64 at this; omega
            rw [hw]
            have := and_eq m (m - 1) hh.out.1 (by have := hh.out.1; unfold W64 at *; omega)
            rw [show ((m - 1 : Nat) : Int) = (m : Int) - 1 by omega] at this; exact this
          have hd2 : d + 1 ≤ (k + 1) * 64 := by have := hh.out.2; omega
          have HH := Lib.hid (And.intro hcl (And.intro hlt2 (And.intro (and_w m (m - 1) hh.out.1) (And.intro hh.out.2 hand))))
          clear hcl hlt2 h0 hle hand
          go_wp2
          go_round
          case rel => exact ⟨d + 1, m &&& (m - 1), by go_num, congrArg (Value.int .u64) HH.out.2.2.2.2, hd2, HH.out.2.2.1, by
            have a1 := HH.out.1; have a2 := HH.out.2.2.2.1; omega⟩
          case measure => simp only [intOf]; rw [HH.out.2.2.2.2]; have := HH.out.2.1; omega
    · obtain rfl : k = b.length := by omega
      go_wp2
      go_ret
      exact ⟨ret_int (by rw [hh.out, els, Nat.mul_comm]), Qt.refl _⟩

/-- All elements are small. -/
def bokB (b : List Nat) : Bool := (els b).all fun x => decide (x < 65536)
theorem bok_true {b : List Nat} (hb : Wds b) (h : ∀ i, 1024 ≤ i → nth b i = 0) : bokB b = true := by
  unfold bokB
  rw [List.all_eq_true]
  intro x hx
  obtain ⟨m, rfl, hm⟩ := mem_els.1 hx
  simp only [decide_eq_true_eq]
  by_cases e : m < 65536
  · omega
  · rw [hasN, h (m / 64) (by omega)] at hm; simp at hm
theorem bok_false {b : List Nat} (hb : Wds b) {i : Nat} (hi : 1024 ≤ i) (h : nth b i ≠ 0) : bokB b = false := by
  obtain ⟨k, h1, h2, -⟩ := low_ex (hb i) h
  rw [Bool.eq_false_iff]
  intro hh
  unfold bokB at hh
  rw [List.all_eq_true] at hh
  have := hh ((i * 64 + k : Nat) : Int) (mem_els.2 ⟨_, rfl, by rw [hasN_at _ _ _ h1, h2]⟩)
  simp only [decide_eq_true_eq] at this
  omega

def chkB (b : List Nat) : Int := if bokB b = true then 0 else 4
set_option maxHeartbeats 400000 in
theorem Check_any (v : Value) (b : List Nat) (w : World) (h : Words w v b) (hb : Wds b) :
    Calls Try.prog 33 #[v] w fun e w' => e = .returned (.int .i64 (chkB b)) ∧ Qt w w' := by
  obtain ⟨a, cap, rfl, hm, hidx, hcell, hblk⟩ := h.out1 sBits
  have HB := Lib.hid hb
  clear h hb
  go_enter Try.func33, Try.ntmps33
  go_wp2
  go_loop [3, 6] (fun _ i => ∃ k : Nat, k ≤ b.length ∧ i = .int .i64 k ∧ Hid (∀ j, 1024 ≤ j → j < k → nth b j = 0)) (fun _ i => b.length - (intOf i).toNat)
  case atStart => exact ⟨0, by omega, rfl, fun j _ hj => by omega⟩
  case round =>
    obtain ⟨k, hk, rfl, hh⟩ := hrel
    by_cases hlt : k < b.length
    · have hc : w.cell? ⟨blk a, ofs a + k, none⟩ = some (.int .u64 ((nth b k : Nat) : Int)) := hcell k hlt
      clear hcell
      by_cases hge : 1024 ≤ k
      · by_cases h0 : nth b k = 0
        · have h0' : (((nth b k : Nat) : Int) != 0) = false := by simp [h0]
          have H0 := Lib.hid h0
          clear h0
          go_wp2
          go_round
          case rel => exact ⟨k + 1, by omega, by go_num, fun j hj1 hj2 => by
            by_cases e : j = k
            · subst e; exact H0.out
            · exact hh.out j hj1 (by omega)⟩
          case measure => simp [intOf]; omega
        · have h0' : (((nth b k : Nat) : Int) != 0) = true := by simp; omega
          have H0 := Lib.hid (bok_false HB.out hge h0)
          clear h0
          go_wp2
          go_ret
          exact ⟨ret_int (by rw [chkB, H0.out]; rfl), Qt.refl _⟩
      · have hge' : decide ((1024 : Int) ≤ (k : Int)) = false := by simp; omega
        go_wp2
        go_round
        case rel => exact ⟨k + 1, by omega, by go_num, fun j hj1 hj2 => hh.out j hj1 (by omega)⟩
        case measure => simp [intOf]; omega
    · have hbk : bokB b = true := bok_true HB.out fun i hi => by
        by_cases e : i < k
        · exact hh.out i hi e
        · exact nth_out _ _ (by omega)
      have HK := Lib.hid hbk
      clear hbk
      go_wp2
      go_ret
      exact ⟨ret_int (by rw [chkB, HK.out]; rfl), Qt.refl _⟩

def withinB (a b : List Nat) : Bool := (els a).all fun x => decide (x ∈ els b)
theorem within_iff {a b : List Nat} : withinB a b = true ↔ ∀ x, hasN a x = true → hasN b x = true := by
  unfold withinB
  rw [List.all_eq_true]
  constructor
  · intro h x hx
    have := h x (mem_els.2 ⟨x, rfl, hx⟩)
    simp only [decide_eq_true_eq, mem_els] at this
    obtain ⟨m, e, hm⟩ := this
    rw [show x = m by omega]; exact hm
  · intro h x hx
    obtain ⟨m, rfl, hm⟩ := mem_els.1 hx
    simp only [decide_eq_true_eq, mem_els]
    exact ⟨m, rfl, h m hm⟩
theorem anot_zero {a b : Nat} (ha : W64 a) (hb : W64 b) : anot a b = 0 ↔ ∀ k, a.testBit k = true → b.testBit k = true := by
  constructor
  · intro h k hk
    have := anot_bit a b ha hb k
    rw [h, hk] at this
    simpa using this
  · intro h
    apply Nat.eq_of_testBit_eq
    intro k
    rw [anot_bit a b ha hb k]
    by_cases e : a.testBit k = true
    · simp [e, h k e]
    · simp [e]
theorem within_true {a b : List Nat} (ha : Wds a) (hb : Wds b) (h : ∀ i, i < a.length → anot (nth a i) (nth b i) = 0) : withinB a b = true := by
  rw [within_iff]
  intro x hx
  by_cases e : x / 64 < a.length
  · exact (anot_zero (ha _) (hb _)).1 (h _ e) _ hx
  · rw [hasN_out a x (by omega)] at hx; simp at hx
theorem within_false {a b : List Nat} (ha : Wds a) (hb : Wds b) {i : Nat} (h : anot (nth a i) (nth b i) ≠ 0) : withinB a b = false := by
  rw [Bool.eq_false_iff, ne_eq, within_iff]
  intro hh
  apply h
  rw [anot_zero (ha _) (hb _)]
  intro k hk
  have hk64 : k < 64 := by
    by_cases e : k < 64
    · exact e
    · rw [(ha i).bit k (by omega)] at hk; simp at hk
  have := hh (i * 64 + k) (by rw [hasN_at _ _ _ hk64, hk])
  rwa [hasN_at _ _ _ hk64] at this

set_option maxHeartbeats 400000 in
theorem Within_any (v u : Value) (b c : List Nat) (w : World) (h : Words w v b) (h' : Words w u c) (hb : Wds b) (hc : Wds c) :
    Calls Try.prog 31 #[v, u] w fun e w' => e = .returned (.bool (withinB b c)) ∧ Qt w w' := by
  have hI' := h'
  obtain ⟨a, cap, rfl, hm, hidx, hcell, hblk⟩ := h.out1 sBits
  obtain ⟨a', cap', rfl, -⟩ := h'.out1 sBits
  have HB := Lib.hid (And.intro hb hc)
  clear h hb hc h'
  go_enter Try.func31, Try.ntmps31
  go_wp2
  go_loopw [5, 8] (fun _ i wr => ∃ k : Nat, k ≤ b.length ∧ i = .int .i64 k ∧ Qt w wr ∧ Hid (∀ j, j < k → anot (nth b j) (nth c j) = 0)) (fun _ i _ => b.length - (intOf i).toNat)
  case atStart => exact ⟨0, by omega, rfl, Qt.refl _, fun j hj => by omega⟩
  case round =>
    obtain ⟨k, hk, rfl, ⟨nw, rfl⟩, hh⟩ := hrel
    by_cases hlt : k < b.length
    · have hcb : w.cell? ⟨blk a, ofs a + k, none⟩ = some (.int .u64 ((nth b k : Nat) : Int)) := hcell k hlt
      have han := anot_eq (nth b k) (nth c k) (HB.out.1 k) (HB.out.2 k)
      clear hcell
      by_cases h0 : anot (nth b k) (nth c k) = 0
      · have h0' : (bits BinOp.andNot IntKind.u64 ((nth b k : Nat) : Int) ((nth c k : Nat) : Int) != 0) = false := by rw [han, h0]; rfl
        have H0 := Lib.hid h0
        clear h0 han
        go_wp2
        go_quiet ((go_at_call 41; exact Qt.quiet2 (word_any _ c _ _ (hI'.qt (by first | exact Qt.refl _ | exact Qt.drewN _ _ | exact (Qt.drewN _ _).trans (Qt.drewN _ _) | exact ((Qt.drewN _ _).trans (Qt.drewN _ _)).trans (Qt.drewN _ _) | exact Qt.drew _ | exact (Qt.drewN _ _).trans (Qt.drew _))) (by omega))))
        go_wp2
        go_roundw
        case rel => exact ⟨k + 1, by omega, by go_num, (by first | exact Qt.refl _ | exact Qt.drewN _ _ | exact (Qt.drewN _ _).trans (Qt.drewN _ _) | exact ((Qt.drewN _ _).trans (Qt.drewN _ _)).trans (Qt.drewN _ _) | exact Qt.drew _ | exact (Qt.drewN _ _).trans (Qt.drew _)), fun j hj => by
          by_cases e : j = k
          · subst e; exact H0.out
          · exact hh.out j (by omega)⟩
        case measure => simp [intOf]; omega
      · have h0' : (bits BinOp.andNot IntKind.u64 ((nth b k : Nat) : Int) ((nth c k : Nat) : Int) != 0) = true := by rw [han]; simp; omega
        have H0 := Lib.hid (within_false HB.out.1 HB.out.2 h0)
        clear h0 han
        go_wp2
        go_quiet ((go_at_call 41; exact Qt.quiet2 (word_any _ c _ _ (hI'.qt (by first | exact Qt.refl _ | exact Qt.drewN _ _ | exact (Qt.drewN _ _).trans (Qt.drewN _ _) | exact ((Qt.drewN _ _).trans (Qt.drewN _ _)).trans (Qt.drewN _ _) | exact Qt.drew _ | exact (Qt.drewN _ _).trans (Qt.drew _))) (by omega))))
        go_wp2
        go_ret
        exact ⟨ret_bool (by rw [H0.out]), (by first | exact Qt.refl _ | exact Qt.drewN _ _ | exact (Qt.drewN _ _).trans (Qt.drewN _ _) | exact ((Qt.drewN _ _).trans (Qt.drewN _ _)).trans (Qt.drewN _ _) | exact Qt.drew _ | exact (Qt.drewN _ _).trans (Qt.drew _))⟩
    · go_wp2
      go_ret
      exact ⟨ret_bool (by rw [within_true HB.out.1 HB.out.2 fun i hi => hh.out i (by omega)]), (by first | exact Qt.refl _ | exact Qt.drewN _ _ | exact (Qt.drewN _ _).trans (Qt.drewN _ _) | exact ((Qt.drewN _ _).trans (Qt.drewN _ _)).trans (Qt.drewN _ _) | exact Qt.drew _ | exact (Qt.drewN _ _).trans (Qt.drew _))⟩

set_option maxHeartbeats 400000 in
theorem Same_any (v u : Value) (b c : List Nat) (w : World) (h : Words w v b) (h' : Words w u c) (hb : Wds b) (hc : Wds c) :
    Calls Try.prog 32 #[v, u] w fun e w' => e = .returned (.bool (withinB b c && withinB c b)) ∧ Qt w w' := by
  cases h1 : withinB b c
  · go_enter Try.func32, Try.ntmps32
    go_wp2_with fail
    refine (Within_any _ _ b c _ h h' hb hc).mono ?_; rintro e w' ⟨rfl, n1, rfl⟩
    go_wp2_with fail
    go_ret
    exact ⟨rfl, (by first | exact Qt.refl _ | exact Qt.drewN _ _ | exact (Qt.drewN _ _).trans (Qt.drewN _ _) | exact ((Qt.drewN _ _).trans (Qt.drewN _ _)).trans (Qt.drewN _ _) | exact Qt.drew _ | exact (Qt.drewN _ _).trans (Qt.drew _))⟩
  · go_enter Try.func32, Try.ntmps32
    go_wp2_with fail
    refine (Within_any _ _ b c _ h h' hb hc).mono ?_; rintro e w' ⟨rfl, n1, rfl⟩
    go_wp2_with fail
    refine (Within_any _ _ c b _ (h'.qt (by first | exact Qt.refl _ | exact Qt.drewN _ _ | exact (Qt.drewN _ _).trans (Qt.drewN _ _) | exact ((Qt.drewN _ _).trans (Qt.drewN _ _)).trans (Qt.drewN _ _) | exact Qt.drew _ | exact (Qt.drewN _ _).trans (Qt.drew _))) (h.qt (by first | exact Qt.refl _ | exact Qt.drewN _ _ | exact (Qt.drewN _ _).trans (Qt.drewN _ _) | exact ((Qt.drewN _ _).trans (Qt.drewN _ _)).trans (Qt.drewN _ _) | exact Qt.drew _ | exact (Qt.drewN _ _).trans (Qt.drew _))) hc hb).mono ?_; rintro e w' ⟨rfl, n2, rfl⟩
    go_wp2_with fail
    go_ret
    exact ⟨ret_bool (by simp), (by first | exact Qt.refl _ | exact Qt.drewN _ _ | exact (Qt.drewN _ _).trans (Qt.drewN _ _) | exact ((Qt.drewN _ _).trans (Qt.drewN _ _)).trans (Qt.drewN _ _) | exact Qt.drew _ | exact (Qt.drewN _ _).trans (Qt.drew _))⟩

/-- The least element that is at least x, or -1. -/
def nextI (b : List Nat) (x : Int) : Int := ((els b).find? fun y => decide (x ≤ y)).getD (-1)
theorem find_asc {l : List Int} (hl : Asc l) {x r : Int} (hr : r ∈ l) (hx : x ≤ r) (hn : ∀ y ∈ l, x ≤ y → r ≤ y) : l.find? (fun y => decide (x ≤ y)) = some r := by
  induction l with
  | nil => simp at hr
  | cons z l ih =>
    unfold Asc at hl
    rw [List.pairwise_cons] at hl
    by_cases h : x ≤ z
    · have : r ≤ z := hn z (by simp) h
      have : r = z := by
        rcases List.mem_cons.1 hr with e | e
        · exact e
        · have := hl.1 r e; omega
      subst this
      simp [h]
    · rw [List.find?_cons_of_neg (by simpa using h)]
      refine ih hl.2 ?_ fun y hy => hn y (by simp [hy])
      rcases List.mem_cons.1 hr with e | e
      · omega
      · exact e
theorem next_of {b : List Nat} {x : Int} {r : Nat} (hr : hasN b r = true) (hx : x ≤ r) (hn : ∀ y : Nat, x ≤ y → y < r → hasN b y = false) : nextI b x = r := by
  unfold nextI
  rw [find_asc (els_asc b) (r := (r : Int)) (mem_els.2 ⟨r, rfl, hr⟩) hx]
  · rfl
  · intro y hy hxy
    obtain ⟨m, rfl, hm⟩ := mem_els.1 hy
    by_cases e : m < r
    · rw [hn m hxy e] at hm; simp at hm
    · omega
theorem next_none {b : List Nat} {x : Int} (hn : ∀ y : Nat, x ≤ y → hasN b y = false) : nextI b x = -1 := by
  unfold nextI
  have : (els b).find? (fun y => decide (x ≤ y)) = none := by
    rw [List.find?_eq_none]
    intro y hy
    obtain ⟨m, rfl, hm⟩ := mem_els.1 hy
    simp only [decide_eq_true_eq]
    intro h
    rw [hn m h] at hm; simp at hm
  rw [this]; rfl
theorem next_neg {b : List Nat} {x : Int} (h : x < 0) : nextI b x = nextI b 0 := by
  unfold nextI
  have : ∀ l : List Int, (∀ y ∈ l, 0 ≤ y) → l.find? (fun y => decide (x ≤ y)) = l.find? fun y => decide (0 ≤ y) := by
    intro l hl
    cases l with
    | nil => rfl
    | cons z l => have := hl z (by simp); simp [this, show x ≤ z by omega]
  rw [this]
  intro y hy
  obtain ⟨m, rfl, -⟩ := mem_els.1 hy
  omega

theorem lowest_int (x : Int) (n : Nat) (w : World) (hx : x = n) (hn : W64 n) (h0 : n ≠ 0) :
    Calls Try.prog 40 #[.int .u64 x] w fun e w' => e = .returned (.int .i64 (low n)) ∧ Qt w w' := by
  subst hx; exact lowest_any n w hn h0

theorem shr_bit (n j k : Nat) : (n / 2 ^ j).testBit k = n.testBit (j + k) := by
  rw [← Nat.shiftRight_eq_div_pow, Nat.testBit_shiftRight]

set_option maxHeartbeats 800000 in
theorem Next_nat (v : Value) (b : List Nat) (x : Int) (m : Nat) (hx : mx x 0 = m) (w : World) (h : Words w v b) (hb : Wds b) (hlen : b.length ≤ 65536) (hm9 : m ≤ 9223372036854775807) :
    Calls Try.prog 19 #[v, .int .i64 x] w fun e w' => e = .returned (.int .i64 (nextI b m)) ∧ Qt w w' := by
  obtain ⟨a, cap, rfl, hm, hidx, hcell, hblk⟩ := h.out1 sBits
  have HB := Lib.hid hb
  have hmx := run_mx Try.prog
  have hmx2 : ∀ (w : World) (ts : Array TypeId) (t : TypeId), (Builtin.max_ ts t #[.int .i64 x, .int .i64 0]).run Try.prog w = .ok (.int .i64 (m : Int)) w := fun w ts t => by rw [hmx, hx]
  clear h hb hmx hx
  by_cases hlt : m / 64 < b.length
  · have hc : w.cell? ⟨blk a, ofs a + m / 64, none⟩ = some (.int .u64 ((nth b (m / 64) : Nat) : Int)) := hcell (m / 64) hlt
    have hW : W64 (nth b (m / 64) / 2 ^ (m % 64)) := by
      have := HB.out (m / 64); unfold W64 at *; exact Nat.lt_of_le_of_lt (Nat.div_le_self _ _) this
    have hi0 := hidx .i64 ((m : Int) / 64) (by omega) (by omega)
    by_cases h0 : nth b (m / 64) / 2 ^ (m % 64) = 0
    · have h0' : ((((nth b (m / 64) : Nat) : Int) / 2 ^ (m % 64)) != 0) = false := by rw [div_nat, h0]; rfl
      have hz : ∀ y, m ≤ y → y < (m / 64 + 1) * 64 → hasN b y = false := fun y h1 h2 => by
        have := shr_bit (nth b (m / 64)) (m % 64) (y - m)
        rw [h0, Nat.zero_testBit] at this
        unfold hasN
        rw [show y / 64 = m / 64 by omega, show y % 64 = m % 64 + (y - m) by omega]
        exact this.symm
      have HZ := Lib.hid hz
      have HC := Lib.hid (And.intro hcell hidx)
      clear hz h0 hcell hidx
      go_enter Try.func19, Try.ntmps19
      go_wp2_with fail
      go_loop [7, 8, 36] (fun _ _ i => ∃ k : Nat, m / 64 + 1 + k ≤ b.length ∧ i = .int .i64 k ∧ Hid (∀ y, m ≤ y → y < (m / 64 + 1 + k) * 64 → hasN b y = false)) (fun _ _ i => b.length - (intOf i).toNat)
      case atStart => exact ⟨0, by omega, rfl, HZ.out⟩
      case round =>
        clear HZ hc hi0
        obtain ⟨k, hk, rfl, hh⟩ := hrel
        by_cases hlk : m / 64 + 1 + k < b.length
        · have hc : w.cell? ⟨blk a, ofs a + (m / 64 + 1 + k), none⟩ = some (.int .u64 ((nth b (m / 64 + 1 + k) : Nat) : Int)) := HC.out.1 _ hlk
          have hi1 := HC.out.2 .i64 ((m : Int) / 64 + 1 + k) (by omega) (by omega)
          rw [show ((m : Int) / 64 + 1 + k).toNat = m / 64 + 1 + k by omega] at hi1
          have hW2 := HB.out (m / 64 + 1 + k)
          by_cases hz : nth b (m / 64 + 1 + k) = 0
          · have hz' : (((nth b (m / 64 + 1 + k) : Nat) : Int) != 0) = false := by rw [hz]; rfl
            have HZ2 : Hid (∀ y, m ≤ y → y < (m / 64 + 1 + (k + 1)) * 64 → hasN b y = false) := fun y h1 h2 => by
              by_cases e : y < (m / 64 + 1 + k) * 64
              · exact hh.out y h1 e
              · unfold hasN; rw [show y / 64 = m / 64 + 1 + k by omega, hz]; simp
            clear hz
            go_wp2_with fail
            go_round
            case rel => exact ⟨k + 1, by omega, by go_num, HZ2.out⟩
            case measure => simp [intOf]; omega
          · have hz' : (((nth b (m / 64 + 1 + k) : Nat) : Int) != 0) = true := by simp; omega
            have hls := low_spec hW2 hz
            have HF : Hid (nextI b m = ((m / 64 + 1 + k) * 64 + low (nth b (m / 64 + 1 + k)) : Nat)) := next_of (by rw [hasN_at _ _ _ hls.1]; exact hls.2.1) (by omega) fun y h1 h2 => by
              by_cases e : y < (m / 64 + 1 + k) * 64
              · exact hh.out y (by omega) e
              · have e1 : y = (m / 64 + 1 + k) * 64 + (y - (m / 64 + 1 + k) * 64) := by omega
                rw [e1, hasN_at _ _ _ (by have := hls.1; omega)]
                exact hls.2.2 _ (by omega)
            have hl64 := hls.1
            have HZ3 := Lib.hid (And.intro hW2 hz)
            clear hls hz hW2
            go_wp2_with fail
            refine (lowest_int _ _ _ rfl HZ3.out.1 HZ3.out.2).mono ?_; rintro e w' ⟨rfl, n1, rfl⟩
            go_wp2_with fail
            go_ret
            exact ⟨ret_int (by rw [HF.out]; omega), (by first | exact Qt.refl _ | exact Qt.drewN _ _ | exact (Qt.drewN _ _).trans (Qt.drewN _ _) | exact ((Qt.drewN _ _).trans (Qt.drewN _ _)).trans (Qt.drewN _ _) | exact Qt.drew _ | exact (Qt.drewN _ _).trans (Qt.drew _))⟩
        · have HF : Hid (nextI b m = -1) := next_none fun y h1 => by
            by_cases e : y < (m / 64 + 1 + k) * 64
            · exact hh.out y (by omega) e
            · exact hasN_out _ _ (by omega)
          go_wp2_with fail
          go_ret
          exact ⟨ret_int (by rw [HF.out]), Qt.refl _⟩
    · have h0' : ((((nth b (m / 64) : Nat) : Int) / 2 ^ (m % 64)) != 0) = true := by rw [div_nat, bne_iff_ne, ne_eq, Int.natCast_eq_zero]; exact h0
      have hls := low_spec hW h0
      have hl64 : low (nth b (m / 64) / 2 ^ (m % 64)) < 64 := hls.1
      have hin : m % 64 + low (nth b (m / 64) / 2 ^ (m % 64)) < 64 := by
        by_cases e : m % 64 + low (nth b (m / 64) / 2 ^ (m % 64)) < 64
        · exact e
        · have := hls.2.1
          rw [shr_bit, (HB.out (m / 64)).bit _ (by omega)] at this; simp at this
      have HF : Hid (nextI b m = (m + low (nth b (m / 64) / 2 ^ (m % 64)) : Nat)) := next_of (by
          unfold hasN
          rw [show (m + low (nth b (m / 64) / 2 ^ (m % 64))) / 64 = m / 64 by omega, show (m + low (nth b (m / 64) / 2 ^ (m % 64))) % 64 = m % 64 + low (nth b (m / 64) / 2 ^ (m % 64)) by omega, ← shr_bit]
          exact hls.2.1) (by omega) fun y h1 h2 => by
        unfold hasN
        rw [show y / 64 = m / 64 by omega, show y % 64 = m % 64 + (y - m) by omega, ← shr_bit]
        exact hls.2.2 _ (by omega)
      have HZ3 := Lib.hid (And.intro hW h0)
      clear hls hW h0 hcell hidx
      go_enter Try.func19, Try.ntmps19
      go_wp2_with fail
      refine (lowest_int _ _ _ (div_nat _ _) HZ3.out.1 HZ3.out.2).mono ?_; rintro e w' ⟨rfl, n1, rfl⟩
      go_wp2_with fail
      go_ret
      exact ⟨ret_int (by rw [HF.out]; omega), (by first | exact Qt.refl _ | exact Qt.drewN _ _ | exact (Qt.drewN _ _).trans (Qt.drewN _ _) | exact ((Qt.drewN _ _).trans (Qt.drewN _ _)).trans (Qt.drewN _ _) | exact Qt.drew _ | exact (Qt.drewN _ _).trans (Qt.drew _))⟩
  · have HF : Hid (nextI b m = -1) := next_none fun y h1 => hasN_out _ _ (by omega)
    clear hcell hidx
    go_enter Try.func19, Try.ntmps19
    go_wp2_with fail
    go_ret
    exact ⟨ret_int (by rw [HF.out]), Qt.refl _⟩

theorem Next_any (v : Value) (b : List Nat) (x : Int) (w : World) (h : Words w v b) (hb : Wds b) (hlen : b.length ≤ 65536) (hx : x ≤ 9223372036854775807) :
    Calls Try.prog 19 #[v, .int .i64 x] w fun e w' => e = .returned (.int .i64 (nextI b x)) ∧ Qt w w' := by
  by_cases h0 : 0 ≤ x
  · obtain ⟨m, rfl⟩ := Int.eq_ofNat_of_zero_le h0
    exact Next_nat v b m m (by unfold mx; split <;> omega) w h hb hlen (by omega)
  · rw [next_neg (by omega)]
    exact Next_nat v b x 0 (by unfold mx; split <;> omega) w h hb hlen (by omega)

end Go.Proofs.Ytingmncemmipeaa
