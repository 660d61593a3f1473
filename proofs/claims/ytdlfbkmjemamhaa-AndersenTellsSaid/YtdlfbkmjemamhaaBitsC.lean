/- Contracts of bits.Count, Check, Within, Same, Next. -/
import Derived.Test.YtdlfbkmjemamhaaBitsQ
import Derived.Test.YtdlfbkmjemamhaaBitsB
namespace Go.Proofs.Ytdlfbkmjemamhaa
open Go.RowKit Go.Dfl

/-- All elements are small. -/
def bokB (b : List Nat) : Bool := (els b).all fun x => decide (x < 65536)
theorem bok_true {b : List Nat} (_hb : Wds b) (h : ∀ i, 1024 ≤ i → nth b i = 0) : bokB b = true := by
  unfold bokB
  rw [List.all_eq_true]
  intro x hx
  obtain ⟨m, rfl, hm⟩ := mem_els.1 hx
  simp only [decide_eq_true_eq]
  by_cases e : m < 65536
  · omega
  · rw [hasN, h (m / 64) (by omega)] at hm; simp at hm
theorem bok_false {b : List Nat} (hb : Wds b) {i : Nat} (hi : 1024 ≤ i) (h : nth b i ≠ 0) : bokB b = false := by
  obtain ⟨k, h1, h2, -⟩ := low_ex (hb i) h
  rw [Bool.eq_false_iff]
  intro hh
  unfold bokB at hh
  rw [List.all_eq_true] at hh
  have := hh ((i * 64 + k : Nat) : Int) (mem_els.2 ⟨_, rfl, by rw [hasN_at _ _ _ h1, h2]⟩)
  simp only [decide_eq_true_eq] at this
  omega

def chkB (b : List Nat) : Int := if bokB b = true then 0 else 4
def withinB (a b : List Nat) : Bool := (els a).all fun x => decide (x ∈ els b)
theorem within_iff {a b : List Nat} : withinB a b = true ↔ ∀ x, hasN a x = true → hasN b x = true := by
  unfold withinB
  rw [List.all_eq_true]
  constructor
  · intro h x hx
    have := h x (mem_els.2 ⟨x, rfl, hx⟩)
    simp only [decide_eq_true_eq, mem_els] at this
    obtain ⟨m, e, hm⟩ := this
    rw [show x = m by omega]; exact hm
  · intro h x hx
    obtain ⟨m, rfl, hm⟩ := mem_els.1 hx
    simp only [decide_eq_true_eq, mem_els]
    exact ⟨m, rfl, h m hm⟩
theorem anot_zero {a b : Nat} (ha : W64 a) (hb : W64 b) : anot a b = 0 ↔ ∀ k, a.testBit k = true → b.testBit k = true := by
  constructor
  · intro h k hk
    have := anot_bit a b ha hb k
    rw [h, hk] at this
    simpa using this
  · intro h
    apply Nat.eq_of_testBit_eq
    intro k
    rw [anot_bit a b ha hb k]
    by_cases e : a.testBit k = true
    · simp [e, h k e]
    · simp [e]
theorem within_true {a b : List Nat} (ha : Wds a) (hb : Wds b) (h : ∀ i, i < a.length → anot (nth a i) (nth b i) = 0) : withinB a b = true := by
  rw [within_iff]
  intro x hx
  by_cases e : x / 64 < a.length
  · exact (anot_zero (ha _) (hb _)).1 (h _ e) _ hx
  · rw [hasN_out a x (by omega)] at hx; simp at hx
theorem within_false {a b : List Nat} (ha : Wds a) (hb : Wds b) {i : Nat} (h : anot (nth a i) (nth b i) ≠ 0) : withinB a b = false := by
  rw [Bool.eq_false_iff, ne_eq, within_iff]
  intro hh
  apply h
  rw [anot_zero (ha _) (hb _)]
  intro k hk
  have hk64 : k < 64 := by
    by_cases e : k < 64
    · exact e
    · rw [(ha i).bit k (by omega)] at hk; simp at hk
  have := hh (i * 64 + k) (by rw [hasN_at _ _ _ hk64, hk])
  rwa [hasN_at _ _ _ hk64] at this

set_option maxHeartbeats 400000 in
theorem Within_any (v u : Value) (b c : List Nat) (w : World) (h : Words w v b) (h' : Words w u c) (hb : Wds b) (hc : Wds c) :
    Calls Try.prog 53 #[v, u] w fun e w' => e = .returned (.bool (withinB b c)) ∧ Qt w w' := by
  have hI' := h'
  obtain ⟨a, cap, rfl, hm, hidx, hcell, hblk⟩ := h.out1 sBits
  obtain ⟨a', cap', rfl, -⟩ := h'.out1 sBits
  have HB := Lib.hid (And.intro hb hc)
  clear h hb hc h'
  go_enter Try.func53, Try.ntmps53
  go_wp2
  go_loopw [5, 8] (fun _ i wr => ∃ k : Nat, k ≤ b.length ∧ i = .int .i64 k ∧ Qt w wr ∧ Hid (∀ j, j < k → anot (nth b j) (nth c j) = 0)) (fun _ i _ => b.length - (intOf i).toNat)
  case atStart => exact ⟨0, by omega, rfl, Qt.refl _, fun j hj => by omega⟩
  case round =>
    obtain ⟨k, hk, rfl, ⟨nw, rfl⟩, hh⟩ := hrel
    by_cases hlt : k < b.length
    · have hcb : w.cell? ⟨blk a, ofs a + k, none⟩ = some (.int .u64 ((nth b k : Nat) : Int)) := hcell k hlt
      have han := anot_eq (nth b k) (nth c k) (HB.out.1 k) (HB.out.2 k)
      clear hcell
      by_cases h0 : anot (nth b k) (nth c k) = 0
      · have h0' : (bits BinOp.andNot IntKind.u64 ((nth b k : Nat) : Int) ((nth c k : Nat) : Int) != 0) = false := by rw [han, h0]; rfl
        have H0 := Lib.hid h0
        clear h0 han
        go_wp2
        go_quiet ((go_at_call 58; exact Qt.quiet2 (word_any _ c _ _ (hI'.qt (by first | exact Qt.refl _ | exact Qt.drewN _ _ | exact (Qt.drewN _ _).trans (Qt.drewN _ _) | exact ((Qt.drewN _ _).trans (Qt.drewN _ _)).trans (Qt.drewN _ _) | exact Qt.drew _ | exact (Qt.drewN _ _).trans (Qt.drew _))) (by omega))))
        go_wp2
        go_roundw
        case rel => exact ⟨k + 1, by omega, by go_num, (by first | exact Qt.refl _ | exact Qt.drewN _ _ | exact (Qt.drewN _ _).trans (Qt.drewN _ _) | exact ((Qt.drewN _ _).trans (Qt.drewN _ _)).trans (Qt.drewN _ _) | exact Qt.drew _ | exact (Qt.drewN _ _).trans (Qt.drew _)), fun j hj => by
          by_cases e : j = k
          · subst e; exact H0.out
          · exact hh.out j (by omega)⟩
        case measure => simp [intOf]; omega
      · have h0' : (bits BinOp.andNot IntKind.u64 ((nth b k : Nat) : Int) ((nth c k : Nat) : Int) != 0) = true := by rw [han]; simp; omega
        have H0 := Lib.hid (within_false HB.out.1 HB.out.2 h0)
        clear h0 han
        go_wp2
        go_quiet ((go_at_call 58; exact Qt.quiet2 (word_any _ c _ _ (hI'.qt (by first | exact Qt.refl _ | exact Qt.drewN _ _ | exact (Qt.drewN _ _).trans (Qt.drewN _ _) | exact ((Qt.drewN _ _).trans (Qt.drewN _ _)).trans (Qt.drewN _ _) | exact Qt.drew _ | exact (Qt.drewN _ _).trans (Qt.drew _))) (by omega))))
        go_wp2
        go_ret
        exact ⟨ret_bool (by rw [H0.out]), (by first | exact Qt.refl _ | exact Qt.drewN _ _ | exact (Qt.drewN _ _).trans (Qt.drewN _ _) | exact ((Qt.drewN _ _).trans (Qt.drewN _ _)).trans (Qt.drewN _ _) | exact Qt.drew _ | exact (Qt.drewN _ _).trans (Qt.drew _))⟩
    · go_wp2
      go_ret
      exact ⟨ret_bool (by rw [within_true HB.out.1 HB.out.2 fun i hi => hh.out i (by omega)]), (by first | exact Qt.refl _ | exact Qt.drewN _ _ | exact (Qt.drewN _ _).trans (Qt.drewN _ _) | exact ((Qt.drewN _ _).trans (Qt.drewN _ _)).trans (Qt.drewN _ _) | exact Qt.drew _ | exact (Qt.drewN _ _).trans (Qt.drew _))⟩

/-- The least element that is at least x, or -1. -/
def nextI (b : List Nat) (x : Int) : Int := ((els b).find? fun y => decide (x ≤ y)).getD (-1)
theorem find_asc {l : List Int} (hl : Asc l) {x r : Int} (hr : r ∈ l) (hx : x ≤ r) (hn : ∀ y ∈ l, x ≤ y → r ≤ y) : l.find? (fun y => decide (x ≤ y)) = some r := by
  induction l with
  | nil => simp at hr
  | cons z l ih =>
    unfold Asc at hl
    rw [List.pairwise_cons] at hl
    by_cases h : x ≤ z
    · have : r ≤ z := hn z (by simp) h
      have : r = z := by
        rcases List.mem_cons.1 hr with e | e
        · exact e
        · have := hl.1 r e; omega
      subst this
      simp [h]
    · rw [List.find?_cons_of_neg (by simpa using h)]
      refine ih hl.2 ?_ fun y hy => hn y (by simp [hy])
      rcases List.mem_cons.1 hr with e | e
      · omega
      · exact e
theorem next_of {b : List Nat} {x : Int} {r : Nat} (hr : hasN b r = true) (hx : x ≤ r) (hn : ∀ y : Nat, x ≤ y → y < r → hasN b y = false) : nextI b x = r := by
  unfold nextI
  rw [find_asc (els_asc b) (r := (r : Int)) (mem_els.2 ⟨r, rfl, hr⟩) hx]
  · rfl
  · intro y hy hxy
    obtain ⟨m, rfl, hm⟩ := mem_els.1 hy
    by_cases e : m < r
    · rw [hn m hxy e] at hm; simp at hm
    · omega
theorem next_none {b : List Nat} {x : Int} (hn : ∀ y : Nat, x ≤ y → hasN b y = false) : nextI b x = -1 := by
  unfold nextI
  have : (els b).find? (fun y => decide (x ≤ y)) = none := by
    rw [List.find?_eq_none]
    intro y hy
    obtain ⟨m, rfl, hm⟩ := mem_els.1 hy
    simp only [decide_eq_true_eq]
    intro h
    rw [hn m h] at hm; simp at hm
  rw [this]; rfl
theorem next_neg {b : List Nat} {x : Int} (h : x < 0) : nextI b x = nextI b 0 := by
  unfold nextI
  have : ∀ l : List Int, (∀ y ∈ l, 0 ≤ y) → l.find? (fun y => decide (x ≤ y)) = l.find? fun y => decide (0 ≤ y) := by
    intro l hl
    cases l with
    | nil => rfl
    | cons z l => have := hl z (by simp); simp [this, show x ≤ z by omega]
  rw [this]
  intro y hy
  obtain ⟨m, rfl, -⟩ := mem_els.1 hy
  omega

theorem shr_bit (n j k : Nat) : (n / 2 ^ j).testBit k = n.testBit (j + k) := by
  rw [← Nat.shiftRight_eq_div_pow, Nat.testBit_shiftRight]

end Go.Proofs.Ytdlfbkmjemamhaa
