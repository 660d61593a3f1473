/- Contracts of bits.With, Without, Of. -/
import Derived.Test.YtingmncemmipeaaBitsD
namespace Go.Proofs.Ytingmncemmipeaa
open Go.RowKit Go.Dfl

/-- 'copy(dst, src)' into a row of the call's own. -/
theorem wp_copy {α : Type} [Inhabited α] {f : α → Value} (hf1 : ∀ x, (f x).oneCell' = true) {P : Program} {dT e : TypeId} {z : Value} {by8 : Nat} (ht : SliceOf P dT e z 1 by8) {w : World} {ops : Array Oper} {rest : List Oper} {o : Oper} {a : Act} {Q : Exit → Act → World → Prop}
    (hg : o.guard = none) (d s : Operand) (sT : TypeId) (hop : o.op = .call { callee := .builtin .copy, args := #[d, s], argTypes := #[dT, sT] })
    (B : Nat) (sd : Option Addr) (n cap : Nat) (R : List α) (hd : a.eval d = .slice sd n cap) (hown : Own f w B e (.slice sd n cap) R) (hR : R.length = n) (src : Value) (l : List α) (hs : a.eval s = src) (hsrc : Lst f w src l) (hl : l.length ≤ n)
    (hK : ∀ w' u, Own f w' B e (.slice sd n cap) (l ++ R.drop l.length) → Below B w w' → wpList P ops Q rest (a.put o.dst u) w') : wpList P ops Q (o :: rest) a w := by
  obtain ⟨i, hi, _, hs1, _⟩ := ht.info
  have hsz : (P.info? e).map (·.size) = some 1 := by rw [hi]; simp [hs1]
  obtain ⟨sp, scap, rfl, hlc, hm, hcell⟩ := hsrc
  obtain ⟨h1, ⟨h2, h3⟩ | ⟨g, cap2, cur, hv, hg2, hh, hc, hm2, hsz2, ht2⟩⟩ := hown
  · simp at h2
    obtain ⟨rfl, rfl, rfl⟩ := h2
    have hl0 : l = [] := List.eq_nil_of_length_eq_zero (by omega)
    subst hl0
    refine wpList_copy_nothing hg d s dT sT hop e ht.und hsz none sp 0 0 0 scap hd hs rfl ?_
    exact hK w _ (by simp; exact ⟨h1, .inl ⟨rfl, h3⟩⟩) (Below.refl _ _)
  · simp at hv
    obtain ⟨rfl, rfl, rfl⟩ := hv
    have hcl : cur.toList.length = cap := by simpa using hsz2
    refine wpList_copy_splice hg d s dT sT hop e ht.und hsz (some ⟨g, 0, none⟩) sp R.length cap l.length scap hd hs g 0 cur.toList e (by simpa using hh) (l.map f) ?_ ?_ (by simp; omega) ?_ B w (Below.refl _ _) hg2 ?_
    · rw [List.length_map]; exact (Nat.min_eq_left hl).symm
    · intro hp
      simp at hp
      obtain ⟨q1, q2, q3⟩ := hcell 0 hp
      refine ⟨rfl, ⟨blk sp, ofs sp, none⟩, q1, fun j v hj => ?_⟩
      have hjl : j < l.length := by
        have := (List.getElem?_eq_some_iff.1 hj).1; simpa using this
      obtain ⟨-, -, q4⟩ := hcell j hjl
      have := q4 0 (by omega)
      rw [nth_map f l j hjl] at hj
      simp at hj this
      rw [← hj]
      simp only [Addr.add]
      split
      · rename_i hj0; subst hj0; simpa using this
      · exact this
    · intro v hv; simp at hv; obtain ⟨x, _, rfl⟩ := hv; exact hf1 x
    · intro w' hw' hb'
      refine hK w' _ ⟨by simp, .inr ⟨g, cap, (splice cur.toList 0 (l.map f)).toArray, by simp; omega, hg2, hw'.out, by simp; omega, hm2, by simp [splice]; omega, ?_⟩⟩ hb'
      have hRt : cur.toList.take R.length = R.map f := by simpa using ht2
      simp only [splice, List.take_zero, List.nil_append, Nat.zero_add, List.length_map, List.length_append, List.length_drop, Nat.mul_one, List.map_append, List.map_drop, ← hRt]
      rw [show l.length + (R.length - l.length) = R.length by omega]
      rw [List.take_append]
      simp only [List.length_map]
      rw [List.take_of_length_le (by simp; omega), List.take_drop, show l.length + (R.length - l.length) = R.length by omega]

theorem nth_zeros (k j : Nat) : nth (List.replicate k (0 : Nat)) j = 0 := by
  unfold nth
  simp only [List.getD_eq_getElem?_getD, List.getElem?_replicate]
  split <;> rfl
theorem nth_pad (b : List Nat) (k i : Nat) : nth (b ++ List.replicate k 0) i = nth b i := by
  rw [nth_append]
  split
  · rfl
  · rw [nth_out b i (by omega), nth_zeros]; rfl
theorem pow_wrap (j : Nat) (hj : j < 64) : IntKind.u64.wrap ((2 : Int) ^ j) = ((2 ^ j : Nat) : Int) := by
  have h : (2 : Nat) ^ j < 2 ^ 64 := Nat.pow_lt_pow_right (by omega) hj
  have e : ((2 : Int) ^ j) = ((2 ^ j : Nat) : Int) := by rw [Int.natCast_pow]; rfl
  rw [IntKind.wrap_u64, e]
  generalize (2 : Nat) ^ j = p at *
  omega
theorem pow_w (j : Nat) (hj : j < 64) : W64 (2 ^ j) := W64.of (Nat.pow_lt_pow_right (by omega) hj)
/-- One word of a set is changed. -/
theorem hasN_set (R : List Nat) (i v x : Nat) (hi : i < R.length) : hasN (R.set i v) x = if x / 64 = i then v.testBit (x % 64) else hasN R x := by
  unfold hasN
  rw [nth_set]
  by_cases e : i = x / 64
  · rw [if_pos ⟨e, hi⟩, if_pos e.symm]
  · rw [if_neg (by omega), if_neg (by omega)]
theorem bitpos (m y : Nat) : (y / 64 = m / 64 ∧ m % 64 = y % 64) ↔ y = m := by omega

def WithPost (b : List Nat) (x : Int) (w : World) (e : Ending) (w' : World) : Prop :=
  (valB x = false ∧ e = .returned (.tuple #[.slice none 0 0, .int .i64 4]) ∧ Qt w w') ∨
  (valB x = true ∧ ∃ v r, e = .returned (.tuple #[v, .int .i64 0]) ∧ Fresh w' w.heap.size v r ∧ Wds r ∧ Norm r ∧ r.length ≤ b.length + 1024 ∧ (∀ y, hasN r y = (hasN b y || decide ((y : Int) = x))) ∧ Below w.heap.size w w')

set_option maxHeartbeats 800000 in
theorem With_any (v : Value) (b : List Nat) (x : Int) (w : World) (h : Words w v b) (hb : Wds b) (hN : b.length ≤ 1048576) :
    Calls Try.prog 21 #[v, .int .i64 x] w (WithPost b x w) := by
  have hI := h
  obtain ⟨a, cap, rfl, hm, -⟩ := h.out1 sBits
  have HB := Lib.hid hb
  clear h hb
  cases hx : valB x
  · go_enter Try.func21, Try.ntmps21
    go_wp2_with fail
    refine (valid_any x _).mono ?_; rintro e w' ⟨rfl, n1, rfl⟩
    go_wp2_with fail
    go_ret2
    exact .inl ⟨hx, rfl, (by first | exact Qt.refl _ | exact Qt.drewN _ _ | exact (Qt.drewN _ _).trans (Qt.drewN _ _) | exact ((Qt.drewN _ _).trans (Qt.drewN _ _)).trans (Qt.drewN _ _) | exact Qt.drew _ | exact (Qt.drewN _ _).trans (Qt.drew _))⟩
  · obtain ⟨hx1, hx2⟩ : 0 ≤ x ∧ x < 65536 := by simpa [valB] using hx
    obtain ⟨m, rfl⟩ := Int.eq_ofNat_of_zero_le hx1
    have hmx := run_mx Try.prog
    obtain ⟨n, hn⟩ : ∃ n : Nat, mx (b.length : Int) ((m : Int) / 64 + 1) = n := ⟨(mx (b.length : Int) ((m : Int) / 64 + 1)).toNat, by have := mx_ge (b.length : Int) ((m : Int) / 64 + 1); omega⟩
    have hnn := mx_ge (b.length : Int) ((m : Int) / 64 + 1)
    rw [hn] at hnn
    have hmx2 : ∀ (w : World) (ts : Array TypeId) (t : TypeId), (Builtin.max_ ts t #[.int .i64 b.length, .int .i64 ((m : Int) / 64 + 1)]).run Try.prog w = .ok (.int .i64 (n : Int)) w := fun w ts t => by rw [hmx, hn]
    have hn1 : b.length ≤ n := by omega
    have hn2 : m / 64 < n := by omega
    have hn3 : n ≤ b.length + 1024 := by omega
    clear hmx hn hnn
    go_enter Try.func21, Try.ntmps21
    go_wp2_with fail
    refine (valid_any m _).mono ?_; rintro e w' ⟨rfl, n1, rfl⟩
    go_wp2_with (first | (at_make; refine wp_make (f := wv) 0 sBits rfl _ rfl _ _ rfl .i64 .i64 _ _ n rfl rfl rfl rfl ?c1 ?c2 ?_))
    case c1 => omega
    case c2 => unfold maxLen; omega
    intro s cap2 w1 hown hbw
    have hb0 : Below w.heap.size w w1 := ((Qt.drewN w _).below _).trans hbw
    have hI1 := hI.below hb0
    clear hbw hmx2
    go_wp2_with (refine wp_copy (f := wv) (fun _ => rfl) sBits rfl (.tmp 17) (.tmp 18) 26 rfl w.heap.size s n cap2 (List.replicate n 0) rfl hown (by simp) _ b rfl hI1 hn1 ?_)
    intro w2 uu hown2 hb2
    have hb3 : Below w.heap.size w w2 := hb0.trans hb2
    have hown2 : OwnW w2 w.heap.size 54 (.slice s n cap2) (b ++ List.replicate (n - b.length) 0) := by simpa using hown2
    obtain ⟨R, hR⟩ : ∃ R, R = b ++ List.replicate (n - b.length) 0 := ⟨_, rfl⟩
    rw [← hR] at hown2
    have hRl : R.length = n := by rw [hR]; simp; omega
    have hRn : ∀ i, nth R i = nth b i := fun i => by rw [hR, nth_pad]
    have hfz := hown2.frozen (by omega) (ofs s + m / 64)
    have hblk := hown2.blkge (by omega)
    obtain ⟨a2, c2, he, hm2, hidx2, hcell2, _⟩ := hown2.lst.out1 sBits
    simp at he
    obtain ⟨rfl, he, rfl⟩ := he
    rw [hRl] at hidx2 hcell2
    have hck := hcell2 (m / 64) hn2
    rw [hRn] at hck
    unfold wv at hck
    have hi2 := hidx2 .i64 ((m : Int) / 64) (by omega) (by omega)
    have HO := Lib.hid (And.intro hown2 (And.intro hRl hRn))
    clear hown2 hR hRl hRn he hm2 hidx2 hcell2 hown hI1 hb2
    have hor : bits BinOp.or IntKind.u64 ((nth b (m / 64) : Nat) : Int) (IntKind.u64.wrap (2 ^ (m % 64))) = ((nth b (m / 64) ||| 2 ^ (m % 64) : Nat) : Int) := by
      rw [pow_wrap _ (by omega)]; exact or_eq _ _ (HB.out _) (pow_w _ (by omega))
    go_wp2_with fail
    have ho4 := HO.out.1.set (m / 64) (nth b (m / 64) ||| 2 ^ (m % 64))
    have hl4 : (R.set (m / 64) (nth b (m / 64) ||| 2 ^ (m % 64))).length = n := by rw [List.length_set]; exact HO.out.2.1
    refine (normal_any _ _ _ (R.set (m / 64) (nth b (m / 64) ||| 2 ^ (m % 64))) _ ho4.lst hl4).mono ?_
    intro e w5 hnp
    obtain ⟨m5, v5, q1, q2, q3, rfl, hv5, q4⟩ := hnp
    have HV := Lib.hid (And.intro hv5 (And.intro q2 (And.intro q3 (And.intro ho4 hl4))))
    clear hv5 q2 q3 ho4 hl4
    go_wp2_with fail
    go_ret2
    obtain ⟨hv5, q2, q3, ho4, hl4⟩ := HV.out
    have hp : ∀ y, hasN (R.set (m / 64) (nth b (m / 64) ||| 2 ^ (m % 64))) y = (hasN b y || decide ((y : Int) = (m : Int))) := fun y => by
      rw [hasN_set _ _ _ _ (by rw [HO.out.2.1]; exact hn2)]
      split
      · rename_i e
        have hd : decide (m % 64 = y % 64) = decide ((y : Int) = (m : Int)) := by rw [decide_eq_decide]; omega
        rw [Nat.testBit_or, Nat.testBit_two_pow, hasN, e, hd]
      · rename_i e
        have : ¬ (y : Int) = (m : Int) := by intro h; apply e; omega
        simp [this, hasN, HO.out.2.2]
    have hW : Wds (R.set (m / 64) (nth b (m / 64) ||| 2 ^ (m % 64))) := fun i => by
      rw [nth_set]
      split
      · exact or_w _ _ (HB.out _) (pow_w _ (by omega))
      · rw [HO.out.2.2]; exact HB.out i
    obtain ⟨v6, r, he, hF, hWr, hNr, hlr, hpr, hbr⟩ := set_of_norm (N := b.length + 1024) (p := fun y => hasN b y || decide ((y : Int) = (m : Int))) ho4 hl4 hn3 hW hp (hb3.setCell hblk.1 _) ⟨m5, v5, q1, q2, q3, rfl, hv5, q4⟩
    simp at he
    subst he
    exact .inr ⟨hx, v5, r, rfl, hF, hWr, hNr, hlr, hpr, hbr⟩



set_option maxHeartbeats 800000 in
theorem Without_in (v : Value) (b : List Nat) (m : Nat) (w : World) (h : Words w v b) (hb : Wds b) (hN : b.length ≤ 1048576) (hn2 : m / 64 < b.length) (hm9 : m ≤ 9223372036854775807) :
    Calls Try.prog 22 #[v, .int .i64 m] w (SetPost (fun y => hasN b y && !decide ((y : Int) = (m : Int))) b.length w) := by
  have hI := h
  obtain ⟨a, cap, rfl, hm, -⟩ := h.out1 sBits
  have HB := Lib.hid hb
  clear h hb
  go_enter Try.func22, Try.ntmps22
  go_wp2_with (first | (at_make; refine wp_make (f := wv) 0 sBits rfl _ rfl _ _ rfl .i64 .i64 _ _ b.length rfl rfl rfl rfl ?c1 ?c2 ?_))
  case c1 => omega
  case c2 => unfold maxLen; omega
  intro s cap2 w1 hown hb0
  have hI1 := hI.below hb0
  go_wp2_with (refine wp_copy (f := wv) (fun _ => rfl) sBits rfl (.tmp 9) (.tmp 10) 26 rfl w.heap.size s b.length cap2 (List.replicate b.length 0) rfl hown (by simp) _ b rfl hI1 (Nat.le_refl _) ?_)
  intro w2 uu hown2 hb2
  have hb3 : Below w.heap.size w w2 := hb0.trans hb2
  have hown2 : OwnW w2 w.heap.size 54 (.slice s b.length cap2) b := by simpa using hown2
  have HO := Lib.hid hown2
  clear hown hI1 hb2 hb0
  have hfz := hown2.frozen (by omega) (ofs s + m / 64)
  have hblk := hown2.blkge (by omega)
  obtain ⟨a2, c2, he, hm2, hidx2, hcell2, _⟩ := hown2.lst.out1 sBits
  simp at he
  obtain ⟨rfl, rfl⟩ := he
  have hck := hcell2 (m / 64) hn2
  unfold wv at hck
  have hi2 := hidx2 .i64 ((m : Int) / 64) (by omega) (by omega)
  clear hown2 hm2 hidx2 hcell2
  have hor : bits BinOp.andNot IntKind.u64 ((nth b (m / 64) : Nat) : Int) (IntKind.u64.wrap (2 ^ (m % 64))) = ((anot (nth b (m / 64)) (2 ^ (m % 64)) : Nat) : Int) := by
    rw [pow_wrap _ (by omega)]; exact anot_eq _ _ (HB.out _) (pow_w _ (by omega))
  go_wp2_with fail
  have ho4 := HO.out.set (m / 64) (anot (nth b (m / 64)) (2 ^ (m % 64)))
  have hl4 : (b.set (m / 64) (anot (nth b (m / 64)) (2 ^ (m % 64)))).length = b.length := by rw [List.length_set]
  refine (normal_any _ _ _ (b.set (m / 64) (anot (nth b (m / 64)) (2 ^ (m % 64)))) _ ho4.lst hl4).mono ?_
  intro e w5 hnp
  obtain ⟨m5, v5, q1, q2, q3, rfl, hv5, q4⟩ := hnp
  have HV := Lib.hid (And.intro hv5 (And.intro q2 (And.intro q3 (And.intro ho4 hl4))))
  clear hv5 q2 q3 ho4 hl4
  go_wp2_with fail
  go_ret
  obtain ⟨hv5, q2, q3, ho4, hl4⟩ := HV.out
  refine set_of_norm ho4 hl4 (Nat.le_refl _) ?_ ?_ (hb3.setCell hblk.1 _) ⟨m5, v5, q1, q2, q3, rfl, hv5, q4⟩
  · intro i
    rw [nth_set]
    split
    · exact anot_w _ _ (HB.out _)
    · exact HB.out i
  · intro y
    rw [hasN_set _ _ _ _ hn2]
    split
    · rename_i e
      have hd : decide (m % 64 = y % 64) = decide ((y : Int) = (m : Int)) := by rw [decide_eq_decide]; omega
      rw [anot_bit _ _ (HB.out _) (pow_w _ (by omega)), Nat.testBit_two_pow, hasN, e, hd]
    · rename_i e
      have : ¬ (y : Int) = (m : Int) := by intro h; apply e; omega
      simp [this]

set_option maxHeartbeats 800000 in
theorem Without_out (v : Value) (b : List Nat) (x : Int) (w : World) (h : Words w v b) (hb : Wds b) (hN : b.length ≤ 1048576) (hout : x < 0 ∨ b.length ≤ x / 64) (hx9 : x ≤ 9223372036854775807) :
    Calls Try.prog 22 #[v, .int .i64 x] w (SetPost (fun y => hasN b y && !decide ((y : Int) = x)) b.length w) := by
  have hI := h
  obtain ⟨a, cap, rfl, hm, -⟩ := h.out1 sBits
  have HB := Lib.hid hb
  have hno : ∀ y : Nat, hasN b y = (hasN b y && !decide ((y : Int) = x)) := fun y => by
    by_cases e : (y : Int) = x
    · rw [hasN_out b y (by omega)]; simp
    · simp [e]
  have HNO := Lib.hid hno
  clear h hb hno
  by_cases hx1 : 0 ≤ x
  · obtain ⟨m, rfl⟩ := Int.eq_ofNat_of_zero_le hx1
    have hx2 : (b.length : Int) ≤ (m : Int) / 64 := by omega
    go_enter Try.func22, Try.ntmps22
    go_wp2_with (first | (at_make; refine wp_make (f := wv) 0 sBits rfl _ rfl _ _ rfl .i64 .i64 _ _ b.length rfl rfl rfl rfl ?c1 ?c2 ?_))
    case c1 => omega
    case c2 => unfold maxLen; omega
    intro s cap2 w1 hown hb0
    have hI1 := hI.below hb0
    go_wp2_with (refine wp_copy (f := wv) (fun _ => rfl) sBits rfl (.tmp 9) (.tmp 10) 26 rfl w.heap.size s b.length cap2 (List.replicate b.length 0) rfl hown (by simp) _ b rfl hI1 (Nat.le_refl _) ?_)
    intro w2 uu hown2 hb2
    have hb3 : Below w.heap.size w w2 := hb0.trans hb2
    have hown2 : OwnW w2 w.heap.size 54 (.slice s b.length cap2) b := by simpa using hown2
    have HO := Lib.hid hown2
    clear hown hI1 hb2 hb0
    go_wp2_with fail
    refine (normal_any _ _ _ b _ HO.out.lst rfl).mono ?_
    intro e w5 hnp
    obtain ⟨m5, v5, q1, q2, q3, rfl, hv5, q4⟩ := hnp
    have HV := Lib.hid (And.intro hv5 (And.intro q2 q3))
    clear hv5 q2 q3
    go_wp2_with fail
    go_ret
    exact set_of_norm HO.out rfl (Nat.le_refl _) HB.out HNO.out hb3 ⟨m5, v5, q1, HV.out.2.1, HV.out.2.2, rfl, HV.out.1, q4⟩
  · have hx1' : decide (0 ≤ x) = false := by simpa using hx1
    go_enter Try.func22, Try.ntmps22
    go_wp2_with (first | (at_make; refine wp_make (f := wv) 0 sBits rfl _ rfl _ _ rfl .i64 .i64 _ _ b.length rfl rfl rfl rfl ?c1 ?c2 ?_))
    case c1 => omega
    case c2 => unfold maxLen; omega
    intro s cap2 w1 hown hb0
    have hI1 := hI.below hb0
    go_wp2_with (refine wp_copy (f := wv) (fun _ => rfl) sBits rfl (.tmp 9) (.tmp 10) 26 rfl w.heap.size s b.length cap2 (List.replicate b.length 0) rfl hown (by simp) _ b rfl hI1 (Nat.le_refl _) ?_)
    intro w2 uu hown2 hb2
    have hb3 : Below w.heap.size w w2 := hb0.trans hb2
    have hown2 : OwnW w2 w.heap.size 54 (.slice s b.length cap2) b := by simpa using hown2
    have HO := Lib.hid hown2
    clear hown hI1 hb2 hb0
    go_wp2_with fail
    refine (normal_any _ _ _ b _ HO.out.lst rfl).mono ?_
    intro e w5 hnp
    obtain ⟨m5, v5, q1, q2, q3, rfl, hv5, q4⟩ := hnp
    have HV := Lib.hid (And.intro hv5 (And.intro q2 q3))
    clear hv5 q2 q3
    go_wp2_with fail
    go_ret
    exact set_of_norm HO.out rfl (Nat.le_refl _) HB.out HNO.out hb3 ⟨m5, v5, q1, HV.out.2.1, HV.out.2.2, rfl, HV.out.1, q4⟩

theorem Without_any (v : Value) (b : List Nat) (x : Int) (w : World) (h : Words w v b) (hb : Wds b) (hN : b.length ≤ 1048576) (hx9 : x ≤ 9223372036854775807) :
    Calls Try.prog 22 #[v, .int .i64 x] w (SetPost (fun y => hasN b y && !decide ((y : Int) = x)) b.length w) := by
  by_cases hin : 0 ≤ x ∧ x / 64 < b.length
  · obtain ⟨m, rfl⟩ := Int.eq_ofNat_of_zero_le hin.1
    exact Without_in v b m w h hb hN (by omega) (by omega)
  · exact Without_out v b x w h hb hN (by omega) hx9

end Go.Proofs.Ytingmncemmipeaa
