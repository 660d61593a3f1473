/- Contracts of the functions of package bits that make sets: Union, Minus, Both, With, Without, Of. -/
import Derived.Test.YtdlfbkmjemamhaaBitsC
import Derived.Laws.CopyOwn
namespace Go.Proofs.Ytdlfbkmjemamhaa
open Go.RowKit Go.Dfl

/-- A slice in new memory that may be written. -/
def Fresh (w : World) (base : Nat) (v : Value) (r : List Nat) : Prop :=
  Words w v r ∧ ∀ a n cap, v = .slice a n cap → 0 < n → base ≤ blk a ∧ ∀ i, w.frozen? ⟨blk a, i, none⟩ = false

def SetPost (p : Nat → Bool) (n : Nat) (w : World) (e : Ending) (w' : World) : Prop :=
  ∃ v r, e = .returned v ∧ Fresh w' w.heap.size v r ∧ Wds r ∧ Norm r ∧ r.length ≤ n ∧ (∀ x, hasN r x = p x) ∧ Below w.heap.size w w'

theorem fresh_cut {W : World} {B n cap : Nat} {s : Option Addr} {R : List Nat} (ho : OwnW W B 76 (.slice s n cap) R) (hn : R.length = n) (m : Nat) (hm : m ≤ R.length) :
    Fresh W B (if m = 0 then .slice none 0 0 else .slice s m m) (R.take m) := by
  by_cases h0 : m = 0
  · subst h0
    rw [if_pos rfl]
    refine ⟨?_, fun a n cap he hp => ?_⟩
    · rw [List.take_zero]; exact Lst.nil _ _
    · simp at he; omega
  · rw [if_neg h0]
    have hl := ho.lst
    have hb := ho.blkge (by omega)
    have hf := ho.frozen (by omega)
    refine ⟨?_, fun a n cap he hp => ?_⟩
    · obtain ⟨a2, cap2, he, g1, g2, g3⟩ := hl
      simp at he
      obtain ⟨rfl, he2, rfl⟩ := he
      refine ⟨s, m, by simp; omega, by simp; omega, by omega, fun i hi => ?_⟩
      simp at hi
      obtain ⟨q1, q2, q3⟩ := g3 i (by omega)
      refine ⟨q1, q2, fun j hj => ?_⟩
      rw [q3 j hj]
      simp [nth, List.getElem?_take]
      rw [if_pos (by omega)]
    · simp at he
      obtain ⟨rfl, rfl, rfl⟩ := he
      exact ⟨hb.1, hf⟩

theorem set_of_norm {p : Nat → Bool} {N : Nat} {w W W' : World} {n cap : Nat} {s : Option Addr} {R : List Nat} {e : Ending} (ho : OwnW W w.heap.size 76 (.slice s n cap) R) (hn : R.length = n) (hN : n ≤ N) (hW : Wds R)
    (hp : ∀ x, hasN R x = p x) (hb : Below w.heap.size w W) (h : NormPost R s W e W') : SetPost p N w e W' := by
  obtain ⟨m, v, h1, h2, h3, rfl, rfl, nw, rfl⟩ := h
  have hf := fresh_cut ho hn m h1
  have ht := take_has h1 h2
  refine ⟨_, R.take m, rfl, ⟨hf.1.qt (Qt.drewN _ _), hf.2⟩, fun i => by rw [ht]; exact hW i, take_norm h1 h2 h3, by simp; omega, fun x => ?_, below_drewN hb _⟩
  rw [← hp x]; unfold hasN; rw [ht]

/-- A row that is being filled. -/
def fillTo (f : Nat → Nat) (k n : Nat) : List Nat := (List.range n).map fun i => if i < k then f i else 0
theorem fillTo_len (f : Nat → Nat) (k n : Nat) : (fillTo f k n).length = n := by simp [fillTo]
theorem fillTo_nth (f : Nat → Nat) (k n i : Nat) : nth (fillTo f k n) i = if i < n ∧ i < k then f i else 0 := by
  by_cases h : i < n
  · simp [fillTo, nth, h]
  · rw [nth_out _ _ (by rw [fillTo_len]; omega), if_neg (by omega)]; rfl
theorem fillTo_zero (f : Nat → Nat) (n : Nat) : fillTo f 0 n = List.replicate n 0 := by
  apply nth_ext
  · simp [fillTo]
  · intro i hi
    rw [fillTo_len] at hi
    rw [fillTo_nth, if_neg (by omega)]; simp [nth, hi]
theorem fillTo_set (f : Nat → Nat) (k n : Nat) : (fillTo f k n).set k (f k) = fillTo f (k + 1) n := by
  apply nth_ext
  · simp [fillTo_len]
  · intro i hi
    simp [fillTo_len] at hi
    rw [nth_set, fillTo_nth, fillTo_nth, fillTo_len]
    by_cases e : k = i
    · subst e; rw [if_pos ⟨rfl, hi⟩, if_pos ⟨hi, by omega⟩]
    · rw [if_neg (by omega)]
      by_cases e2 : i < k
      · rw [if_pos ⟨hi, e2⟩, if_pos ⟨hi, by omega⟩]
      · rw [if_neg (by omega), if_neg (by omega)]
theorem fill_all {f : Nat → Nat} {n : Nat} (h : ∀ i, n ≤ i → f i = 0) (i : Nat) : nth (fillTo f n n) i = f i := by
  rw [fillTo_nth]
  by_cases e : i < n
  · rw [if_pos ⟨e, e⟩]
  · rw [if_neg (by omega), h i (by omega)]


def orF (b c : List Nat) (i : Nat) : Nat := nth b i ||| nth c i
def anotF (b c : List Nat) (i : Nat) : Nat := anot (nth b i) (nth c i)
def andF (b c : List Nat) (i : Nat) : Nat := nth b i &&& nth c i


set_option maxHeartbeats 800000 in
theorem Union_any (v u : Value) (b c : List Nat) (w : World) (h : Words w v b) (h' : Words w u c) (hb : Wds b) (hc : Wds c) (N : Nat) (hN : N ≤ 1048576) (hN1 : b.length ≤ N) (hN2 : c.length ≤ N) :
    Calls Try.prog 60 #[v, u] w (SetPost (fun x => hasN b x || hasN c x) N w) := by
  have hI := h
  have hI' := h'
  obtain ⟨a, cap, rfl, hm, -⟩ := h.out1 sBits
  obtain ⟨a', cap', rfl, hm', -⟩ := h'.out1 sBits
  have HB := Lib.hid (And.intro hb hc)
  have hmx := run_mx Try.prog
  obtain ⟨n, hn⟩ : ∃ n : Nat, mx (b.length : Int) (c.length : Int) = n := ⟨(mx (b.length : Int) (c.length : Int)).toNat, by have := mx_ge (b.length : Int) (c.length : Int); omega⟩
  have hnn := mx_ge (b.length : Int) (c.length : Int)
  rw [hn] at hnn
  have hnN : n ≤ N := by omega
  have hmx2 : ∀ (w : World) (ts : Array TypeId) (t : TypeId), (Builtin.max_ ts t #[.int .i64 b.length, .int .i64 c.length]).run Try.prog w = .ok (.int .i64 (n : Int)) w := fun w ts t => by rw [hmx, hn]
  have HN : Hid (b.length ≤ n ∧ c.length ≤ n) := ⟨by omega, by omega⟩
  clear h h' hb hc hmx hn hnn
  go_enter Try.func60, Try.ntmps60
  go_wp2_with (at_make; refine wp_make (f := wv) 0 sBits rfl _ rfl _ _ rfl .i64 .i64 _ _ n rfl rfl rfl rfl ?c1 ?c2 ?_)
  case c1 => omega
  case c2 => unfold maxLen; omega
  intro s cap2 w1 hown hb
  clear hmx2
  go_wp2_with fail
  go_loopw [6, 15] (fun _ i wr => ∃ k : Nat, k ≤ n ∧ i = .int .i64 k ∧ Hid (Below w.heap.size w wr ∧ OwnW wr w.heap.size 76 (.slice s n cap2) (fillTo (orF b c) k n))) (fun _ i _ => n - (intOf i).toNat)
  case atStart => exact ⟨0, by omega, rfl, hb, by rw [fillTo_zero]; exact hown⟩
  case round =>
    clear hown hb
    obtain ⟨k, hk, rfl, hh⟩ := hrel
    by_cases hlt : k < n
    · have ho := hh.out.2
      have hl := fillTo_len (orF b c) k n
      have hfz := ho.frozen (by omega) (ofs s + k)
      have hblk := ho.blkge (by omega)
      obtain ⟨a2, c2, he, hm2, hidx2, hcell2, _⟩ := ho.lst.out1 sBits
      simp at he
      obtain ⟨rfl, he, rfl⟩ := he
      rw [hl] at hidx2 hcell2
      have hck := hcell2 k hlt
      unfold wv at hck
      have hor : bits BinOp.or IntKind.u64 ((nth b k : Nat) : Int) ((nth c k : Nat) : Int) = ((orF b c k : Nat) : Int) := or_eq (nth b k) (nth c k) (HB.out.1 k) (HB.out.2 k)
      have hIr := hI.below hh.out.1
      have hIr' := hI'.below hh.out.1
      clear ho hl he hm2 hcell2
      go_wp2_with fail
      refine (word_any _ b _ _ hIr (by omega)).mono ?_; rintro e w' ⟨rfl, n1, rfl⟩
      go_wp2_with fail
      refine (word_any _ c _ _ (hIr'.qt (by first | exact Qt.refl _ | exact Qt.drewN _ _ | exact (Qt.drewN _ _).trans (Qt.drewN _ _) | exact ((Qt.drewN _ _).trans (Qt.drewN _ _)).trans (Qt.drewN _ _) | exact Qt.drew _ | exact (Qt.drewN _ _).trans (Qt.drew _))) (by omega)).mono ?_; rintro e w' ⟨rfl, n2, rfl⟩
      go_wp2_with fail
      go_roundw
      case rel => exact ⟨k + 1, by omega, by go_num, (below_drewN hh.out.1 _).setCell hblk.1 _, by
        rw [← fillTo_set]; exact (hh.out.2.qt (Qt.drewN _ _)).set k _⟩
      case measure => simp [intOf]; omega
    · have HF : Hid (OwnW wr w.heap.size 76 (.slice s n cap2) (fillTo (orF b c) n n) ∧ Below w.heap.size w wr) := by
        obtain rfl : k = n := by omega
        exact ⟨hh.out.2, hh.out.1⟩
      clear hh
      go_wp2_with fail
      refine (normal_any _ _ _ _ _ HF.out.1.lst (fillTo_len _ _ _)).mono ?_
      intro e w5 hnp
      obtain ⟨m5, v5, q1, q2, q3, rfl, hv5, q4⟩ := hnp
      have HV := Lib.hid (And.intro hv5 (And.intro q2 q3))
      clear hv5 q2 q3
      go_wp2_with fail
      go_ret
      have hz : ∀ i, n ≤ i → orF b c i = 0 := fun i hi => by rw [orF, nth_out b i (by have := HN.out.1; omega), nth_out c i (by have := HN.out.2; omega)]; rfl
      refine set_of_norm HF.out.1 (fillTo_len _ _ _) hnN ?_ ?_ HF.out.2 ⟨m5, v5, q1, HV.out.2.1, HV.out.2.2, rfl, HV.out.1, q4⟩
      · intro i; rw [fill_all hz]; exact or_w _ _ (HB.out.1 i) (HB.out.2 i)
      · intro x; unfold hasN; rw [fill_all hz]; exact Nat.testBit_or _ _ _


set_option maxHeartbeats 800000 in
theorem Minus_any (v u : Value) (b c : List Nat) (w : World) (h : Words w v b) (h' : Words w u c) (hb : Wds b) (hc : Wds c) (hN : b.length ≤ 1048576) :
    Calls Try.prog 59 #[v, u] w (SetPost (fun x => hasN b x && !hasN c x) b.length w) := by
  have hI' := h'
  obtain ⟨a, cap, rfl, hm, hidx, hcell, hblk0⟩ := h.out1 sBits
  obtain ⟨a', cap', rfl, hm', -⟩ := h'.out1 sBits
  have HB := Lib.hid (And.intro hb hc)
  clear h h' hb hc
  go_enter Try.func59, Try.ntmps59
  go_wp2_with (at_make; refine wp_make (f := wv) 0 sBits rfl _ rfl _ _ rfl .i64 .i64 _ _ b.length rfl rfl rfl rfl ?c1 ?c2 ?_)
  case c1 => omega
  case c2 => unfold maxLen; omega
  intro s cap2 w1 hown hb
  go_wp2_with fail
  go_loopw [6, 12] (fun _ i wr => ∃ k : Nat, k ≤ b.length ∧ i = .int .i64 k ∧ Hid (Below w.heap.size w wr ∧ OwnW wr w.heap.size 76 (.slice s b.length cap2) (fillTo (anotF b c) k b.length))) (fun _ i _ => b.length - (intOf i).toNat)
  case atStart => exact ⟨0, by omega, rfl, hb, by rw [fillTo_zero]; exact hown⟩
  case round =>
    clear hown hb
    obtain ⟨k, hk, rfl, hh⟩ := hrel
    by_cases hlt : k < b.length
    · have ho := hh.out.2
      have hl := fillTo_len (anotF b c) k b.length
      have hfz := ho.frozen (by omega) (ofs s + k)
      have hblk := ho.blkge (by omega)
      obtain ⟨a2, c2, he, hm2, hidx2, hcell2, _⟩ := ho.lst.out1 sBits
      simp at he
      obtain ⟨rfl, he, rfl⟩ := he
      rw [hl] at hidx2 hcell2
      have hck := hcell2 k hlt
      unfold wv at hck
      have hor : bits BinOp.andNot IntKind.u64 ((nth b k : Nat) : Int) ((nth c k : Nat) : Int) = ((anotF b c k : Nat) : Int) := anot_eq (nth b k) (nth c k) (HB.out.1 k) (HB.out.2 k)
      have hcb : wr.cell? ⟨blk a, ofs a + k, none⟩ = some (.int .u64 ((nth b k : Nat) : Int)) := by
        rw [hh.out.1.cell (p := ⟨blk a, ofs a + k, none⟩) (hblk0 k hlt)]; exact hcell k hlt
      have hIr' := hI'.below hh.out.1
      clear ho hl he hm2 hcell2 hcell
      go_wp2_with fail
      refine wp_region_tail 11 (by kernel_rfl) (by kernel_rfl) ?_
      intro w2 hw2
      subst hw2
      simp only [List.take_succ_cons, List.take_zero, List.drop_succ_cons, List.drop_zero]
      repeat (first | still_step | still_call (word_still _ c _ _ (hIr'.qt (Qt.drew _)) (by omega)))
      refine wpStill_nil ?_
      go_wp2_with fail
      go_roundw
      case rel => exact ⟨k + 1, by omega, by go_num, hh.out.1.drew.setCell hblk.1 _, by
        rw [← fillTo_set]; exact (hh.out.2.qt (Qt.drew _)).set k _⟩
      case measure => simp [intOf]; omega
    · have HF : Hid (OwnW wr w.heap.size 76 (.slice s b.length cap2) (fillTo (anotF b c) b.length b.length) ∧ Below w.heap.size w wr) := by
        obtain rfl : k = b.length := by omega
        exact ⟨hh.out.2, hh.out.1⟩
      clear hh
      go_wp2_with fail
      refine (normal_any _ _ _ _ _ HF.out.1.lst (fillTo_len _ _ _)).mono ?_
      intro e w5 hnp
      obtain ⟨m5, v5, q1, q2, q3, rfl, hv5, q4⟩ := hnp
      have HV := Lib.hid (And.intro hv5 (And.intro q2 q3))
      clear hv5 q2 q3
      go_wp2_with fail
      go_ret
      have hz : ∀ i, b.length ≤ i → anotF b c i = 0 := fun i hi => by rw [anotF, nth_out b i hi]; exact anot_left _
      refine set_of_norm HF.out.1 (fillTo_len _ _ _) (Nat.le_refl _) ?_ ?_ HF.out.2 ⟨m5, v5, q1, HV.out.2.1, HV.out.2.2, rfl, HV.out.1, q4⟩
      · intro i; rw [fill_all hz]; exact anot_w _ _ (HB.out.1 i)
      · intro x; unfold hasN; rw [fill_all hz]; exact anot_bit _ _ (HB.out.1 _) (HB.out.2 _) _

set_option maxHeartbeats 800000 in
theorem Both_any (v u : Value) (b c : List Nat) (w : World) (h : Words w v b) (h' : Words w u c) (hb : Wds b) (hc : Wds c) (N : Nat) (hN : N ≤ 1048576) (hN1 : b.length ≤ N) :
    Calls Try.prog 55 #[v, u] w (SetPost (fun x => hasN b x && hasN c x) N w) := by
  obtain ⟨a, cap, rfl, hm, hidx, hcell, hblk0⟩ := h.out1 sBits
  obtain ⟨a', cap', rfl, hm', hidx', hcell', hblk0'⟩ := h'.out1 sBits
  have HB := Lib.hid (And.intro hb hc)
  have hmn := run_mn Try.prog
  obtain ⟨n, hn⟩ : ∃ n : Nat, mn (b.length : Int) (c.length : Int) = n := ⟨(mn (b.length : Int) (c.length : Int)).toNat, by have := mn_le (b.length : Int) (c.length : Int); omega⟩
  have hnn := mn_le (b.length : Int) (c.length : Int)
  rw [hn] at hnn
  have hnN : n ≤ N := by omega
  have hnb : n ≤ b.length := by omega
  have hnc : n ≤ c.length := by omega
  have hmn2 : ∀ (w : World) (ts : Array TypeId) (t : TypeId), (Builtin.min_ ts t #[.int .i64 b.length, .int .i64 c.length]).run Try.prog w = .ok (.int .i64 (n : Int)) w := fun w ts t => by rw [hmn, hn]
  have HN : Hid (b.length = n ∨ c.length = n) := by have : (b.length : Int) = n ∨ (c.length : Int) = n := by omega
                                                    show _ ∨ _; omega
  clear h h' hb hc hmn hn hnn
  go_enter Try.func55, Try.ntmps55
  go_wp2_with (at_make; refine wp_make (f := wv) 0 sBits rfl _ rfl _ _ rfl .i64 .i64 _ _ n rfl rfl rfl rfl ?c1 ?c2 ?_)
  case c1 => omega
  case c2 => unfold maxLen; omega
  intro s cap2 w1 hown hb
  clear hmn2
  go_wp2_with fail
  go_loopw [6, 15] (fun _ i wr => ∃ k : Nat, k ≤ n ∧ i = .int .i64 k ∧ Hid (Below w.heap.size w wr ∧ OwnW wr w.heap.size 76 (.slice s n cap2) (fillTo (andF b c) k n))) (fun _ i _ => n - (intOf i).toNat)
  case atStart => exact ⟨0, by omega, rfl, hb, by rw [fillTo_zero]; exact hown⟩
  case round =>
    clear hown hb
    obtain ⟨k, hk, rfl, hh⟩ := hrel
    by_cases hlt : k < n
    · have ho := hh.out.2
      have hl := fillTo_len (andF b c) k n
      have hfz := ho.frozen (by omega) (ofs s + k)
      have hblk := ho.blkge (by omega)
      obtain ⟨a2, c2, he, hm2, hidx2, hcell2, _⟩ := ho.lst.out1 sBits
      simp at he
      obtain ⟨rfl, he, rfl⟩ := he
      rw [hl] at hidx2 hcell2
      have hck := hcell2 k hlt
      unfold wv at hck
      have hor : bits BinOp.and IntKind.u64 ((nth b k : Nat) : Int) ((nth c k : Nat) : Int) = ((andF b c k : Nat) : Int) := and_eq (nth b k) (nth c k) (HB.out.1 k) (HB.out.2 k)
      have hkb : k < b.length := by omega
      have hkc : k < c.length := by omega
      have hcb : wr.cell? ⟨blk a, ofs a + k, none⟩ = some (.int .u64 ((nth b k : Nat) : Int)) := by
        rw [hh.out.1.cell (p := ⟨blk a, ofs a + k, none⟩) (hblk0 k hkb)]; exact hcell k hkb
      have hcc : wr.cell? ⟨blk a', ofs a' + k, none⟩ = some (.int .u64 ((nth c k : Nat) : Int)) := by
        rw [hh.out.1.cell (p := ⟨blk a', ofs a' + k, none⟩) (hblk0' k hkc)]; exact hcell' k hkc
      clear ho hl he hm2 hcell2 hcell hcell'
      go_wp2_with fail
      refine wp_region_tail 12 (by kernel_rfl) (by kernel_rfl) ?_
      intro w2 hw2
      subst hw2
      simp only [List.take_succ_cons, List.take_zero, List.drop_succ_cons, List.drop_zero]
      repeat still_step
      refine wpStill_nil ?_
      go_wp2_with fail
      go_roundw
      case rel => exact ⟨k + 1, by omega, by go_num, hh.out.1.drew.setCell hblk.1 _, by
        rw [← fillTo_set]; exact (hh.out.2.qt (Qt.drew _)).set k _⟩
      case measure => simp [intOf]; omega
    · have HF : Hid (OwnW wr w.heap.size 76 (.slice s n cap2) (fillTo (andF b c) n n) ∧ Below w.heap.size w wr) := by
        obtain rfl : k = n := by omega
        exact ⟨hh.out.2, hh.out.1⟩
      clear hh
      go_wp2_with fail
      refine (normal_any _ _ _ _ _ HF.out.1.lst (fillTo_len _ _ _)).mono ?_
      intro e w5 hnp
      obtain ⟨m5, v5, q1, q2, q3, rfl, hv5, q4⟩ := hnp
      have HV := Lib.hid (And.intro hv5 (And.intro q2 q3))
      clear hv5 q2 q3
      go_wp2_with fail
      go_ret
      have hz : ∀ i, n ≤ i → andF b c i = 0 := fun i hi => by
        rcases HN.out with e | e
        · rw [andF, nth_out b i (by omega)]; exact Nat.zero_and _
        · rw [andF, nth_out c i (by omega)]; exact Nat.and_zero _
      refine set_of_norm HF.out.1 (fillTo_len _ _ _) hnN ?_ ?_ HF.out.2 ⟨m5, v5, q1, HV.out.2.1, HV.out.2.2, rfl, HV.out.1, q4⟩
      · intro i; rw [fill_all hz]; exact and_w _ _ (HB.out.1 i)
      · intro x; unfold hasN; rw [fill_all hz]; exact Nat.testBit_and _ _ _

end Go.Proofs.Ytdlfbkmjemamhaa
