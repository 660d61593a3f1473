/- Contracts of heap.Push and heap.Pop on scc's heap of numbers. -/
import Derived.Test.YtchmjgjagaaomaaSch
namespace Go.Proofs.Ytchmjgjagaaomaa
open Go.RowKit Go.Dfl Go.Gra Go.Tj
/-- A heap in its box. -/
def HpO (keep : Nat → Prop) (bq B : Nat) (l : List Nat) (W : World) : Prop := HpS keep bq B l W ∧ Go.Hpl.HeapN l l.length
def HpPushed (keep : Nat → Prop) (bq B : Nat) (l : List Nat) (W W' : World) : Prop := HpF keep W W' ∧ ∃ l', HpO keep bq B l' W' ∧ l'.Perm l
set_option maxHeartbeats 1600000 in
set_option maxRecDepth 100000 in
theorem hPush_any (keep : Nat → Prop) (bq B : Nat) (l : List Nat) (x : Nat) (W : World) (h : HpO keep bq B l W) (hn : l.length < 65536) : Calls Try.prog 45 #[hpV bq, .iface 3 (.int .i64 (x : Int))] W fun e W' => e = .returned (.tuple #[]) ∧ HpPushed keep bq B (l ++ [x]) W W' := by
  obtain ⟨⟨s, n, c, hv⟩, hh⟩ := h
  have hln := hv.len
  rw [hln] at hn hh
  have hp := mPush_any keep bq B s n c l x W hv (by omega)
  have hm := m_push ⟨bq, 0, none⟩
  have HU : Hid (Go.Hpl.UpI (l ++ [x]) (n + 1) n) := Lib.hid (by have h1 := Go.Hpl.UpI.start (l := l) (by rw [hln]; exact hh) x; rw [hln] at h1; exact h1)
  have HL := Lib.hid (And.intro hln hn)
  have hq : wrap64 (n : Int) = (n : Int) := by unfold wrap64; omega
  clear hv hh hln hn
  unfold hpV
  go_enter Try.func45, Try.ntmps45
  go_wp2_with fail
  refine hp.mono ?_
  rintro e W1 ⟨rfl, f1, s1, c1, h1⟩
  clear hp hm
  have hm := hp_method h1 q_len
  have hup := hUp_any keep bq B s1 (n + 1) c1 (l ++ [x]) n
  have H1 := Lib.hid (And.intro f1 h1)
  have hle := mLen_any s1 (n + 1) c1 W1
  clear f1 h1
  go_wp2_with fail
  refine hle.mono ?_
  rintro e W1' ⟨rfl, rfl⟩
  have hu1 := hup _ H1.out.2 (by omega) HU.out
  unfold hpV at hu1
  clear hle hm hup
  go_wp2_with fail
  refine hu1.mono ?_
  rintro e W2 ⟨rfl, f2, l2, v2, p2, h2, -⟩
  have HE : Hid (HpPushed keep bq B (l ++ [x]) W W2) := Lib.hid ⟨H1.out.1.trans f2, l2, ⟨⟨_, _, _, v2⟩, by rw [v2.len]; exact h2⟩, p2⟩
  clear f2 v2 p2 h2 hu1
  go_wp2_with fail
  go_end0
  exact ⟨rfl, HE.out⟩
def HpPopped (keep : Nat → Prop) (bq B : Nat) (l : List Nat) (W W' : World) : Prop := HpF keep W W' ∧ ∃ l', HpO keep bq B l' W' ∧ (nth l 0 :: l').Perm l
set_option maxHeartbeats 1600000 in
set_option maxRecDepth 100000 in
theorem hPop_any (keep : Nat → Prop) (bq B : Nat) (l : List Nat) (W : World) (h : HpO keep bq B l W) (h0 : 0 < l.length) (hn : l.length ≤ 65536) : Calls Try.prog 47 #[hpV bq] W fun e W' => e = .returned (.iface 3 (.int .i64 ((nth l 0 : Nat) : Int))) ∧ HpPopped keep bq B l W W' := by
  obtain ⟨⟨s, n1, c, hv⟩, hh⟩ := h
  have hln := hv.len
  obtain ⟨n, rfl⟩ : ∃ n, n1 = n + 1 := ⟨n1 - 1, by omega⟩
  have hm := hp_method hv q_len
  have hq : wrap64 (n : Int) = (n : Int) := by unfold wrap64; omega
  have hle := mLen_any s (n + 1) c W
  have HU := Lib.hid (And.intro hv (And.intro hh (And.intro hln hn)))
  have hmp := m_pop ⟨bq, 0, none⟩
  clear hv hh hn h0 hln
  unfold hpV
  go_enter Try.func47, Try.ntmps47
  go_wp2_with fail
  refine hle.mono ?_
  rintro e W' ⟨rfl, rfl⟩
  clear hle hm
  have hm := hp_method HU.out.1 q_swap
  have hw : Calls Try.prog 111 #[.slice s (n + 1) c, .int .i64 0, .int .i64 (n : Int)] W' (HpR keep bq B s (n + 1) c (Go.Hpl.swp l 0 n) W') := mSwap_any keep bq B s (n + 1) c l 0 n W' HU.out.1 (by omega) (by omega)
  go_wp2_with fail
  refine hw.mono ?_
  rintro e W1 ⟨rfl, h1, f1⟩
  have hd := hDown_any keep bq B s (n + 1) c (Go.Hpl.swp l 0 n) n W1 h1 (by omega) (by have := HU.out; omega) (Go.Hpl.DnI.start (by have := HU.out; omega) HU.out.2.1)
  unfold hpV at hd
  have H1 := Lib.hid (And.intro h1 f1)
  clear h1 f1 hw hm
  go_wp2_with fail
  refine hd.mono ?_
  rintro e W2 ⟨⟨b, rfl⟩, f2, l2, v2, p2, h2, e2⟩
  have hpp := mPop_any keep bq B s n c l2 W2 v2
  have hx : nth l2 n = nth l 0 := by
    have := HU.out
    rw [e2 n (Nat.le_refl _), Go.Hpl.nth_swp (by omega) (by omega), if_pos rfl]
  rw [hx] at hpp
  have hl2 := v2.len
  have HE : Hid (∀ Z, HpP keep bq B n (l2.take n) W2 Z → HpPopped keep bq B l W' Z) := Lib.hid fun Z hz => by
    obtain ⟨g1, s3, c3, g2⟩ := hz
    refine ⟨H1.out.2.trans (f2.trans g1), l2.take n, ⟨⟨_, _, _, g2⟩, fun k k0 k1 => ?_⟩, ?_⟩
    · rw [g2.len] at k1
      have := h2 k k0 k1
      unfold nth at this ⊢
      simp only [List.getD_eq_getElem?_getD] at this ⊢
      rw [List.getElem?_take_of_lt (by omega), List.getElem?_take_of_lt k1]
      exact this
    · have h7 : l2 = l2.take n ++ [nth l2 n] := by
        have := take_snoc l2 n (by omega)
        rw [← this, List.take_of_length_le (by omega)]
      have h8 : (l2.take n ++ [nth l2 n]).Perm l := by rw [← h7]; exact p2.trans (Go.Hpl.swp_perm (by have := HU.out; omega) (by have := HU.out; omega))
      rw [hx] at h8
      exact (List.perm_append_comm (l₁ := [nth l 0])).trans h8
  clear f2 v2 p2 h2 e2 hx hl2 hd
  go_wp2_with fail
  refine hpp.mono ?_
  rintro e W3 ⟨rfl, h3⟩
  have HF := Lib.hid (HE.out _ h3)
  clear hpp h3
  go_wp2_with fail
  go_ret
  exact ⟨rfl, HF.out⟩
end Go.Proofs.Ytchmjgjagaaomaa
