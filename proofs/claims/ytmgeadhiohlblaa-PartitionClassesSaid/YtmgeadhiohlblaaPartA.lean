/- Contracts of the functions of package partition that only read, and of New. -/
import Derived.Test.YtmgeadhiohlblaaBase
import Derived.Test.YtmgeadhiohlblaaRows
namespace Go.Proofs.Ytmgeadhiohlblaa
open Go.RowKit Go.Dfl

theorem sInt : SliceOf Try.prog 24 3 (.int .i64 0) 1 8 := ⟨Try.underlying24, info_parts (P := Try.prog) (e := 3) (by kernel_rfl)⟩

def chkFrom (l : List Int) : Nat → Nat → Int
  | 0, _ => 0
  | n+1, i => if nth l i < 0 ∨ nth l i > i then 4 else if nth l (nth l i).toNat ≠ nth l i then 1 else chkFrom l n (i+1)
def chk (l : List Int) : Int := if l.length > 8192 then 3 else chkFrom l l.length 0

set_option maxHeartbeats 400000 in
theorem Check_any (v : Value) (l : List Int) (w : World) (h : Ints w v l) :
    Calls Try.prog 19 #[v] w fun e w' => e = .returned (.int .i64 (chk l)) ∧ Qt w w' := by
  obtain ⟨a, cap, rfl, hm, hidx, hcell, _⟩ := h.out1 sInt
  clear h
  by_cases hbig : 8192 < l.length
  · go_enter Try.func19, Try.ntmps19
    go_wp2
    go_ret
    exact ⟨ret_int (by simp [chk, hbig]), Qt.refl _⟩
  · have hd : decide (8192 < l.length) = false := by simpa using hbig
    go_enter Try.func19, Try.ntmps19
    go_wp2
    go_loop [3, 4, 10] (fun _ _ i => ∃ k : Nat, k ≤ l.length ∧ i = .int .i64 k ∧ chk l = chkFrom l (l.length - k) k) (fun _ _ i => l.length - (intOf i).toNat)
    case atStart => exact ⟨0, by omega, rfl, by simp [chk]; omega⟩
    case round =>
      obtain ⟨k, hk, rfl, hch⟩ := hrel
      by_cases hlt : k < l.length
      · have hck := hcell k hlt
        obtain ⟨d, hd⟩ : ∃ d, l.length - k = d + 1 := ⟨l.length - k - 1, by omega⟩
        have hd' : l.length - (k+1) = d := by omega
        rw [hd, chkFrom] at hch
        rw [← hd'] at hch
        have Hch := Lib.hid hch; clear hch hd hd'
        by_cases h1 : nth l k < 0
        · go_wp2
          go_ret
          exact ⟨ret_int (by rw [Hch.out, if_pos (by omega)]), Qt.refl _⟩
        · by_cases h2 : k < nth l k
          · go_wp2
            go_ret
            exact ⟨ret_int (by rw [Hch.out, if_pos (by omega)]), Qt.refl _⟩
          · have hck2 := hcell (nth l k).toNat (by omega)
            have h3 : 0 ≤ nth l k := by omega
            have h4 : nth l k < l.length := by omega
            by_cases h5 : nth l (nth l k).toNat = nth l k
            · have h6 : (nth l (nth l k).toNat != nth l k) = false := by simpa using h5
              have H5 := Lib.hid h5
              clear h5
              go_wp2
              go_round
              case rel => exact ⟨k + 1, by omega, by go_num, by rw [Hch.out, if_neg (by omega), if_neg (by simpa using H5.out)]⟩
              case measure => simp [intOf]; omega
            · have h6 : (nth l (nth l k).toNat != nth l k) = true := by simpa using h5
              go_wp2
              go_ret
              exact ⟨ret_int (by rw [Hch.out, if_neg (by omega), if_pos h5]), Qt.refl _⟩
      · go_wp2
        go_ret
        exact ⟨ret_int (by simp [show l.length - k = 0 by omega, chkFrom]), Qt.refl _⟩

set_option maxHeartbeats 400000 in
theorem member_any0 (v : Value) (l : List Int) (x : Int) (w : World) (h : Ints w v l) :
    Calls Try.prog 25 #[v, .int .i64 x] w fun e w' => e = .returned (.bool (decide (0 ≤ x ∧ x < l.length))) ∧ Qt w w' := by
  obtain ⟨a, cap, rfl, hm, hidx, hcell, _⟩ := h.out1 sInt
  clear h hidx hcell
  by_cases h1 : 0 ≤ x
  · go_enter Try.func25, Try.ntmps25
    go_wp2
    go_ret
    exact ⟨ret_bool (by simp [h1]), Qt.refl _⟩
  · have h1' : decide (0 ≤ x) = false := by simpa using h1
    go_enter Try.func25, Try.ntmps25
    go_wp2
    go_ret
    exact ⟨ret_bool (by simp), Qt.refl _⟩

def memB (n : Nat) (x : Int) : Bool := decide (0 ≤ x ∧ x < n)
theorem memB_iff {n : Nat} {x : Int} : memB n x = true ↔ 0 ≤ x ∧ x < n := by simp [memB]
theorem member_any (v : Value) (l : List Int) (x : Int) (w : World) (h : Ints w v l) :
    Calls Try.prog 25 #[v, .int .i64 x] w fun e w' => e = .returned (.bool (memB l.length x)) ∧ Qt w w' := member_any0 v l x w h

def upto (n : Nat) : List Int := (List.range n).map (Int.ofNat ·)

set_option maxHeartbeats 400000 in
theorem New_out (n : Int) (w : World) (h : n < 0 ∨ 8192 < n) :
    Calls Try.prog 13 #[.int .i64 n] w fun e w' => e = .returned (.tuple #[.slice none 0 0, .int .i64 4]) ∧ w = w' := by
  by_cases h1 : n < 0
  · go_enter Try.func13, Try.ntmps13
    go_wp2
    go_ret2
    exact ⟨rfl, rfl⟩
  · have h2 : 8192 < n := by omega
    go_enter Try.func13, Try.ntmps13
    go_wp2
    go_ret2
    exact ⟨rfl, rfl⟩

def NewPost (n : Nat) (w : World) (e : Ending) (w' : World) : Prop := ∃ v, e = .returned (.tuple #[v, .int .i64 0]) ∧ OwnI w' w.heap.size 3 v (upto n) ∧ Below w.heap.size w w'

theorem upto_len (n : Nat) : (upto n).length = n := by simp [upto]
theorem upto_nth (n i : Nat) (h : i < n) : nth (upto n) i = i := by simp [upto, nth, h]
theorem upto_step (n k : Nat) (h : k < n) : (upto k ++ List.replicate (n - k) 0).set k (k : Int) = upto (k + 1) ++ List.replicate (n - (k + 1)) 0 := by
  apply nth_ext
  · simp [upto_len]; omega
  · intro i hi
    simp [upto_len] at hi
    rw [nth_set, nth_append, nth_append]
    simp only [upto_len, List.length_append, List.length_replicate]
    by_cases h1 : k = i
    · subst h1
      rw [if_pos (by omega), if_pos (by omega), upto_nth _ _ (by omega)]
    · rw [if_neg (by omega)]
      by_cases h2 : i < k
      · rw [if_pos h2, if_pos (by omega), upto_nth _ _ h2, upto_nth _ _ (by omega)]
      · rw [if_neg h2, if_neg (by omega)]
        simp [nth, List.getElem?_replicate]
        rw [if_pos (by omega), if_pos (by omega)]

set_option maxHeartbeats 400000 in
theorem New_in (n : Nat) (w : World) (h : n ≤ 8192) :
    Calls Try.prog 13 #[.int .i64 n] w (NewPost n w) := by
  go_enter Try.func13, Try.ntmps13
  go_wp2_with (at_make; refine wp_make (0 : Int) sInt rfl _ rfl _ _ rfl .i64 .i64 _ _ n rfl rfl rfl rfl ?c1 ?c2 ?_)
  case c1 => omega
  case c2 => unfold maxLen; omega
  intro s cap w1 hown hb
  go_wp2
  go_loopw [5, 16] (fun _ i wr => ∃ k : Nat, k ≤ n ∧ i = .int .i64 k ∧ Below w.heap.size w wr ∧ OwnI wr w.heap.size 3 (.slice s n cap) (upto k ++ List.replicate (n - k) 0)) (fun _ i _ => n - (intOf i).toNat)
  case atStart => exact ⟨0, by omega, rfl, hb, by simpa [upto] using hown⟩
  case round =>
    obtain ⟨k, hk, rfl, hbw, ho⟩ := hrel
    by_cases hlt : k < n
    · have hl : (upto k ++ List.replicate (n - k) 0).length = n := by simp [upto_len]; omega
      have hs := upto_step n k hlt
      have hset := ho.set k k
      have hfz := ho.frozen (by omega) (ofs s + k)
      have hblk := ho.blkge (by omega)
      obtain ⟨a, c2, he, hm, hidx, hcell, _⟩ := ho.lst.out1 sInt
      simp at he
      obtain ⟨rfl, he, rfl⟩ := he
      rw [hl] at hidx hcell
      have hck := hcell k hlt
      have hb2 : Below w.heap.size w (wr.setCell ⟨blk s, ofs s + k, none⟩ (.int .i64 k)) := hbw.setCell hblk.1 _
      rw [hs] at hset
      have Hset := Lib.hid hset
      clear hset hs hl he hm hcell ho
      go_wp2
      go_roundw
      case rel => exact ⟨k + 1, by omega, by go_num, hb2, Hset.out⟩
      case measure => simp [intOf]; omega
    · obtain rfl : k = n := by omega
      go_wp2
      go_ret2
      exact ⟨_, rfl, by simpa using ho, hbw⟩

theorem New_any (n : Int) (w : World) : Calls Try.prog 13 #[.int .i64 n] w fun e w' => 
    (e = .returned (.tuple #[.slice none 0 0, .int .i64 4]) ∧ (n < 0 ∨ 8192 < n) ∧ w = w') ∨ (0 ≤ n ∧ n ≤ 8192 ∧ NewPost n.toNat w e w') := by
  by_cases h : n < 0 ∨ 8192 < n
  · exact (New_out n w h).mono fun e w' ⟨a, b⟩ => .inl ⟨a, h, b⟩
  · obtain ⟨m, rfl⟩ := Int.eq_ofNat_of_zero_le (by omega : 0 ≤ n)
    exact (New_in m w (by omega)).mono fun e w' a => .inr ⟨by omega, by omega, by simpa using a⟩

set_option maxHeartbeats 400000 in
theorem RNew_in (n : Nat) (w : World) (h : n ≤ 8192) :
    Calls Try.prog 14 #[.int .i64 n] w (NewPost n w) := by
  go_enter Try.func14, Try.ntmps14
  go_wp2
  go_loopw [4, 5] (fun v i wr => ∃ k : Nat, k ≤ n ∧ i = .int .i64 k ∧ Below w.heap.size w wr ∧ OwnI wr w.heap.size 3 v (upto k)) (fun _ i _ => n - (intOf i).toNat)
  case atStart => exact ⟨0, by omega, rfl, Below.refl _ _, Own.nil _ _ _ _⟩
  case round =>
    obtain ⟨k, hk, rfl, hbw, ho⟩ := hrel
    by_cases hlt : k < n
    · have hsz := hbw.size
      have hu : upto k ++ [(k : Int)] = upto (k + 1) := by simp [upto, List.range_succ]
      have Hu := Lib.hid hu
      clear hu
      go_wp2_with (at_builtin; refine wp_append1 (f := Value.int .i64) sInt rfl _ rfl _ _ rfl w.heap.size _ (upto k) rfl (ho.alloc _) (k : Int) ⟨wr.heap.size, 0, none⟩ rfl (by simp [go_sem]) rfl (by rw [upto_len]; omega) (by omega) (by simp; omega) ?_; intro v' w2 hown hgr hb2)
      go_roundw
      case rel => exact ⟨k + 1, by omega, by go_num, (hbw.alloc hsz _).trans hb2, by rw [← Hu.out]; exact hown⟩
      case measure => simp [intOf]; omega
    · obtain rfl : k = n := by omega
      go_wp2
      go_ret2
      exact ⟨_, rfl, ho, hbw⟩

end Go.Proofs.Ytmgeadhiohlblaa
