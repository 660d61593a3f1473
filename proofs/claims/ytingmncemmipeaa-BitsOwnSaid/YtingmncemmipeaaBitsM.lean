/- The reference's Make: the set of an ascending list, in normal form. -/
import Derived.Test.YtingmncemmipeaaBitsF
import Derived.Deep.LoopGhost
namespace Go.Proofs.Ytingmncemmipeaa
open Go.RowKit Go.Dfl

/-- The words so far: the set of the first k elements of an ascending list. -/
structure MkInv (l : List Int) (k : Nat) (R : List Nat) : Prop where
  wds : Wds R
  has : ∀ y, hasN R y = decide ((y : Int) ∈ l.take k)
  len : (k = 0 ∧ R.length = 0) ∨ (0 < k ∧ R.length = (nth l (k - 1)).toNat / 64 + 1)

theorem or_add {a j : Nat} (h : a < 2 ^ j) : a + 2 ^ j = a ||| 2 ^ j := by
  rw [Nat.or_comm, nat_join j (2 ^ j) a (Nat.mod_self _) h, Nat.add_comm]

theorem mem_take_lt {l : List Int} (hl : Asc l) {k : Nat} (hk : k < l.length) {y : Int} (h : y ∈ l.take k) : y < nth l k := by
  obtain ⟨j, hj, rfl⟩ := mem_nth h
  simp at hj
  have hjk : j < k := by omega
  have : nth (l.take k) j = nth l j := by simp [nth, List.getElem?_take, hjk]
  rw [this]; exact hl.nth hjk hk

theorem MkInv.low {l : List Int} {k : Nat} {R : List Nat} (hl : Asc l) (h0 : ∀ y ∈ l, 0 ≤ y) (h : MkInv l k R) (hk : k < l.length) : nth R ((nth l k).toNat / 64) < 2 ^ ((nth l k).toNat % 64) := by
  apply Nat.lt_pow_two_of_testBit
  intro i hi
  by_cases h64 : i < 64
  · have := h.has ((nth l k).toNat / 64 * 64 + i)
    rw [hasN_at _ _ _ h64] at this
    rw [this, decide_eq_false_iff_not]
    intro hm
    have h1 := mem_take_lt hl hk hm
    have h2 := h0 _ (nth_mem l k hk)
    omega
  · exact (h.wds _).bit i (by omega)

theorem MkInv.pad {l : List Int} {k : Nat} {R : List Nat} (h : MkInv l k R) (n : Nat) : Wds (R ++ List.replicate n 0) ∧ ∀ y, hasN (R ++ List.replicate n 0) y = decide ((y : Int) ∈ l.take k) :=
  ⟨fun i => by rw [nth_pad]; exact h.wds i, fun y => by rw [← h.has y]; unfold hasN; rw [nth_pad]⟩

theorem MkInv.step {l : List Int} {k : Nat} {R : List Nat} (h : Wds R) (hp : ∀ y, hasN R y = decide ((y : Int) ∈ l.take k)) (hk : k < l.length) {m : Nat} (hm : nth l k = m) (hlen : R.length = m / 64 + 1) :
    MkInv l (k + 1) (R.set (m / 64) (nth R (m / 64) ||| 2 ^ (m % 64))) := by
  refine ⟨fun i => ?_, fun y => ?_, .inr ⟨by omega, ?_⟩⟩
  · rw [nth_set]; split
    · exact or_w _ _ (h _) (pow_w _ (by omega))
    · exact h i
  · rw [hasN_set _ _ _ _ (by omega), take_snoc l k hk, hm]
    have hd : decide ((y : Int) ∈ l.take k ++ [(m : Int)]) = (decide ((y : Int) ∈ l.take k) || decide ((y : Int) = (m : Int))) := by
      rw [Bool.eq_iff_iff]; simp
    rw [hd, ← hp y]
    split
    · rename_i e
      have hd2 : decide (m % 64 = y % 64) = decide ((y : Int) = (m : Int)) := by rw [decide_eq_decide]; omega
      rw [Nat.testBit_or, Nat.testBit_two_pow, hasN, e, hd2]
    · rename_i e
      have : ¬ (y : Int) = (m : Int) := by intro h; apply e; omega
      simp [this]
  · rw [List.length_set, hlen]
    simp [hm]

theorem MkInv.norm {l : List Int} {R : List Nat} (h0 : ∀ y ∈ l, 0 ≤ y) (h : MkInv l l.length R) : Norm R := by
  rcases h.len with ⟨_, h1⟩ | ⟨h1, h2⟩
  · exact .inl h1
  · right
    have hm := h.has (nth l (l.length - 1)).toNat
    have h3 := h0 _ (nth_mem l (l.length - 1) (by omega))
    rw [Int.toNat_of_nonneg h3, List.take_length] at hm
    have hin : nth l (l.length - 1) ∈ l := nth_mem _ _ (by omega)
    simp only [hin, decide_true] at hm
    rw [h2, Nat.add_sub_cancel]
    intro e
    rw [hasN, e] at hm; simp at hm

/-- What Make returns. -/
def MakePost (l : List Int) (w : World) (e : Ending) (w' : World) : Prop := ∃ v r, e = .returned v ∧ OwnW w' w.heap.size 54 v r ∧ Wds r ∧ Norm r ∧ (∀ y, hasN r y = decide ((y : Int) ∈ l)) ∧ Below w.heap.size w w'

set_option maxHeartbeats 1600000 in
theorem Make_any (v : Value) (l : List Int) (w : World) (h : Ints w v l) (hl : Asc l) (hb : ∀ y ∈ l, 0 ≤ y ∧ y < 67108864) (hlen : l.length ≤ 67108864) :
    Calls Try.prog 14 #[v] w (MakePost l w) := by
  obtain ⟨a, cap, rfl, hm, hidx, hcell, hblk⟩ := h.out1 sInt
  have HC := Lib.hid (And.intro hcell (And.intro hblk (And.intro hl hb)))
  clear h hcell hblk hl hb
  go_enter Try.func14, Try.ntmps14
  go_wp2_with fail
  go_loopw [3, 4, 5, 6] (fun o i _ _ wr => ∃ (k : Nat) (R : List Nat), k ≤ l.length ∧ i = .int .i64 k ∧ Hid (MkInv l k R ∧ OwnW wr w.heap.size 54 o R ∧ Below w.heap.size w wr)) (fun _ i _ _ _ => l.length - (intOf i).toNat)
  case atStart => exact ⟨0, [], by omega, rfl, ⟨fun i => by rw [nth_out _ _ (by simp)]; exact W64.zero, fun y => by rw [hasN_out _ _ (by simp)]; simp, .inl ⟨rfl, rfl⟩⟩, Own.nil _ _ _ _, Below.refl _ _⟩
  case round =>
    obtain ⟨k, R, hk, rfl, hh⟩ := hrel
    by_cases hlt : k < l.length
    · have hbk := HC.out.2.2.2 _ (nth_mem l k hlt)
      obtain ⟨m, hm2⟩ := Int.eq_ofNat_of_zero_le hbk.1
      have HM := Lib.hid hm2
      have hmb : m < 67108864 := by omega
      have hlenR : R.length ≤ m / 64 + 1 := by
        rcases hh.out.1.len with ⟨_, e⟩ | ⟨e1, e2⟩
        · omega
        · have := HC.out.2.2.1.nth (by omega : k - 1 < k) hlt; omega
      have hpd := hh.out.1.pad
      have hlow := hh.out.1.low HC.out.2.2.1 (fun y hy => (HC.out.2.2.2 y hy).1) hlt
      rw [hm2] at hlow
      simp only [Int.toNat_natCast] at hlow
      have HP := Lib.hid (And.intro hpd hlow)
      clear hbk hm2 hpd hlow
      go_wp2_with fail
      go_loopg [3] (m / 64 + 1 - R.length) (fun g o wr => ∃ n : Nat, R.length + n + g = m / 64 + 1 ∧ Hid (OwnW wr w.heap.size 54 o (R ++ List.replicate n 0) ∧ Below w.heap.size w wr))
      case atStart => exact ⟨0, by omega, by simpa using hh.out.2.1, hh.out.2.2⟩
      case round =>
        have HH := Lib.hid hh.out.1
        clear hh
        obtain ⟨n, hn, hh⟩ := hrel
        have hck : wr.cell? ⟨blk a, ofs a + k, none⟩ = some (.int .i64 (m : Int)) := by
          rw [hh.out.2.cell (p := ⟨blk a, ofs a + k, none⟩) (HC.out.2.1 k hlt), HC.out.1 k hlt, HM.out]
        have hlR : (R ++ List.replicate n 0).length = R.length + n := by simp
        obtain ⟨s3, c3, rfl⟩ := hh.out.1.shape hlR
        by_cases hg : gk = 0
        · have hlq : R.length + n = m / 64 + 1 := by omega
          have HQ := Lib.hid hlq
          have hdec : decide (((R.length + n : Nat) : Int) ≤ (m : Int) / 64) = false := by simp; omega
          simp only [Int.natCast_add] at hdec
          clear hlq hn
          go_wp2_with fail
          go_loopg [5, 6] (m % 64) (fun g o x wr2 => ∃ j p : Nat, j + g = m % 64 ∧ x = .int .i64 (j : Int) ∧ o = .int .u64 (p : Int) ∧ wr2 = wr ∧ Hid (p = 2 ^ j))
          case atStart => exact ⟨0, 1, by omega, rfl, rfl, rfl, rfl⟩
          case round =>
            obtain ⟨j, p, hj, rfl, rfl, rfl, hp⟩ := hrel
            by_cases hlj : j < m % 64
            · have hwr : IntKind.u64.wrap (2 * (p : Int)) = ((2 * p : Nat) : Int) := by
                have := pow_wrap (j + 1) (by omega)
                rw [hp.out]
                have e1 : (2 : Int) * ((2 ^ j : Nat) : Int) = (2 : Int) ^ (j + 1) := by rw [Int.pow_succ, Int.natCast_pow]; simp [Int.mul_comm]
                have e2 : 2 * 2 ^ j = 2 ^ (j + 1) := by rw [Nat.pow_succ]; omega
                rw [e1, e2]; exact this
              go_wp2_with fail
              go_roundg (m % 64 - (j + 1))
              case measure => omega
              case rel => exact ⟨j + 1, 2 * p, by omega, by go_num, rfl, rfl, by show _ = _; rw [hp.out, Nat.pow_succ]; omega⟩
            · obtain rfl : j = m % 64 := by omega
              obtain ⟨hbw, ho⟩ := And.intro hh.out.2 hh.out.1
              have hlq := HQ.out
              have hfz := ho.frozen (by omega) (ofs s3 + m / 64)
              have hbl := ho.blkge (by omega)
              obtain ⟨a2, c2, he, hm3, hidx2, hcell2, _⟩ := ho.lst.out1 sU64
              simp at he
              obtain ⟨rfl, he, rfl⟩ := he
              rw [hlR] at hidx2 hcell2
              have hcr := hcell2 (m / 64) (by omega)
              rw [nth_pad] at hcr
              unfold wv at hcr
              have hi2 := hidx2 .i64 ((m : Int) / 64) (by omega) (by omega)
              rw [show ((m : Int) / 64).toNat = m / 64 by omega] at hi2
              have hlow := HP.out.2
              have hadd : IntKind.u64.wrap (((nth R (m / 64) : Nat) : Int) + (p : Int)) = ((nth R (m / 64) ||| 2 ^ (m % 64) : Nat) : Int) := by
                have h1 := or_add hlow
                have h2 := or_w _ _ (HH.out.wds (m / 64)) (pow_w (m % 64) (by omega))
                rw [← h1] at h2 ⊢
                rw [hp.out, IntKind.wrap_u64]
                unfold W64 at h2
                generalize (2 : Nat) ^ (m % 64) = pp at *
                omega
              clear hbw ho hlq hm3 hidx2 hcell2 hlow
              go_wp2_with fail
              have hwq : IntKind.i64.wrap ((m : Int) / 64) = (m : Int) / 64 := IntWalk.i64_in _ (by omega)
              refine wp_region_tail 17 (by kernel_rfl) (by kernel_rfl) ?_
              intro w2 hw2
              subst hw2
              simp only [List.take_succ_cons, List.take_zero, List.drop_succ_cons, List.drop_zero]
              repeat still_step
              refine wpStill_nil ?_
              clear hwq
              go_wp2_with fail
              go_roundw
              case rel =>
                have hst := MkInv.step (HP.out.1 n).1 (HP.out.1 n).2 hlt (m := m) HM.out (by rw [hlR]; exact HQ.out)
                rw [nth_pad] at hst
                exact ⟨k + 1, _, by omega, by go_num, hst, (hh.out.1.qt (Qt.drew _)).set _ _, hh.out.2.drew.setCell hbl.1 _⟩
              case measure => simp [intOf]; omega
        · have hle : ((R.length : Int) + n) ≤ (m : Int) / 64 := by omega
          have hsz := hh.out.2.size
          have hll : (R ++ List.replicate n 0).length < 17592186044416 := by rw [hlR]; omega
          have HL := Lib.hid (And.intro hll hlR)
          clear hll hlR
          go_wp2_with (at_builtin; refine wp_append1 (f := wv) sU64 rfl _ rfl _ _ rfl w.heap.size _ (R ++ List.replicate n 0) rfl (hh.out.1.alloc _) 0 ⟨wr.heap.size, 0, none⟩ rfl (by simp [go_sem, wv]) rfl HL.out.1 (by omega) (by simp; omega) ?_; intro v' w2 hown hgr hb2)
          go_roundg (gk - 1)
          case measure => omega
          case rel => exact ⟨n + 1, by omega, by
            rw [List.replicate_succ', ← List.append_assoc]; exact hown, (hh.out.2.alloc hsz _).trans hb2⟩
    · have HF := Lib.hid hh.out
      clear hh
      go_wp2_with fail
      go_ret
      obtain ⟨h1, h2, h3⟩ := HF.out
      obtain rfl : k = l.length := by omega
      exact ⟨_, R, rfl, h2, h1.wds, h1.norm (fun y hy => (HC.out.2.2.2 y hy).1), fun y => by rw [h1.has y, List.take_length], h3⟩

end Go.Proofs.Ytingmncemmipeaa
