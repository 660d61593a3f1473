/- The reference's Of; 'awake'. -/
import Derived.Test.YtmgeadhiohlblaaPartF
import Derived.StillTailTactics
namespace Go.Proofs.Ytmgeadhiohlblaa
open Go.RowKit Go.Dfl

theorem joinL_same (P : List Int) (z : Int) : joinL P z z = P := by
  unfold joinL
  conv => rhs; rw [← List.map_id P]
  apply List.map_congr_left
  intro x _
  simp only [id]
  split
  · rename_i h; exact h.symm
  · rfl
theorem mn_self (a : Int) : mn a a = a := by simp [mn]
theorem mx_self (a : Int) : mx a a = a := by simp [mx]
theorem ofL_len (n : Nat) (pairs : List (Int × Int)) : (ofL n pairs).length = n := by
  unfold ofL
  have : ∀ (l : List (Int × Int)) (P : List Int), (l.foldl ofStep P).length = P.length := by
    intro l
    induction l with
    | nil => intro P; rfl
    | cons d l ih => intro P; simp only [List.foldl_cons]; rw [ih]; simp [ofStep, joinOf, joinL]
  rw [this, upto_len]

theorem RNew_out (n : Int) (w : World) (h : n < 0 ∨ 8192 < n) :
    Calls Try.prog 14 #[.int .i64 n] w fun e w' => e = .returned (.tuple #[.slice none 0 0, .int .i64 4]) ∧ w = w' := by
  by_cases h1 : n < 0
  · go_enter Try.func14, Try.ntmps14
    go_wp2
    go_ret2
    exact ⟨rfl, rfl⟩
  · have h2 : 8192 < n := by omega
    go_enter Try.func14, Try.ntmps14
    go_wp2
    go_ret2
    exact ⟨rfl, rfl⟩

set_option maxHeartbeats 1600000 in
set_option maxRecDepth 100000 in
theorem ROf_any (n : Int) (v : Value) (pairs : List (Int × Int)) (w : World) (h : Pairs w v pairs) :
    Calls Try.prog 12 #[.int .i64 n, v] w (OfPost n pairs w) := by
  obtain ⟨a, cap, rfl, hm, hidx, hcell, hblk⟩ := h.out2 sEdge
  clear h
  by_cases hn : n < 0 ∨ 8192 < n
  · have hbad : ofOk n pairs = false := by simp [ofOk]; omega
    go_enter Try.func12, Try.ntmps12
    go_wp2_with fail
    refine (RNew_out n _ hn).mono ?_; rintro e w' ⟨rfl, rfl⟩
    go_wp2_with fail
    go_ret2
    exact .inl ⟨hbad, rfl, Below.refl _ _⟩
  · obtain ⟨n, rfl⟩ := Int.eq_ofNat_of_zero_le (by omega : 0 ≤ n)
    have hn2 : n ≤ 8192 := by omega
    clear hn
    go_enter Try.func12, Try.ntmps12
    go_wp2_with fail
    refine (RNew_in n _ hn2).mono ?_; rintro e w1 ⟨v, rfl, ho, hb⟩
    obtain ⟨s, cap2, rfl⟩ := ho.shape (upto_len n)
    have hcw : ∀ k, k < pairs.length → w1.cell? ⟨blk a, ofs a + k * 2, none⟩ = some (.int .i64 (nth pairs k).1) ∧ w1.cell? ⟨blk a, ofs a + k * 2 + 1, none⟩ = some (.int .i64 (nth pairs k).2) := fun k hk => by
      rw [hb.cell (p := ⟨blk a, ofs a + k * 2, none⟩) (hblk k hk), hb.cell (p := ⟨blk a, ofs a + k * 2 + 1, none⟩) (hblk k hk)]
      simpa using hcell k hk
    have HO := Lib.hid (And.intro ho hb)
    have HW := Lib.hid hcw
    clear ho hb hcw
    go_wp2_with fail
    go_loop [8] (fun i => ∃ k : Nat, k ≤ pairs.length ∧ i = .int .i64 k ∧ Hid ((pairs.take k).all (okB n) = true)) (fun i => pairs.length - (intOf i).toNat)
    case atStart => exact ⟨0, by omega, rfl, rfl⟩
    case round =>
      obtain ⟨k, hk, rfl, hall⟩ := hrel
      by_cases hlt : k < pairs.length
      · obtain ⟨c1, c2⟩ := HW.out k hlt
        by_cases hok : okB n (nth pairs k) = true
        · have hok' := hok
          simp only [okB, Bool.and_eq_true, memB_iff] at hok'
          obtain ⟨⟨p1, p2⟩, p3, p4⟩ := hok'
          have HK := Lib.hid hok
          clear hok
          go_wp2_with fail
          go_round
          case rel => exact ⟨k + 1, by omega, by go_num, (ofOk_snoc hlt hall.out).trans HK.out⟩
          case measure => simp [intOf]; omega
        · have hb0 : ofOk n pairs = false := by
            simp only [ofOk, Int.toNat_natCast, ofOk_bad hlt (by simpa using hok), Bool.and_false]
          have hbad : (nth pairs k).1 < 0 ∨ n ≤ (nth pairs k).1 ∨ (nth pairs k).2 < 0 ∨ n ≤ (nth pairs k).2 := by
            simp only [okB, Bool.and_eq_true, memB_iff] at hok; omega
          have HB := Lib.hid hb0
          clear hok hb0
          by_cases k1 : (nth pairs k).1 < 0
          · go_wp2_with fail
            go_ret2
            exact .inl ⟨HB.out, rfl, HO.out.2⟩
          by_cases k2 : n ≤ (nth pairs k).1
          · go_wp2_with fail
            go_ret2
            exact .inl ⟨HB.out, rfl, HO.out.2⟩
          by_cases k3 : (nth pairs k).2 < 0
          · go_wp2_with fail
            go_ret2
            exact .inl ⟨HB.out, rfl, HO.out.2⟩
          have k4 : n ≤ (nth pairs k).2 := by omega
          go_wp2_with fail
          go_ret2
          exact .inl ⟨HB.out, rfl, HO.out.2⟩
      · have HA : Hid (pairs.all (okB n) = true) := by have := hall.out; rw [List.take_of_length_le (by omega)] at this; exact this
        clear hall
        go_wp2_with fail
        go_loopw [6, 9] (fun v i wr => ∃ (k : Nat), k ≤ pairs.length ∧ i = .int .i64 k ∧ Hid (OwnI wr w.heap.size 3 v (ofL n (pairs.take k)) ∧ Below w.heap.size w wr)) (fun _ i _ => pairs.length - (intOf i).toNat)
        case atStart => exact ⟨0, by omega, rfl, HO.out.1, HO.out.2⟩
        case round =>
          clear HO HW
          obtain ⟨k, hk, rfl, hh⟩ := hrel
          by_cases hlt : k < pairs.length
          · obtain ⟨ho, hb⟩ := hh.out
            have hl := ofL_len n (pairs.take k)
            generalize hP : ofL n (pairs.take k) = P at *
            obtain ⟨s3, cap3, rfl⟩ := ho.shape hl
            have c1 : wr.cell? ⟨blk a, ofs a + k * 2, none⟩ = some (.int .i64 (nth pairs k).1) := by
              rw [hb.cell (p := ⟨blk a, ofs a + k * 2, none⟩) (hblk k hlt)]; simpa using (hcell k hlt).1
            have c2 : wr.cell? ⟨blk a, ofs a + k * 2 + 1, none⟩ = some (.int .i64 (nth pairs k).2) := by
              rw [hb.cell (p := ⟨blk a, ofs a + k * 2 + 1, none⟩) (hblk k hlt)]; simpa using (hcell k hlt).2
            have hok := List.all_eq_true.1 HA.out _ (nth_mem _ _ hlt)
            simp only [okB, Bool.and_eq_true, memB_iff] at hok
            obtain ⟨⟨p1, p2⟩, p3, p4⟩ := hok
            obtain ⟨x, hx⟩ := Int.eq_ofNat_of_zero_le p1
            obtain ⟨y, hy⟩ := Int.eq_ofNat_of_zero_le p3
            have hE := ofL_snoc n pairs k hlt x y hx hy
            rw [hP] at hE
            rw [hx] at c1
            rw [hy] at c2
            have hxn : x < n := by omega
            have hyn : y < n := by omega
            have hsz := hb.size
            obtain ⟨a2, c3, he, hm2, hidx2, hcell2, _⟩ := ho.lst.out1 sInt
            simp at he
            obtain ⟨rfl, he, rfl⟩ := he
            rw [hl] at hidx2 hcell2
            have hcx := hcell2 x hxn
            have hcy := hcell2 y hyn
            have HH := Lib.hid (And.intro ho (And.intro hb (And.intro hl hE)))
            clear hh ho hb hl hcell2 he hm2 hE hP p1 p2 p3 p4 hx hy
            by_cases heq : nth P x = nth P y
            · have h6 : (nth P x != nth P y) = false := by simpa using heq
              have HQ := Lib.hid heq
              clear heq
              go_wp2_with fail
              go_quiet (fail)
              go_wp2_with fail
              go_roundw
              case rel =>
                obtain ⟨ho, hb, hl, hE⟩ := HH.out
                refine ⟨k + 1, by omega, by go_num, ?_, below_drewN hb _⟩
                rw [hE, HQ.out, mn_self, mx_self, joinL_same]; exact ho.qt (by first | exact Qt.refl _ | exact Qt.drewN _ _ | exact (Qt.drewN _ _).trans (Qt.drewN _ _) | exact ((Qt.drewN _ _).trans (Qt.drewN _ _)).trans (Qt.drewN _ _) | exact Qt.drew _ | exact (Qt.drewN _ _).trans (Qt.drew _))
              case measure => simp [intOf]; omega
            · have h6 : (nth P x != nth P y) = true := by simpa using heq
              clear heq
              go_wp2_with fail
              go_quiet (fail)
              go_wp2_with fail
              refine wp_region_tail 11 (by kernel_rfl) (by kernel_rfl) ?_
              intro w2 hw2
              rw [World.drew_drewN] at hw2
              subst hw2
              simp only [List.take_succ_cons, List.take_zero, List.drop_succ_cons, List.drop_zero]
              repeat still_step
              refine wpStill_nil ?_
              go_wp2_with fail
              refine (Rjoin_any _ P x y _ ?_ (by rw [HH.out.2.2.1]; exact hxn) (by rw [HH.out.2.2.1]; exact hyn) (by rw [HH.out.2.2.1]; exact hn2)).mono ?_
              · exact HH.out.1.lst
              rintro e W' ⟨v', rfl, ho', hb'⟩
              go_wp2_with fail
              go_roundw
              case rel =>
                obtain ⟨ho, hb, hl, hE⟩ := HH.out
                refine ⟨k + 1, by omega, by go_num, ?_, (below_drewN hb _).trans (hb'.mono (by simpa using hb.size))⟩
                rw [hE]; exact ho'.mono (by simpa using hb.size)
              case measure => simp [intOf]; omega
          · obtain ⟨ho, hb⟩ := hh.out
            rw [List.take_of_length_le (by omega)] at ho
            have HS := Lib.hid (And.intro ho hb)
            clear ho hb hh
            go_wp2_with fail
            go_ret2
            refine .inr ⟨?_, _, rfl, HS.out.1, HS.out.2⟩
            simp only [ofOk, Int.toNat_natCast, HA.out, Bool.and_true, decide_eq_true_eq]
            omega

theorem lit_pairs (w : World) (t : TypeId) : Pairs (w.alloc (.cells #[.int .i64 3, .int .i64 1, .int .i64 1, .int .i64 2] t)) (.slice (some ⟨w.heap.size, 0, none⟩) 2 2) [(3, 1), (1, 2)] := by
  refine ⟨some ⟨w.heap.size, 0, none⟩, 2, rfl, by simp, by unfold maxLen; omega, fun i hi => ⟨rfl, by simp [blk], fun j hj => ?_⟩⟩
  have hc : ∀ o, (w.alloc (.cells #[.int .i64 3, .int .i64 1, .int .i64 1, .int .i64 2] t)).cell? ⟨w.heap.size, o, none⟩ = #[Value.int .i64 3, .int .i64 1, .int .i64 1, .int .i64 2][o]? := fun o => by
    unfold World.cell?
    rw [heap_alloc_new]
    rfl
  simp only [blk, ofs, hc]
  simp at hi
  rcases (by omega : i = 0 ∨ i = 1) with rfl | rfl <;> rcases (by omega : j = 0 ∨ j = 1) with rfl | rfl <;> rfl

set_option maxHeartbeats 800000 in
theorem awake_any (w : World) : Calls Try.prog 10 #[] w fun e w' => e = .returned (.bool true) ∧ Below w.heap.size w w' := by
  go_enter Try.func10, Try.ntmps10
  go_wp2_with fail
  refine (Of_any 4 _ [(3, 1), (1, 2)] _ (lit_pairs _ _)).mono ?_
  rintro e w1 (⟨hbad, -⟩ | ⟨-, v, rfl, ho, hb⟩)
  · exact absurd hbad (by decide)
  · have hL : ofL (4 : Int).toNat [(3, 1), (1, 2)] = [0, 1, 1, 1] := by decide
    rw [hL] at ho
    obtain ⟨s, cap, rfl⟩ := ho.shape (n := 4) rfl
    have hI := ho.lst
    obtain ⟨a2, c3, he, hm2, hidx2, hcell2, _⟩ := ho.lst.out1 sInt
    simp at he
    obtain ⟨rfl, rfl⟩ := he
    have hc3 := hcell2 3 (by simp)
    simp only [show nth [(0 : Int), 1, 1, 1] 3 = 1 from rfl] at hc3
    have hb0 : Below w.heap.size w w1 := ((Below.refl _ _).alloc (Nat.le_refl _) _).trans (hb.mono (by simp))
    have hi3 := hidx2 .i64 3 (by omega) (by simp)
    have s1 : sameB [0, 1, 1, 1] 2 3 = true := by decide
    have s2 : sameB [0, 1, 1, 1] 0 1 = false := by decide
    clear hidx2 hcell2 hL hm2 ho hb
    simp at hi3
    go_wp2_with fail
    refine (Same_any _ [0, 1, 1, 1] 2 3 _ hI).mono ?_; rintro e w' ⟨rfl, nw, rfl⟩
    go_wp2_with fail
    refine (Same_any _ [0, 1, 1, 1] 0 1 _ (hI.qt (Qt.drewN _ _))).mono ?_; rintro e w' ⟨rfl, nw2, rfl⟩
    go_wp2_with fail
    go_ret
    exact ⟨rfl, below_drewN hb0 _⟩

end Go.Proofs.Ytmgeadhiohlblaa
