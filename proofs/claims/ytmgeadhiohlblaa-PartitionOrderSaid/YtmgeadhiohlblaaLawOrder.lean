/- PartitionOrder: for any pairs, the partition is the same in the opposite order with exchanged ends, and when it is joined pair by pair. Conditions: none. -/
import Derived.Test.YtmgeadhiohlblaaLawOf
import Derived.Test.YtmgeadhiohlblaaPlainP
import Derived.Test.YtmgeadhiohlblaaBaseP
namespace Go.Proofs.Ytmgeadhiohlblaa
open Go.ChangeShapes Go.WideShapes Go.ChangeAt Go.RowKit Go.Dfl


/-- The pairs from place m on, in the opposite order with exchanged ends. -/
def backFrom (pairs : List (Int × Int)) (m : Nat) : List (Int × Int) := backP (pairs.drop m)
theorem backFrom_step (pairs : List (Int × Int)) (k : Nat) (h : k < pairs.length) : backFrom pairs (k + 1) ++ [((nth pairs k).2, (nth pairs k).1)] = backFrom pairs k := by
  unfold backFrom backP
  rw [List.drop_eq_getElem_cons h, nth_eq _ _ h, List.map_cons, List.reverse_cons]
theorem backFrom_len (pairs : List (Int × Int)) (m : Nat) : (backFrom pairs m).length = pairs.length - m := by simp [backFrom, backP]

def stepL (n : Nat) (S : List Int) (d : Int × Int) : List Int := if okB n d = true then ofStep S d else []
def stepE (n : Nat) (d : Int × Int) : Int := if okB n d = true then 0 else 4
theorem Join_ok {v : Value} {n : Nat} {S : List Int} (d : Int × Int) {W : World} (hS : VP n S) (hn : n ≤ 8192) (h : Ints W v S) :
    Calls Try.prog 21 #[v, .int .i64 d.1, .int .i64 d.2] W (Res (stepL n S d) (stepE n d) W) := by
  unfold stepL stepE
  refine (Join_any v S d.1 d.2 W h).mono ?_
  have hl := hS.len
  rintro e w' (⟨h1, -⟩ | ⟨h1, h2, rfl, hb⟩ | ⟨h1, h2, h3, v, rfl, ho, hb⟩)
  · exact absurd (hS.chk hn) h1
  · rw [hl] at h2
    have : okB n d = false := by simpa [okB] using h2
    exact ⟨_, by rw [this]; rfl, by rw [this]; exact Lst.nil _ _, hb.below _⟩
  · rw [hl] at h2 h3
    have : okB n d = true := by simp [okB, h2, h3]
    exact ⟨v, by rw [this]; rfl, by rw [this]; exact ho.lst, hb⟩

set_option maxHeartbeats 3200000 in
set_option maxRecDepth 100000 in
theorem PartitionOrder_walk (n0 : Int) (v : Value) (pairs : List (Int × Int)) (w : World) (hn0 : 0 ≤ n0 ∧ n0 ≤ 255) (h : Pairs w v pairs)
    (_ : ∀ x ∈ pairs, (-9223372036854775808 ≤ x.1 ∧ x.1 ≤ 9223372036854775807) ∧ -9223372036854775808 ≤ x.2 ∧ x.2 ≤ 9223372036854775807) :
    Calls Try.prog 7 #[.int .u8 n0, v] w (TruePost w) := by
  have hP := h
  obtain ⟨a, cap, rfl, hm, hidx, hcell, hblk⟩ := h.out2 sEdge
  clear h
  by_cases hl1 : 60 < pairs.length
  · go_enter Try.func7, Try.ntmps7
    go_wp2_with fail
    refine (awake_any _).mono ?_; rintro e w5 ⟨rfl, b5⟩
    go_wp2_with fail
    go_ret
    exact ⟨rfl, b5⟩
  obtain ⟨n, rfl⟩ := Int.eq_ofNat_of_zero_le hn0.1
  have hn : n ≤ 255 := by omega
  have hw : IntKind.i64.wrap (n : Int) = n := IntWalk.i64_in _ (by omega)
  obtain ⟨L, E, HO⟩ : ∃ L E, Hid ((∀ W v l, (l = pairs ∨ l = backP pairs) → Pairs W v l → Calls Try.prog 11 #[.int .i64 n, v] W (Res L E W)) ∧
      ((E = 0 ∧ L = ofL n pairs ∧ pairs.all (okB n) = true) ∨ (E = 4 ∧ L = [] ∧ pairs.all (okB n) = false))) := by
    refine ⟨if ofOk n pairs = true then ofL n pairs else [], if ofOk n pairs = true then 0 else 4, ?_, ?_⟩
    · rintro W v l (rfl | rfl) hW
      · simpa using Of_res (Of_any n v _ W hW)
      · have := Of_res (Of_any n v _ W hW)
        have e1 : ofOk n (backP pairs) = ofOk n pairs := by simp only [ofOk, back_ok]
        rw [e1] at this
        by_cases e2 : ofOk n pairs = true
        · simp only [ofOk, Int.toNat_natCast, Bool.and_eq_true] at e2
          have e3 := ofL_back e2.2 (by rw [back_ok]; exact e2.2)
          simpa [e3] using this
        · simpa [e2] using this
    · by_cases e : pairs.all (okB n) = true
      · left; have : ofOk n pairs = true := by simp only [ofOk, Int.toNat_natCast, e, Bool.and_true, decide_eq_true_eq]; omega
        exact ⟨by rw [if_pos this], by rw [if_pos this], e⟩
      · have e' : pairs.all (okB n) = false := by simpa using e
        right; have : ¬ ofOk n pairs = true := by simp only [ofOk, Int.toNat_natCast, e', Bool.and_false]; simp
        exact ⟨by rw [if_neg this], by rw [if_neg this], e'⟩
  go_enter Try.func7, Try.ntmps7
  go_wp2_with fail
  refine (HO.out.1 _ _ pairs (.inl rfl) hP).mono ?_; rintro e w1 ⟨v1, rfl, h1, b1⟩
  obtain ⟨a1, c1, rfl, -⟩ := h1.out1 sInt
  go_wp2_with fail
  go_loopw [7, 8] (fun v x wr => ∃ i : Int, -1 ≤ i ∧ i < pairs.length ∧ x = .int .i64 i ∧ Hid (OwnP wr w1.heap.size 35 v (backFrom pairs (i + 1).toNat) ∧ Below w1.heap.size w1 wr)) (fun _ x _ => (intOf x + 1).toNat)
  case atStart => exact ⟨(pairs.length : Int) - 1, by omega, by omega, rfl, by
    have : (((pairs.length : Int) - 1 + 1)).toNat = pairs.length := by omega
    rw [this]; simp only [backFrom, List.drop_length]; exact OwnP.nil _ _ _, Below.refl _ _⟩
  case round =>
    obtain ⟨i, hi1, hi2, rfl, hh⟩ := hrel
    by_cases hi0 : 0 ≤ i
    · obtain ⟨k, rfl⟩ := Int.eq_ofNat_of_zero_le hi0
      obtain ⟨ho, hbw⟩ := hh.out
      have hlt : k < pairs.length := by omega
      have hb0 : Below w.heap.size w wr := b1.trans (hbw.mono b1.size)
      have c1 : wr.cell? ⟨blk a, ofs a + k * 2, none⟩ = some (.int .i64 (nth pairs k).1) := by
        rw [hb0.cell (p := ⟨blk a, ofs a + k * 2, none⟩) (hblk k hlt)]; simpa using (hcell k hlt).1
      have c2 : wr.cell? ⟨blk a, ofs a + k * 2 + 1, none⟩ = some (.int .i64 (nth pairs k).2) := by
        rw [hb0.cell (p := ⟨blk a, ofs a + k * 2 + 1, none⟩) (hblk k hlt)]; simpa using (hcell k hlt).2
      have e1 : ((k : Int) + 1).toNat = k + 1 := by omega
      rw [e1] at ho
      have hsz := hbw.size
      have hll : (backFrom pairs (k + 1)).length < 8796093022208 := by rw [backFrom_len]; omega
      have HS := Lib.hid (And.intro ho (And.intro hbw hll))
      clear hcell hh ho hbw hb0 hll e1
      go_wp2_with fail
      go_region_law (refine step_appendP sEdge rfl rfl _ _ rfl w1.heap.size _ (backFrom pairs (k + 1)) rfl ((nth pairs k).2, (nth pairs k).1) wr.heap.size 0 rfl ((HS.out.1.alloc _).qt (Qt.drew _)) (by simp [go_sem]) (by simp [go_sem]) HS.out.2.2 (by omega) (by simp; omega) ?_; intro v' w3 hown hgr hb3)
      all_goals
        go_wp2_with fail
        go_roundw
        case rel => exact ⟨(k : Int) - 1, by omega, by omega, rfl, by
          have e2 : ((k : Int) - 1 + 1).toNat = k := by omega
          rw [e2, ← backFrom_step pairs k hlt]; exact hown, ((HS.out.2.1.alloc HS.out.2.1.size _).drew).trans hb3⟩
        case measure => first | (simp [intOf]; done) | (simp [intOf]; omega)
    · obtain rfl : i = -1 := by omega
      obtain ⟨ho, hbw⟩ := hh.out
      have hPb : Pairs wr u7 (backP pairs) := by
        have := ho.pairs; simpa [backFrom] using this
      have HB := Lib.hid hPb
      have hb0 : Below w.heap.size w wr := b1.trans (hbw.mono b1.size)
      have g1 := h1.below hbw
      clear hh ho hbw hPb
      go_wp2_with fail
      refine (HO.out.1 _ _ (backP pairs) (.inr rfl) HB.out).mono ?_; rintro e w2 ⟨v2, rfl, h2, b2⟩
      obtain ⟨a2, c2, rfl, -⟩ := h2.out1 sInt
      have g2 := g1.below b2
      have e1 := eqB_refl L
      have hb2 : Below w.heap.size w w2 := hb0.trans (b2.mono hb0.size)
      clear HB b2 g1
      go_wp2_with fail
      refine (Equal_any _ _ L L _ g2 h2).mono ?_; rintro e w' ⟨rfl, n5, rfl⟩
      go_wp2_with fail
      refine (New_in n _ (by omega)).mono ?_; rintro e w3 ⟨v3, rfl, ho3, b3⟩
      obtain ⟨a3, c3, rfl⟩ := ho3.shape (upto_len n)
      have g3 : Ints w3 (.slice a1 L.length c1) L := (g2.qt (Qt.drewN _ _)).below b3
      have hb3 : Below w.heap.size w w3 := (below_drewN hb2 _).trans (b3.mono (by simpa using hb2.size))
      have hI3 := ho3.lst
      clear b3 g2 h2 ho3
      go_wp2_with fail
      go_loopw [11, 12, 13] (fun v g x wr => ∃ (k : Nat) (t : Int) (S : List Int), k ≤ pairs.length ∧ x = .int .i64 k ∧ g = .int .i64 t ∧ Hid (Ints wr v S ∧ Below w3.heap.size w3 wr ∧ ((t = 0 ∧ S = ofL n (pairs.take k) ∧ (pairs.take k).all (okB n) = true) ∨ (t = 4 ∧ pairs.all (okB n) = false)))) (fun _ _ x _ => pairs.length - (intOf x).toNat)
      case atStart => exact ⟨0, 0, upto n, by omega, rfl, rfl, hI3, Below.refl _ _, .inl ⟨rfl, rfl, rfl⟩⟩
      case round =>
        clear hI3 e1
        obtain ⟨k, t, S, hk, rfl, rfl, hh⟩ := hrel
        obtain ⟨hS, hbw, hcase⟩ := hh.out
        clear hh
        obtain ⟨aS, cS, rfl, -⟩ := hS.out1 sInt
        by_cases hgo : k < pairs.length ∧ t = 0
        · obtain ⟨hlt, rfl⟩ := hgo
          rcases hcase with ⟨-, hSe, hall⟩ | ⟨hbad, -⟩
          · have hvp : VP n S := by rw [hSe]; exact ofL_vp hall
            have hb0 : Below w.heap.size w wr := hb3.trans (hbw.mono hb3.size)
            have c1 : wr.cell? ⟨blk a, ofs a + k * 2, none⟩ = some (.int .i64 (nth pairs k).1) := by
              rw [hb0.cell (p := ⟨blk a, ofs a + k * 2, none⟩) (hblk k hlt)]; simpa using (hcell k hlt).1
            have c2 : wr.cell? ⟨blk a, ofs a + k * 2 + 1, none⟩ = some (.int .i64 (nth pairs k).2) := by
              rw [hb0.cell (p := ⟨blk a, ofs a + k * 2 + 1, none⟩) (hblk k hlt)]; simpa using (hcell k hlt).2
            have hsz := hbw.size
            have HS := Lib.hid (And.intro hS (And.intro hbw (And.intro hvp (And.intro hSe hall))))
            clear hcell hS hbw hvp hSe hall hb0
            go_wp2_with fail
            have hS4 : Ints wr.drew (.slice aS S.length cS) S := HS.out.1.qt (Qt.drew _)
            go_region_with ((go_at_call 21; refine (Join_ok (nth pairs k) HS.out.2.2.1 (by omega) hS4).mono ?_; rintro e w5 ⟨v5, rfl, h5, b5⟩; obtain ⟨a5, c5, rfl, -⟩ := h5.out1 sInt))
            all_goals
              go_wp2_with fail
              go_roundw
              case rel =>
                refine ⟨k + 1, _, _, by omega, by go_num, rfl, h5, HS.out.2.1.drew.trans (b5.mono HS.out.2.1.size), ?_⟩
                by_cases hok : okB n (nth pairs k) = true
                · left
                  refine ⟨by rw [stepE, if_pos hok], ?_, by rw [ofOk_snoc hlt HS.out.2.2.2.2]; exact hok⟩
                  rw [stepL, if_pos hok, take_snoc _ _ hlt, HS.out.2.2.2.1]; simp [ofL]
                · right
                  exact ⟨by rw [stepE, if_neg hok], ofOk_bad hlt (by simpa using hok)⟩
              case measure => first | (simp [intOf]; done) | (simp [intOf]; omega)
          · exact absurd hbad (by omega)
        · have hIL : Ints wr (.slice a1 L.length c1) L := g3.below hbw
          have hb0 : Below w.heap.size w wr := hb3.trans (hbw.mono hb3.size)
          have hE : (E = 0 ∧ t = 0 ∧ S = L) ∨ (E = 4 ∧ t = 4) := by
            rcases hcase with ⟨rfl, hSe, hall⟩ | ⟨rfl, hbad⟩
            · have : pairs.take k = pairs := List.take_of_length_le (by omega)
              rw [this] at hSe hall
              rcases HO.out.2 with ⟨q1, q2, -⟩ | ⟨-, -, q3⟩
              · exact .inl ⟨q1, rfl, by rw [hSe, q2]⟩
              · rw [hall] at q3; simp at q3
            · rcases HO.out.2 with ⟨-, -, q3⟩ | ⟨q1, -, -⟩
              · rw [hbad] at q3; simp at q3
              · exact .inr ⟨q1, rfl⟩
          have hstop : t = 0 → pairs.length ≤ k := fun e => by omega
          clear hcase hgo HO hcell hidx
          rcases hE with ⟨rfl, rfl, rfl⟩ | ⟨rfl, rfl⟩
          · have hk2 : pairs.length ≤ k := hstop rfl
            have e2 := eqB_refl S
            clear hstop
            go_wp2_with fail
            refine (Equal_any _ _ S S _ hIL hS).mono ?_; rintro e w' ⟨rfl, n6, rfl⟩
            go_wp2_with fail
            refine (awake_any _).mono ?_; rintro e w5 ⟨rfl, b5⟩
            go_wp2_with fail
            go_ret
            exact ⟨rfl, (below_drewN hb0 _).trans (b5.mono (by simpa using hb0.size))⟩
          · clear hstop
            go_wp2_with fail
            all_goals
              refine (awake_any _).mono ?_; rintro e w5 ⟨rfl, b5⟩
              go_wp2_with fail
              go_ret
              exact ⟨rfl, hb0.trans (b5.mono hb0.size)⟩

set_option maxRecDepth 100000 in
theorem PartitionOrder_lifted (os : Os) (started : os.Started) (H : Type) (enc : TypeId × Value → H) :
    ReturnsInHanded {} Try.checked os 7 .any (Rows.partitionOrderSpec.pre6 enc Try.prog Try.f7 Rows.partitionOrderRow.domain false) (Rows.partitionOrderSpec.post enc Try.prog Try.f7 false true false false) := by
  refine returnsInHanded_of_change (C := Try.checked) own started (by kernel_rfl) Try.func7
    (ChangeSpec.witness6 (enc := enc) (C := Try.checked) false ⟨#[], #[.int .u8 0, .slice none 0 0], []⟩ 8 (by kernel_rfl) (by kernel_rfl) (by kernel_rfl) (by kernel_rfl)) ?_
  intro W base args ds gs before hval0 hW hcnd _
  have hval : ∀ (j : Nat) t v, Try.f7.params[j]? = some t → args[j]? = some v → Value.okWide Try.prog W .any base t v := hval0
  have hW' := hW
  obtain ⟨p, q, hA0, hV, rfl, hfz, hnd⟩ := hW
  have hA : DataW.TrodAll enc Try.prog W 0 (fun _ => true) true Try.f7.params.toList args.toList ds p := hA0
  rw [Try.params7] at hA hval
  obtain ⟨v0, vs0, d0, ds0, p0, q0, hargs, rfl, rfl, h0, r0⟩ := trodAll_cons hA
  obtain ⟨v1, vs1, d1, ds1, p1, q1, rfl, rfl, rfl, h1, r1⟩ := trodAll_cons r0
  obtain ⟨rfl, rfl, rfl⟩ := trodAll_nil r1
  obtain rfl : args = #[v0, v1] := by cases args; simp_all
  obtain ⟨rfl, rfl⟩ := trodVars_none hV
  obtain ⟨a0, rfl, rfl, rfl, w0⟩ := open_int Try.underlying5 (hval 0 5 v0 rfl rfl) h0
  have b0 := bounds_u8 w0
  obtain ⟨a1, len1, cap1, rfl⟩ := okWide_slice Try.underlying22 (hval 1 22 v1 rfl rfl)
  have k1 := h1
  have lt1 : ∀ x ∈ p1, x.block < W.heap.size := by obtain ⟨m, hm⟩ := k1; exact DataW.trod_lt m _ _ _ hm
  obtain ⟨l1, hl1, hI1, b1⟩ := pairs_of_trod Try.underlying22 Try.underlying35 (by kernel_rfl) rfl rfl rfl rfl Try.underlying3 (by kernel_rfl) h1
  clear hA0 hval0
  refine (PartitionOrder_walk a0 _ l1 W b0 hI1 b1).mono fun e W' ⟨he, bel⟩ => ?_
  subst he
  exact ⟨_, rfl, _, _, _, [], _, [], hW', trodAll_mk1 (shut_bool Try.underlying4 _), (trodAll_cons_mk (shut_int Try.underlying5 w0) (trodAll_cons_mk (Below.trod laidOut (by kernel_rfl) (of_decide_eq_true (by kernel_rfl)) k1 bel lt1) trodAll_mk0)), rfl, bel.frame _, fun h => by cases h⟩

/-- The given statement. -/
theorem PartitionOrder_holds : Rows.PartitionOrderSaid :=
  OpenClaim.holds_of_wide 7 Try.f7 rfl rfl rfl rfl rfl rfl rfl ⟨rfl, rfl, rfl, rfl, rfl⟩ rfl rfl rfl rfl rfl (by kernel_rfl) Try.func7 (by kernel_rfl)
    (of_decide_eq_true (by kernel_rfl)) (by unfold Func.isWrapper; first | (rw [if_pos (by decide +kernel)]; kernel_rfl) | (rw [if_neg (by decide +kernel)]; exact ⟨rfl, rfl⟩))
    (fun os started H enc _ => PartitionOrder_lifted os started H enc)

end Go.Proofs.Ytmgeadhiohlblaa
