/- BitsWalks: for any set, the elements that Next finds one after the other are those of List. Conditions: none. -/
import Derived.Test.YtingmncemmipeaaBitsL
namespace Go.Proofs.Ytingmncemmipeaa
open Go.ChangeShapes Go.WideShapes Go.ChangeAt Go.RowKit Go.Deep Go.Dfl


theorem next_at {b : List Nat} {L : List Int} (hL : els b = L) {k : Nat} (hk : k < L.length) {x : Int} (h1 : ∀ j, j < k → nth L j < x) (h2 : x ≤ nth L k) : nextI b x = nth L k := by
  have ha := els_asc b
  rw [hL] at ha
  unfold nextI
  rw [hL, find_asc ha (nth_mem L k hk) h2]
  · rfl
  · intro y hy hxy
    obtain ⟨j, hj, rfl⟩ := mem_nth hy
    by_cases e : j < k
    · have := h1 j e; omega
    · by_cases e2 : j = k
      · subst e2; omega
      · have := ha.nth (by omega : k < j) hj; omega
theorem next_end {b : List Nat} {L : List Int} (hL : els b = L) {x : Int} (h1 : ∀ j, j < L.length → nth L j < x) : nextI b x = -1 := by
  unfold nextI
  rw [hL, List.find?_eq_none.2]
  · rfl
  · intro y hy
    obtain ⟨j, hj, rfl⟩ := mem_nth hy
    have := h1 j hj
    simp; omega

set_option maxHeartbeats 1600000 in
theorem BitsWalks_walk (v : Value) (b : List Nat) (w : World) (hA : Words w v b) (ha : Wds b) :
    Calls Try.prog 4 #[v] w (TruePost w) := by
  obtain ⟨pa, ca, rfl, hm, -⟩ := hA.out1 sBits
  have HX := Lib.hid ha
  clear ha
  by_cases hl1 : 1100 < b.length
  · go_enter Try.func4, Try.ntmps4
    go_wp2_with fail
    refine (awake_any _).mono ?_; rintro e w5 ⟨rfl, b5⟩
    go_wp2_with fail
    go_ret
    exact ⟨rfl, b5⟩
  have hlen : (els b).length ≤ 64 * b.length := elsUp_len _ _
  have hbd : ∀ j, j < (els b).length → 0 ≤ nth (els b) j ∧ nth (els b) j < 70400 ∧ hasI b (nth (els b) j) = true := fun j hj => by
    have hm := nth_mem (els b) j hj
    refine ⟨?_, ?_, mem_hasI.1 hm⟩
    · obtain ⟨m, e, -⟩ := mem_els.1 hm; omega
    · obtain ⟨m, e, h1, -⟩ := mem_elsUp.1 hm; omega
  have hasc := els_asc b
  go_enter Try.func4, Try.ntmps4
  go_wp2_with fail
  refine (List_any _ b _ hA HX.out (by omega)).mono ?_; rintro e w1 ⟨v1, rfl, ho, hb1⟩
  obtain ⟨s, c1, rfl⟩ := ho.shape rfl
  have hA1 := hA.below hb1
  obtain ⟨a2, c2, he, hm2, hidx, hcell, _⟩ := ho.lst.out1 sInt
  simp at he
  obtain ⟨rfl, rfl⟩ := he
  have hnx : ∀ {k : Nat} (hk : k < (els b).length) {x : Int} (h1 : ∀ j, j < k → nth (els b) j < x) (h2 : x ≤ nth (els b) k), nextI b x = nth (els b) k := next_at rfl
  have hne : ∀ {x : Int} (h1 : ∀ j, j < (els b).length → nth (els b) j < x), nextI b x = -1 := next_end rfl
  have HC := Lib.hid (And.intro hcell (And.intro hbd (And.intro hasc (And.intro @hnx @hne))))
  clear ho hcell hbd hasc hnx hne hm2
  go_wp2_with fail
  refine (Count_any _ b _ hA1 HX.out (by omega)).mono ?_; rintro e w' ⟨rfl, n1, rfl⟩
  generalize hL : els b = L at *
  clear hL
  go_wp2_with fail
  go_loopw [4, 5] (fun x i wr => ∃ (k : Nat) (y : Int), k ≤ L.length ∧ i = .int .i64 k ∧ x = .int .i64 y ∧ -1 ≤ y ∧ y < 70400 ∧ Qt w1 wr ∧ Hid ((k = 0 → y = -1) ∧ ∀ j, j < k → nth L j ≤ y ∧ (j + 1 = k → nth L j = y))) (fun _ i _ => L.length - (intOf i).toNat)
  case atStart => exact ⟨0, -1, by omega, rfl, rfl, by omega, by omega, (by first | exact Qt.refl _ | exact Qt.drewN _ _ | exact (Qt.drewN _ _).trans (Qt.drewN _ _) | exact ((Qt.drewN _ _).trans (Qt.drewN _ _)).trans (Qt.drewN _ _) | exact Qt.drew _ | exact (Qt.drewN _ _).trans (Qt.drew _)), fun _ => rfl, fun j hj => by omega⟩
  case round =>
    obtain ⟨k, y, hk, rfl, rfl, hy1, hy2, ⟨nw, rfl⟩, hh⟩ := hrel
    by_cases hlt : k < L.length
    · have hck := HC.out.1 k hlt
      obtain ⟨r1, r2, r3⟩ := HC.out.2.1 k hlt
      have hyk : y < nth L k := by
        by_cases e : k = 0
        · have := hh.out.1 e; omega
        · have h1 := (hh.out.2 (k - 1) (by omega)).2 (by omega)
          have h2 := HC.out.2.2.1.nth (by omega : k - 1 < k) hlt
          omega
      have hn := HC.out.2.2.2.1 hlt (x := y + 1) (fun j hj => by have := (hh.out.2 j hj).1; omega) (by omega)
      have hne' : (nextI b (y + 1) != nth L k) = false := by rw [hn]; simp
      have HN := Lib.hid hn
      have hr4 : hasI b (nextI b (y + 1)) = true := by rw [hn]; exact r3
      clear hn r3
      go_wp2_with fail
      refine (Next_any _ b _ _ (hA1.qt (by first | exact Qt.refl _ | exact Qt.drewN _ _ | exact (Qt.drewN _ _).trans (Qt.drewN _ _) | exact ((Qt.drewN _ _).trans (Qt.drewN _ _)).trans (Qt.drewN _ _) | exact Qt.drew _ | exact (Qt.drewN _ _).trans (Qt.drew _))) HX.out (by omega) (by omega)).mono ?_; rintro e w' ⟨rfl, n2, rfl⟩
      go_wp2_with fail
      refine (Has_any _ b _ _ (hA1.qt (by first | exact Qt.refl _ | exact Qt.drewN _ _ | exact (Qt.drewN _ _).trans (Qt.drewN _ _) | exact ((Qt.drewN _ _).trans (Qt.drewN _ _)).trans (Qt.drewN _ _) | exact Qt.drew _ | exact (Qt.drewN _ _).trans (Qt.drew _))) HX.out (by rw [HN.out]; omega)).mono ?_; rintro e w' ⟨rfl, n3, rfl⟩
      go_wp2_with fail
      go_roundw
      case rel => exact ⟨k + 1, nth L k, by omega, by go_num, by rw [HN.out], by omega, by omega, (by first | exact Qt.refl _ | exact Qt.drewN _ _ | exact (Qt.drewN _ _).trans (Qt.drewN _ _) | exact ((Qt.drewN _ _).trans (Qt.drewN _ _)).trans (Qt.drewN _ _) | exact Qt.drew _ | exact (Qt.drewN _ _).trans (Qt.drew _)), fun h => by omega, fun j hj => by
        by_cases e : j = k
        · subst e; exact ⟨by omega, fun _ => rfl⟩
        · have := HC.out.2.2.1.nth (by omega : j < k) hlt; exact ⟨by omega, fun h => by omega⟩⟩
      case measure => simp [intOf]; omega
    · have hn := HC.out.2.2.2.2 (x := y + 1) fun j hj => by have := (hh.out.2 j (by omega)).1; omega
      have hn' : (nextI b (y + 1) == -1) = true := by rw [hn]; rfl
      clear hn
      go_wp2_with fail
      refine (Next_any _ b _ _ (hA1.qt (by first | exact Qt.refl _ | exact Qt.drewN _ _ | exact (Qt.drewN _ _).trans (Qt.drewN _ _) | exact ((Qt.drewN _ _).trans (Qt.drewN _ _)).trans (Qt.drewN _ _) | exact Qt.drew _ | exact (Qt.drewN _ _).trans (Qt.drew _))) HX.out (by omega) (by omega)).mono ?_; rintro e w' ⟨rfl, n2, rfl⟩
      go_wp2_with fail
      refine (awake_any _).mono ?_; rintro e w5 ⟨rfl, b5⟩
      go_wp2_with fail
      go_ret
      exact ⟨rfl, (below_drewN hb1 _).trans (b5.mono (by simpa using hb1.size))⟩

set_option maxRecDepth 100000 in
theorem BitsWalks_lifted (os : Os) (started : os.Started) (H : Type) (enc : TypeId × Value → H) :
    ReturnsInHanded {} Try.checked os 4 .any (Rows.bitsWalksSpec.pre6 enc Try.prog Try.f4 Rows.bitsWalksRow.domain false) (Rows.bitsWalksSpec.post enc Try.prog Try.f4 false true false false) := by
  refine returnsInHanded_of_change (C := Try.checked) own started (by kernel_rfl) Try.func4
    (ChangeSpec.witness6 (enc := enc) (C := Try.checked) false ⟨#[], #[.slice none 0 0], []⟩ 8 (by kernel_rfl) (by kernel_rfl) (by kernel_rfl) (by kernel_rfl)) ?_
  intro W base args ds gs before hval0 hW hcnd _
  have hval : ∀ (j : Nat) t v, Try.f4.params[j]? = some t → args[j]? = some v → Value.okWide Try.prog W .any base t v := hval0
  have hW' := hW
  obtain ⟨p, q, hA0, hV, rfl, hfz, hnd⟩ := hW
  have hA : DataW.TrodAll enc Try.prog W 0 (fun _ => true) true Try.f4.params.toList args.toList ds p := hA0
  rw [Try.params4] at hA hval
  obtain ⟨v0, vs0, d0, ds0, p0, q0, hargs, rfl, rfl, h0, r0⟩ := trodAll_cons hA
  obtain ⟨rfl, rfl, rfl⟩ := trodAll_nil r0
  obtain rfl : args = #[v0] := by cases args; simp_all
  obtain ⟨rfl, rfl⟩ := trodVars_none hV
  obtain ⟨a0, len0, cap0, rfl⟩ := okWide_slice Try.underlying26 (hval 0 26 v0 rfl rfl)
  have k0 := h0
  have lt0 : ∀ x ∈ p0, x.block < W.heap.size := by obtain ⟨m, hm⟩ := k0; exact DataW.trod_lt m _ _ _ hm
  obtain ⟨l0, hl0, hI0, b0⟩ := words_of_trod Try.underlying26 Try.underlying54 (by kernel_rfl) h0
  clear hA0 hval0
  refine (BitsWalks_walk _ l0 W hI0 b0).mono fun e W' ⟨he, bel⟩ => ?_
  subst he
  exact ⟨_, rfl, _, _, _, [], _, [], hW', trodAll_mk1 (shut_bool Try.underlying4 _), (trodAll_cons_mk (Below.trod laidOut (by kernel_rfl) (of_decide_eq_true (by kernel_rfl)) k0 bel lt0) trodAll_mk0), rfl, bel.frame _, fun h => by cases h⟩

/-- The given statement. -/
theorem BitsWalks_holds : Rows.BitsWalksSaid :=
  OpenClaim.holds_of_wide 4 Try.f4 rfl rfl rfl rfl rfl rfl rfl ⟨rfl, rfl, rfl, rfl, rfl⟩ rfl rfl rfl rfl rfl (by kernel_rfl) Try.func4 (by kernel_rfl)
    (of_decide_eq_true (by kernel_rfl)) (by unfold Func.isWrapper; first | (rw [if_pos (by decide +kernel)]; kernel_rfl) | (rw [if_neg (by decide +kernel)]; exact ⟨rfl, rfl⟩))
    (fun os started H enc _ => BitsWalks_lifted os started H enc)

end Go.Proofs.Ytingmncemmipeaa
