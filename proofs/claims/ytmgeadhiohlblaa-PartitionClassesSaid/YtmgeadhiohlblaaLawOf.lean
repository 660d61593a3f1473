/- PartitionOf: for any number and any pairs, Of and New of package partition return what the reference returns, errors included. Conditions: none. -/
import Derived.Test.YtmgeadhiohlblaaPartG
import Derived.Test.YtmgeadhiohlblaaOpen
namespace Go.Proofs.Ytmgeadhiohlblaa
open Go.ChangeShapes Go.WideShapes Go.ChangeAt Go.RowKit Go.Dfl

theorem own : ownKnob Try.prog.godebug = none := by kernel_rfl
theorem laidOut : laidOutB Try.prog = true := by kernel_rfl

theorem eqB_refl (l : List Int) : eqB l l = true := by simp [eqB]

def TruePost (w : World) (e : Ending) (w' : World) : Prop := e = .returned (.bool true) ∧ Below w.heap.size w w'

/-- What New of the program and of the reference return. -/
theorem RNew_any (n : Int) (w : World) : Calls Try.prog 14 #[.int .i64 n] w fun e w' => 
    (e = .returned (.tuple #[.slice none 0 0, .int .i64 4]) ∧ (n < 0 ∨ 8192 < n) ∧ w = w') ∨ (0 ≤ n ∧ n ≤ 8192 ∧ NewPost n.toNat w e w') := by
  by_cases h : n < 0 ∨ 8192 < n
  · exact (RNew_out n w h).mono fun e w' ⟨a, b⟩ => .inl ⟨a, h, b⟩
  · obtain ⟨m, rfl⟩ := Int.eq_ofNat_of_zero_le (by omega : 0 ≤ n)
    exact (RNew_in m w (by omega)).mono fun e w' a => .inr ⟨by omega, by omega, by simpa using a⟩

/-- A result of (list, error): what the list reads as. -/
def Res (L : List Int) (er : Int) (w : World) (e : Ending) (w' : World) : Prop := ∃ v, e = .returned (.tuple #[v, .int .i64 er]) ∧ Ints w' v L ∧ Below w.heap.size w w'

theorem Of_res {f : FuncId} {args : Array Value} {n : Int} {pairs : List (Int × Int)} {w : World} (h : Calls Try.prog f args w (OfPost n pairs w)) :
    Calls Try.prog f args w (Res (if ofOk n pairs = true then ofL n.toNat pairs else []) (if ofOk n pairs = true then 0 else 4) w) := by
  refine h.mono ?_
  rintro e w' (⟨h1, rfl, hb⟩ | ⟨h1, v, rfl, ho, hb⟩)
  · exact ⟨.slice none 0 0, by simp [h1], by simp [h1]; exact Lst.nil _ _, hb⟩
  · exact ⟨v, by simp [h1], by simp [h1]; exact ho.lst, hb⟩
theorem New_res {f : FuncId} {args : Array Value} {n : Int} {w : World} (h : Calls Try.prog f args w fun e w' => 
    (e = .returned (.tuple #[.slice none 0 0, .int .i64 4]) ∧ (n < 0 ∨ 8192 < n) ∧ w = w') ∨ (0 ≤ n ∧ n ≤ 8192 ∧ NewPost n.toNat w e w')) :
    Calls Try.prog f args w (Res (if 0 ≤ n ∧ n ≤ 8192 then upto n.toNat else []) (if 0 ≤ n ∧ n ≤ 8192 then 0 else 4) w) := by
  refine h.mono ?_
  rintro e w' (⟨rfl, h1, rfl⟩ | ⟨h1, h2, v, rfl, ho, hb⟩)
  · rw [if_neg (by omega), if_neg (by omega)]; exact ⟨_, rfl, Lst.nil _ _, Below.refl _ _⟩
  · rw [if_pos (by omega), if_pos (by omega)]; exact ⟨v, rfl, ho.lst, hb⟩

set_option maxHeartbeats 1600000 in
theorem PartitionOf_walk (n : Int) (v : Value) (pairs : List (Int × Int)) (w : World) (_ : -9223372036854775808 ≤ n ∧ n ≤ 9223372036854775807) (h : Pairs w v pairs)
    (_ : ∀ x ∈ pairs, (-9223372036854775808 ≤ x.1 ∧ x.1 ≤ 9223372036854775807) ∧ -9223372036854775808 ≤ x.2 ∧ x.2 ≤ 9223372036854775807) :
    Calls Try.prog 3 #[.int .i64 n, v] w (TruePost w) := by
  have hI := h
  obtain ⟨a, cap, rfl, hm, -⟩ := h.out2 sEdge
  clear h
  by_cases hlen : 300 < pairs.length
  · go_enter Try.func3, Try.ntmps3
    go_wp2_with fail
    refine (awake_any _).mono ?_; rintro e w' ⟨rfl, hb⟩
    go_wp2_with fail
    go_ret
    exact ⟨rfl, hb⟩
  · obtain ⟨L, E, HO⟩ : ∃ L E, Hid ((∀ W, Pairs W (.slice a pairs.length cap) pairs → Calls Try.prog 11 #[.int .i64 n, .slice a pairs.length cap] W (Res L E W)) ∧
        ∀ W, Pairs W (.slice a pairs.length cap) pairs → Calls Try.prog 12 #[.int .i64 n, .slice a pairs.length cap] W (Res L E W)) :=
      ⟨_, _, fun W hW => Of_res (Of_any n _ pairs W hW), fun W hW => Of_res (ROf_any n _ pairs W hW)⟩
    obtain ⟨L', E', HN⟩ : ∃ L E, Hid ((∀ W, Calls Try.prog 13 #[.int .i64 n] W (Res L E W)) ∧ ∀ W, Calls Try.prog 14 #[.int .i64 n] W (Res L E W)) :=
      ⟨_, _, fun W => New_res (New_any n W), fun W => New_res (RNew_any n W)⟩
    have HI := Lib.hid hI
    clear hI
    go_enter Try.func3, Try.ntmps3
    go_wp2_with fail
    refine (HO.out.1 _ HI.out).mono ?_; rintro e w1 ⟨v1, rfl, h1, b1⟩
    obtain ⟨a1, c1, rfl, -⟩ := h1.out1 sInt
    go_wp2_with fail
    refine (HO.out.2 _ (HI.out.below b1)).mono ?_; rintro e w2 ⟨v2, rfl, h2, b2⟩
    obtain ⟨a2, c2, rfl, -⟩ := h2.out1 sInt
    go_wp2_with fail
    refine (HN.out.1 _).mono ?_; rintro e w3 ⟨v3, rfl, h3, b3⟩
    obtain ⟨a3, c3, rfl, -⟩ := h3.out1 sInt
    go_wp2_with fail
    refine (HN.out.2 _).mono ?_; rintro e w4 ⟨v4, rfl, h4, b4⟩
    obtain ⟨a4, c4, rfl, -⟩ := h4.out1 sInt
    have e1 := eqB_refl L
    have e2 := eqB_refl L'
    have g1 : Ints w4 (.slice a1 L.length c1) L := ((h1.below b2).below b3).below b4
    have g2 : Ints w4 (.slice a2 L.length c2) L := (h2.below b3).below b4
    have g3 : Ints w4 (.slice a3 L'.length c3) L' := h3.below b4
    have hb : Below w.heap.size w w4 := ((b1.trans (b2.mono b1.size)).trans (b3.mono (Nat.le_trans b1.size b2.size))).trans (b4.mono (Nat.le_trans (Nat.le_trans b1.size b2.size) b3.size))
    clear h1 h2 h3 b1 b2 b3 b4
    go_wp2_with fail
    refine (Equal_any _ _ L L _ g1 g2).mono ?_; rintro e w' ⟨rfl, n1, rfl⟩
    go_wp2_with fail
    refine (Equal_any _ _ L' L' _ (g3.qt (Qt.drewN _ _)) (h4.qt (Qt.drewN _ _))).mono ?_; rintro e w' ⟨rfl, n2, rfl⟩
    go_wp2_with fail
    refine (awake_any _).mono ?_; rintro e w5 ⟨rfl, b5⟩
    go_wp2_with fail
    go_ret
    exact ⟨rfl, (below_drewN hb _).trans (b5.mono (by simpa using hb.size))⟩

set_option maxRecDepth 100000 in
theorem PartitionOf_lifted (os : Os) (started : os.Started) (H : Type) (enc : TypeId × Value → H) :
    ReturnsInHanded {} Try.checked os 3 .any (Rows.partitionOfSpec.pre6 enc Try.prog Try.f3 Rows.partitionOfRow.domain false) (Rows.partitionOfSpec.post enc Try.prog Try.f3 false true false false) := by
  refine returnsInHanded_of_change (C := Try.checked) own started (by kernel_rfl) Try.func3
    (ChangeSpec.witness6 (enc := enc) (C := Try.checked) false ⟨#[], #[.int .i64 0, .slice none 0 0], []⟩ 8 (by kernel_rfl) (by kernel_rfl) (by kernel_rfl) (by kernel_rfl)) ?_
  intro W base args ds gs before hval0 hW hcnd _
  have hval : ∀ (j : Nat) t v, Try.f3.params[j]? = some t → args[j]? = some v → Value.okWide Try.prog W .any base t v := hval0
  have hW' := hW
  obtain ⟨p, q, hA0, hV, rfl, hfz, hnd⟩ := hW
  have hA : DataW.TrodAll enc Try.prog W 0 (fun _ => true) true Try.f3.params.toList args.toList ds p := hA0
  rw [Try.params3] at hA hval
  obtain ⟨v0, vs0, d0, ds0, p0, q0, hargs, rfl, rfl, h0, r0⟩ := trodAll_cons hA
  obtain ⟨v1, vs1, d1, ds1, p1, q1, rfl, rfl, rfl, h1, r1⟩ := trodAll_cons r0
  obtain ⟨rfl, rfl, rfl⟩ := trodAll_nil r1
  obtain rfl : args = #[v0, v1] := by cases args; simp_all
  obtain ⟨rfl, rfl⟩ := trodVars_none hV
  obtain ⟨a0, rfl, rfl, rfl, w0⟩ := open_int Try.underlying3 (hval 0 3 v0 rfl rfl) h0
  have b0 := bounds_i64 w0
  obtain ⟨a1, len1, cap1, rfl⟩ := okWide_slice Try.underlying22 (hval 1 22 v1 rfl rfl)
  have k1 := h1
  have lt1 : ∀ x ∈ p1, x.block < W.heap.size := by obtain ⟨m, hm⟩ := k1; exact DataW.trod_lt m _ _ _ hm
  obtain ⟨l1, hl1, hI1, b1⟩ := pairs_of_trod Try.underlying22 Try.underlying35 (by kernel_rfl) rfl rfl rfl rfl Try.underlying3 (by kernel_rfl) h1
  clear hA0 hval0
  refine (PartitionOf_walk a0 _ l1 W b0 hI1 b1).mono fun e W' ⟨he, bel⟩ => ?_
  subst he
  exact ⟨_, rfl, _, _, _, [], _, [], hW', trodAll_mk1 (shut_bool Try.underlying4 _), (trodAll_cons_mk (shut_int Try.underlying3 w0) (trodAll_cons_mk (Below.trod laidOut (by kernel_rfl) (of_decide_eq_true (by kernel_rfl)) k1 bel lt1) trodAll_mk0)), rfl, bel.frame _, fun h => by cases h⟩

/-- The given statement. -/
theorem PartitionOf_holds : Rows.PartitionOfSaid :=
  OpenClaim.holds_of_wide 3 Try.f3 rfl rfl rfl rfl rfl rfl rfl ⟨rfl, rfl, rfl, rfl, rfl⟩ rfl rfl rfl rfl rfl (by kernel_rfl) Try.func3 (by kernel_rfl)
    (of_decide_eq_true (by kernel_rfl)) (by unfold Func.isWrapper; first | (rw [if_pos (by decide +kernel)]; kernel_rfl) | (rw [if_neg (by decide +kernel)]; exact ⟨rfl, rfl⟩))
    (fun os started H enc _ => PartitionOf_lifted os started H enc)

end Go.Proofs.Ytmgeadhiohlblaa
