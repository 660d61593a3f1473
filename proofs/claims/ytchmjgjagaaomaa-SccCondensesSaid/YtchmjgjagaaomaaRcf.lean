/- Contracts of the reference's Recursive and Acyclic. -/
import Derived.Test.YtchmjgjagaaomaaScd
namespace Go.Proofs.Ytchmjgjagaaomaa
open Go.RowKit Go.Dfl Go.Gra Go.Tj
/-- The first edge of a way between two nodes. -/
theorem rt_first {E : Nat → Nat → Prop} {a b : Nat} (h : Rt E a b) : a = b ∨ ∃ w, E a w ∧ Rt E w b := by
  induction h with
  | refl => exact .inl rfl
  | step h1 h2 ih =>
    rcases ih with rfl | ⟨w, hw, hr⟩
    · exact .inr ⟨_, h2, .refl _⟩
    · exact .inr ⟨w, hw, .step hr h2⟩
theorem recB_iff {g : G} (hc : gCode g = 0) {v : Nat} (hv : v < g.n.toNat) : recB g (v : Int) = true ↔ ∃ w, eG g v w ∧ Rt (eG g) w v := by
  have hvg := gCode_ok.1 hc
  have hn : nodeB g.n (v : Int) = true := nodeB_iff.2 ⟨by omega, by omega⟩
  have hz : sucZ g (v : Int) = suc g.es v := by
    unfold sucZ
    rw [if_pos (nodeG_iff.2 ⟨hvg, by omega, by omega⟩), Int.toNat_natCast]
  unfold recB
  rw [decide_eq_true hc, hn, Int.toNat_natCast, Bool.true_and, Bool.true_and, decide_eq_true_eq, mem_reachL hvg, hz]
  constructor
  · rintro ⟨x, hx, hx2, hr⟩
    obtain ⟨w, hw, rfl⟩ := List.mem_map.1 hx
    rw [Int.toNat_natCast] at hr
    have hE : eG g v w := ⟨hv, hw⟩
    exact ⟨w, hE, rt_of_rch hvg hr (rt_lt hvg (.one hE) hv)⟩
  · rintro ⟨w, hE, hr⟩
    have hw := rt_lt hvg (.one hE) hv
    exact ⟨(w : Int), List.mem_map.2 ⟨w, hE.2, rfl⟩, nodeB_iff.2 ⟨by omega, by omega⟩, by rw [Int.toNat_natCast]; exact rch_of_rt hr⟩
theorem acy_iff {g : G} : Acy g ↔ gCode g = 0 ∧ ∀ v, v < g.n.toNat → recB g (v : Int) = false := by
  constructor
  · rintro ⟨hc, hno, ls, of, hp, hl⟩
    have hvg := gCode_ok.1 hc
    refine ⟨hc, fun v hv => ?_⟩
    rw [Bool.eq_false_iff]
    intro hb
    obtain ⟨w, hE, hr⟩ := (recB_iff hc hv).1 hb
    have hw := rt_lt hvg (.one hE) hv
    have hn0 := hvg.n0
    obtain ⟨l, L, h1, h2, rfl, -, -⟩ := hp.ex
    rw [List.length_map] at hl
    have hall : ∀ x, x < g.n.toNat → x ∈ L := by
      intro x hx
      false_or_by_contra
      rename_i hx9
      have h9 := Go.Kah.nodup_le (x :: L) (List.range g.n.toNat) (List.nodup_cons.2 ⟨hx9, h2.nd⟩) (fun y hy => by
        rcases List.mem_cons.1 hy with rfl | hy
        · exact List.mem_range.2 hx
        · exact List.mem_range.2 ((h2.mem y).1 hy).2)
      rw [List.length_cons, List.length_range] at h9
      omega
    have e1 := ((h2.mem v).1 (hall v hv)).1
    have e2 := ((h2.mem w).1 (hall w hw)).1
    have hs : Sc (eG g) v w := ⟨.one hE, hr⟩
    have kv := (h1.hd hv).2
    have kw := (h1.hd hw).2
    have e9 := (kv.congr hs).unique kw
    have hvw : v = w := by rw [← e1, ← e2, e9]
    subst hvw
    obtain ⟨e, he, h3, h4⟩ := mem_suc.1 hE.2
    obtain ⟨⟨a0, a1⟩, b0, b1⟩ := hvg.inn e he
    exact hno e he (by omega)
  · rintro ⟨hc, hall⟩
    have hvg := gCode_ok.1 hc
    have hn0 := hvg.n0
    refine ⟨hc, fun e he h9 => ?_, ?_⟩
    · obtain ⟨⟨a0, a1⟩, b0, b1⟩ := hvg.inn e he
      have hv : e.1.toNat < g.n.toNat := by omega
      have h8 := hall e.1.toNat hv
      rw [(recB_iff hc hv).2 ⟨e.1.toNat, ⟨hv, mem_suc.2 ⟨e, he, by omega, by omega⟩⟩, .refl _⟩] at h8
      exact absurd h8 (by simp)
    · obtain ⟨ls, of, hp⟩ := ex_parts hvg
      refine ⟨ls, of, hp, ?_⟩
      have hf := hp.few
      obtain ⟨l, L, h1, h2, rfl, -, -⟩ := hp.ex
      rw [List.length_map] at hf ⊢
      have hs : ∀ v, v < g.n.toNat → hdN l (v : Int) = v := fun v hv => by
        have k := (h1.hd hv).2.1
        rcases rt_first k.1 with h9 | ⟨w, hw, hr⟩
        · exact h9.symm
        · have h8 := hall v hv
          rw [(recB_iff hc hv).2 ⟨w, hw, hr.trans k.2⟩] at h8
          exact absurd h8 (by simp)
      have := Go.Kah.nodup_le (List.range g.n.toNat) L List.nodup_range (fun x hx => (h2.mem x).2 ⟨hs x (List.mem_range.1 hx), List.mem_range.1 hx⟩)
      rw [List.length_range] at this
      omega
/-- What Reach gives from the successors tells whether a node is on a cycle. -/
theorem recB_mem {g : G} {v : Int} {L : List Int} (h : (gCode g ≠ 0 ∧ L = []) ∨ (gCode g = 0 ∧ L.Pairwise (· < ·) ∧ ∀ y : Int, y ∈ L ↔ 0 ≤ y ∧ y.toNat ∈ reachL g ((sucZ g v).map fun x : Nat => (x : Int)))) : decide (v ∈ L) = recB g v := by
  rcases h with ⟨h1, rfl⟩ | ⟨h1, -, h3⟩
  · unfold recB; rw [decide_eq_false h1]; simp
  · unfold recB
    rw [decide_eq_true h1, Bool.true_and, Bool.eq_iff_iff, decide_eq_true_eq, h3, Bool.and_eq_true, decide_eq_true_eq]
    constructor
    · rintro ⟨h4, h5⟩
      refine ⟨?_, h5⟩
      have := reachL_lt (gCode_ok.1 h1) h5
      exact nodeB_iff.2 ⟨h4, by omega⟩
    · rintro ⟨h4, h5⟩
      exact ⟨(nodeB_iff.1 h4).1, h5⟩
set_option maxHeartbeats 1600000 in
set_option maxRecDepth 100000 in
theorem rRecursive_any (g : G) (cv : Value) (v : Int) (W : World) (h : Pairs W cv g.es) : Calls Try.prog 27 #[GV g cv, .int .i64 v] W (BooR (recB g v) W) := by
  obtain ⟨ca, cc, rfl, -, -, -⟩ := pairs_rd h
  have hal := (Below.refl W.heap.size W).alloc (Nat.le_refl _) (.cells #[.int .i64 g.n, .slice ca g.es.length cc] 24)
  have H0 := Lib.hid (And.intro (h.below hal) (And.intro hal (BoxG.new W g.n (.slice ca g.es.length cc) 24)))
  clear h hal
  unfold GV
  go_enter Try.func27, Try.ntmps27
  go_wp2_with fail
  have hsu := rSucc_any g (.slice ca g.es.length cc) v _ H0.out.1
  unfold GV at hsu
  refine hsu.mono ?_
  rintro e W2 ⟨sa, sc, rfl, hs2, b2⟩
  have H2 := Lib.hid (And.intro (H0.out.1.below b2) (And.intro (H0.out.2.1.trans (b2.mono H0.out.2.1.size)) (And.intro (H0.out.2.2.below b2) hs2)))
  clear hsu hs2 b2
  obtain ⟨c0, c1⟩ := H2.out.2.2.1
  go_wp2_with fail
  have hre := rReach_any g (.slice ca g.es.length cc) _ _ W2 H2.out.1 H2.out.2.2.2
  unfold GV at hre
  refine hre.mono ?_
  rintro e W3 ⟨ra, rc, L, rfl, hL, b3, hm⟩
  obtain ⟨ra', rc', he, hlm, hli, hlc, hlb⟩ := hL.out1 sIntG
  simp only [Value.slice.injEq] at he
  obtain ⟨rfl, -, rfl⟩ := he
  have H3 := Lib.hid (H2.out.2.1.trans (b3.mono H2.out.2.1.size))
  have HM := Lib.hid (recB_mem hm)
  have HI := Lib.hid (And.intro hli hlc)
  clear hre hL b3 hm hli hlc hlb c0 c1
  go_wp2_with fail
  go_loopw [7] (fun x wr => ∃ k : Nat, k ≤ L.length ∧ x = .int .i64 (k : Int) ∧ Hid (wr = W3 ∧ ∀ j, j < k → nth L j ≠ v)) (fun x _ => L.length - (intOf x).toNat)
  case atStart => exact ⟨0, by omega, rfl, rfl, fun j hj => by omega⟩
  case round =>
    obtain ⟨k, hk, rfl, hh⟩ := hrel
    have HK := Lib.hid hh.out.2
    obtain rfl := hh.out.1
    clear hh
    by_cases hkl : k < L.length
    · have hkli : (k : Int) < (L.length : Int) := by omega
      have x1 := HI.out.2 k hkl
      have j1 := HI.out.1 .i64 (k : Int) (by omega) (by omega)
      rw [Int.toNat_natCast] at j1
      have hmem := nth_mem L k hkl
      obtain ⟨y, hy⟩ : ∃ y, y = nth L k := ⟨_, rfl⟩
      rw [← hy] at x1 hmem
      have HY := Lib.hid (And.intro hy hmem)
      clear hy hmem
      by_cases hyv : y = v
      · have w1 : (y == v) = true := by simpa using hyv
        have HX : Hid (recB g v = true) := Lib.hid (by rw [← HM.out, decide_eq_true_eq, ← hyv]; exact HY.out.2)
        clear hyv
        go_wp2_with fail
        go_ret
        exact ⟨by rw [HX.out]; rfl, H3.out⟩
      · have w1 : (y == v) = false := by simpa using hyv
        have HX : Hid (∀ j, j < k + 1 → nth L j ≠ v) := Lib.hid fun j hj => by
          rcases Nat.lt_succ_iff_lt_or_eq.1 hj with h9 | rfl
          · exact HK.out j h9
          · rw [← HY.out.1]; exact hyv
        clear hyv
        go_wp2_with fail
        go_roundw
        case rel => exact ⟨k + 1, by omega, by go_num, by first | rfl | trivial, HX.out⟩
        case measure => simp [intOf]; omega
    · obtain rfl : k = L.length := by omega
      have HX : Hid (recB g v = false) := Lib.hid (by
        rw [← HM.out, decide_eq_false_iff_not]
        intro hm9
        obtain ⟨j, hj, he⟩ := mem_nth hm9
        exact HK.out j hj he)
      clear hkl
      go_wp2_with fail
      go_ret
      exact ⟨by rw [HX.out]; rfl, H3.out⟩
set_option maxHeartbeats 1600000 in
set_option maxRecDepth 100000 in
theorem rAcyclic_any (g : G) (cv : Value) (W : World) (h : Pairs W cv g.es) : Calls Try.prog 28 #[GV g cv] W (AcyR g W) := by
  obtain ⟨ca, cc, rfl, -, -, -⟩ := pairs_rd h
  have hal := (Below.refl W.heap.size W).alloc (Nat.le_refl _) (.cells #[.int .i64 g.n, .slice ca g.es.length cc] 24)
  have H0 := Lib.hid (And.intro (h.below hal) (And.intro hal (BoxG.new W g.n (.slice ca g.es.length cc) 24)))
  clear h hal
  unfold GV
  go_enter Try.func28, Try.ntmps28
  go_wp2_with fail
  have hck := rCheck_any g (.slice ca g.es.length cc) _ H0.out.1
  unfold GV at hck
  refine hck.mono ?_
  rintro e W1 ⟨rfl, r1⟩
  have H1 := Lib.hid (And.intro (H0.out.1.below r1) (And.intro (H0.out.2.1.trans (r1.mono H0.out.2.1.size)) (H0.out.2.2.below r1)))
  clear r1 hck
  by_cases hc : gCode g = 0
  · have q0 : (gCode g != 0) = false := by simpa using hc
    have hvg := gCode_ok.1 hc
    obtain ⟨n, hn⟩ : ∃ n : Nat, g.n = n := ⟨g.n.toNat, by have := hvg.n0; omega⟩
    have hn8 : n ≤ 8192 := by have := hvg.n1; omega
    have HV := Lib.hid (And.intro hc (And.intro hn (show g.n.toNat = n by omega)))
    clear hc hvg hn
    go_wp2_with fail
    clear q0
    go_loopw [3] (fun x wr => ∃ k : Nat, k ≤ n ∧ x = .int .i64 (k : Int) ∧ Hid (Below W1.heap.size W1 wr ∧ ∀ j, j < k → recB g (j : Int) = false)) (fun x _ => n - (intOf x).toNat)
    case atStart => exact ⟨0, by omega, rfl, Below.refl _ _, fun j hj => by omega⟩
    case round =>
      obtain ⟨k, hk, rfl, hh⟩ := hrel
      have HL := Lib.hid hh.out
      clear hh
      obtain ⟨c0, c1⟩ := H1.out.2.2.below HL.out.1
      rw [HV.out.2.1] at c0
      by_cases hkl : k < n
      · have hkli : (k : Int) < (n : Int) := by omega
        have hrc := rRecursive_any g (.slice ca g.es.length cc) (k : Int) wr (H1.out.1.below HL.out.1)
        unfold GV at hrc
        rw [HV.out.2.1] at hrc
        have HR := Lib.hid hrc
        clear hrc
        go_wp2_with fail
        refine HR.out.mono ?_
        rintro e W2 ⟨rfl, b2⟩
        have H2 := Lib.hid (HL.out.1.trans (b2.mono HL.out.1.size))
        clear b2 c0 c1 HR
        obtain ⟨b, hb⟩ : ∃ b, b = recB g (k : Int) := ⟨_, rfl⟩
        rw [← hb]
        have HB := Lib.hid hb
        clear hb
        cases b
        · have HX : Hid (∀ j, j < k + 1 → recB g (j : Int) = false) := Lib.hid fun j hj => by
            rcases Nat.lt_succ_iff_lt_or_eq.1 hj with h9 | rfl
            · exact HL.out.2 j h9
            · exact HB.out.symm
          go_wp2_with fail
          go_roundw
          case rel => exact ⟨k + 1, by omega, by go_num, H2.out, HX.out⟩
          case measure => simp [intOf]; omega
        · have HX : Hid (¬ Acy g) := Lib.hid fun h9 => by
            have h8 := (acy_iff.1 h9).2 k (by rw [HV.out.2.2]; exact hkl)
            rw [← HB.out] at h8
            exact absurd h8 (by simp)
          go_wp2_with fail
          go_ret
          exact ⟨false, rfl, by simp [HX.out], H1.out.2.1.trans (H2.out.mono H1.out.2.1.size)⟩
      · obtain rfl : k = n := by omega
        have HX : Hid (Acy g) := Lib.hid (acy_iff.2 ⟨HV.out.1, fun v hv => HL.out.2 v (by rw [← HV.out.2.2]; exact hv)⟩)
        clear hkl
        go_wp2_with fail
        go_ret
        exact ⟨true, rfl, by simp [HX.out], H1.out.2.1.trans (HL.out.1.mono H1.out.2.1.size)⟩
  · have q0 : (gCode g != 0) = true := by simpa using hc
    have HX : Hid (¬ Acy g) := Lib.hid fun h9 => hc h9.1
    clear hc
    go_wp2_with fail
    go_ret
    exact ⟨false, rfl, by simp [HX.out], H1.out.2.1⟩
end Go.Proofs.Ytchmjgjagaaomaa
