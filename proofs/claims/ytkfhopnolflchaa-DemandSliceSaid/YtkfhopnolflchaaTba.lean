/- Contract of the reference's apply. -/
import Derived.Test.YtkfhopnolflchaaTbm
namespace Go.And
open Go.Dfl (nth nth_mem mem_nth nth_eq)
theorem holds1 {S : Syst} {p : Nat → Nat → Prop} {a b f : Nat} {s : List Nat} : Holds S p ⟨1, a, b, f, s⟩ ↔ p b a := by simp [Holds]
theorem holds2 {S : Syst} {p : Nat → Nat → Prop} {a b f : Nat} {s : List Nat} : Holds S p ⟨2, a, b, f, s⟩ ↔ ∀ x, p a x → p b x := by simp [Holds]
theorem holds3 {S : Syst} {p : Nat → Nat → Prop} {a b f : Nat} {s : List Nat} : Holds S p ⟨3, a, b, f, s⟩ ↔ ∀ y, p a y → ∀ x, p (S.cell y f) x → p b x := by simp [Holds]
theorem holds4 {S : Syst} {p : Nat → Nat → Prop} {a b f : Nat} {s : List Nat} : Holds S p ⟨4, a, b, f, s⟩ ↔ ∀ y, p b y → ∀ x, p a x → p (S.cell y f) x := by simp [Holds]
theorem holds5 {S : Syst} {p : Nat → Nat → Prop} {a b f : Nat} {s : List Nat} : Holds S p ⟨5, a, b, f, s⟩ ↔ ∀ x, p a x → x ∈ s → p b x := by simp [Holds]
end Go.And
namespace Go.Proofs.Ytkfhopnolflchaa
open Go.RowKit Go.Dfl Go.And

set_option maxHeartbeats 6400000 in
set_option maxRecDepth 100000 in
theorem tapply_any {S : Syst} {cv : Value} {tb : Nat} {ha : Option Addr} {hc : Nat} {vs : List Value} {M : List (List Bool)} {b : Bool} {W : World} (h : TbM S cv tb ha hc vs M b W) (c : C) (hok : c.Ok S) (hB : S.vars ≤ 40 ∧ S.sites ≤ 12 ∧ S.fields ≤ 5 ∧ S.N ≤ 100)
    (sa : Option Addr) (sc : Nat) (hset : ∀ Z, Below tb W Z → Ints Z (.slice sa c.s.length sc) (c.s.map fun x : Nat => (x : Int))) (hl : c.s.length ≤ 1000000) :
    Calls Try.prog 37 #[.pointer (some ⟨tb, 0, none⟩), .agg #[.int .i64 (c.k : Int), .int .i64 (c.a : Int), .int .i64 (c.b : Int), .int .i64 (c.f : Int), .slice sa c.s.length sc]] W (TDoes S cv tb ha hc vs (fun p => Holds S p c) M b W) := by
  obtain ⟨bv, bsi, bf, bN⟩ := hB
  have HX := Lib.hid (And.intro h (And.intro hok hset))
  have hck := hok.kind
  have hbN := vN hok.b
  clear h hok hset
  obtain ⟨ck, c_a, c_b, c_f, c_s⟩ := c
  dsimp only at *
  have hk5 : ck = 1 ∨ ck = 2 ∨ ck = 3 ∨ ck = 4 ∨ ck = 5 := by omega
  clear hck
  rcases hk5 with rfl | rfl | rfl | rfl | rfl
  · have ha1 : c_a < S.sites := by have h := HX.out.2.1.a; simpa using h
    go_enter Try.func37, Try.ntmps37
    go_wp2_with fail
    refine (tput_any (HX.out.1.keep (grownBy_alloc _ _)) c_b c_a hbN ha1).mono ?_
    rintro e W2 ⟨⟨v2, rfl⟩, M2, b2, hT2, hS2, hK2⟩
    have H2 := Lib.hid (And.intro hT2 (And.intro hS2 hK2))
    clear hT2 hS2 hK2
    go_wp2_with fail
    go_end0
    exact ⟨⟨_, rfl⟩, M2, b2, H2.out.1, H2.out.2.1.mono (fun p hp => holds1.1 hp) (fun hp => holds1.2 hp), (Kpt.grown (grownBy_alloc _ _) (by simp)).trans H2.out.2.2⟩
  · have ha1 : c_a < S.N := vN (by have h := HX.out.2.1.a; simpa using h)
    go_enter Try.func37, Try.ntmps37
    go_wp2_with fail
    refine (tflow_any (HX.out.1.keep (grownBy_alloc _ _)) c_a c_b ha1 hbN (by omega)).mono ?_
    rintro e W2 ⟨⟨v2, rfl⟩, M2, b2, hT2, hS2, hK2⟩
    have H2 := Lib.hid (And.intro hT2 (And.intro hS2 hK2))
    clear hT2 hS2 hK2
    go_wp2_with fail
    go_end0
    exact ⟨⟨_, rfl⟩, M2, b2, H2.out.1, H2.out.2.1.mono (fun p hp => holds2.1 hp) (fun hp => holds2.2 hp), (Kpt.grown (grownBy_alloc _ _) (by simp)).trans H2.out.2.2⟩
  · have ha1 : c_a < S.N := vN (by have h := HX.out.2.1.a; simpa using h)
    have hf : c_f < S.fields := HX.out.2.1.f (.inl rfl)
    rw [show ((3 : Nat) : Int) = 3 from rfl]
    go_enter Try.func37, Try.ntmps37
    go_wp2_with fail
    refine wp_gen (fun Z => TbM S cv tb ha hc vs M b Z ∧ Kpt tb (.slice ha S.N hc) vs W Z ∧ BoxC Z W.heap.size 3 c_a c_b c_f (.slice sa c_s.length sc)) ⟨HX.out.1.keep (grownBy_alloc _ _), Kpt.grown (grownBy_alloc _ _) (by simp), BoxC.new W 3 c_a c_b c_f _ _⟩ ?_
    rintro W1 h1
    have hbw0 : W.heap.size ≠ tb ∧ ¬ Foot (.slice ha S.N hc) vs W.heap.size := ⟨by have := World.block_lt_of_cell? W _ HX.out.1.s0; simp at this; omega, fun hf => by have := (HX.out.1.foot _ hf).2; omega⟩
    obtain ⟨bw, hbw⟩ : ∃ bw, bw = W.heap.size := ⟨_, rfl⟩
    rw [← hbw] at h1 hbw0 ⊢
    have H1 := Lib.hid h1
    have HBW := Lib.hid hbw0
    clear h1 hbw hbw0
    go_loopw [5] (fun x wr => ∃ k : Nat, k ≤ S.sites ∧ x = .int .i64 k ∧ Hid (∃ M' b', TbM S cv tb ha hc vs M' b' wr ∧ TStp S.N S.sites (fun p => ∀ y, y < k → p c_a y → ∀ x, p (S.cell y c_f) x → p c_b x) M M' b b' ∧ Kpt tb (.slice ha S.N hc) vs W wr ∧ BoxC wr bw 3 c_a c_b c_f (.slice sa c_s.length sc))) (fun x _ => S.sites - (intOf x).toNat)
    case atStart => exact ⟨0, by omega, rfl, M, b, H1.out.1, TStp.refl H1.out.1.shp fun _ y hy => by omega, H1.out.2.1, H1.out.2.2⟩
    case round =>
      obtain ⟨k, hk, rfl, hh⟩ := hrel
      obtain ⟨M', b', hT, hS, hK, hB⟩ := hh.out
      clear hh
      have s1 := hT.s1
      by_cases hlt : k < S.sites
      · obtain ⟨a, c, e2, i1, d1, i2, h2⟩ := hT.rd (i := c_a) ha1
        obtain ⟨d2, f2, ft⟩ := h2 k hlt
        have d0 := hT.has
        obtain ⟨q1, q2, q3, q4, q5⟩ := hB
        have HH := Lib.hid (And.intro hT (And.intro hS (And.intro hK (show BoxC wr bw 3 c_a c_b c_f (.slice sa c_s.length sc) from ⟨q1, q2, q3, q4, q5⟩))))
        clear hT hS hK e2 h2 ft f2
        generalize htg : tg M' c_a k = t at *
        have HT := Lib.hid htg
        clear htg
        cases t
        · go_wp2_with fail
          go_quiet (fail)
          go_wp2_with fail
          go_roundw
          case rel => exact ⟨k + 1, by omega, by go_num, M', b', HH.out.1.keep (grownBy_qt (by first | exact Qt.refl _ | exact Qt.drewN _ _ | exact (Qt.drewN _ _).trans (Qt.drewN _ _) | exact ((Qt.drewN _ _).trans (Qt.drewN _ _)).trans (Qt.drewN _ _) | exact Qt.drew _ | exact (Qt.drewN _ _).trans (Qt.drew _))), HH.out.2.1.mono (fun p hp y hy => hp y (by omega)) (fun hp y hy hpy => by
            by_cases e : y = k
            · subst e
              have h3 : tg M' c_a y = true := HH.out.2.1.le _ _ hpy
              rw [HT.out] at h3; cases h3
            · exact hp y (by omega) hpy), HH.out.2.2.1.trans (Kpt.grown (grownBy_qt (by first | exact Qt.refl _ | exact Qt.drewN _ _ | exact (Qt.drewN _ _).trans (Qt.drewN _ _) | exact ((Qt.drewN _ _).trans (Qt.drewN _ _)).trans (Qt.drewN _ _) | exact Qt.drew _ | exact (Qt.drewN _ _).trans (Qt.drew _))) (by simp)), HH.out.2.2.2.grown (grownBy_qt (by first | exact Qt.refl _ | exact Qt.drewN _ _ | exact (Qt.drewN _ _).trans (Qt.drewN _ _) | exact ((Qt.drewN _ _).trans (Qt.drewN _ _)).trans (Qt.drewN _ _) | exact Qt.drew _ | exact (Qt.drewN _ _).trans (Qt.drew _))) (by simp)⟩
          case measure => simp [intOf]; omega
        · go_wp2_with fail
          go_quiet (fail)
          go_wp2_with fail
          refine wp_gen (fun Z => Qt wr Z) (by first | exact Qt.refl _ | exact Qt.drewN _ _ | exact (Qt.drewN _ _).trans (Qt.drewN _ _) | exact ((Qt.drewN _ _).trans (Qt.drewN _ _)).trans (Qt.drewN _ _) | exact Qt.drew _ | exact (Qt.drewN _ _).trans (Qt.drew _)) ?_
          rintro W5 q55
          have g5 := grownBy_qt q55
          have H5 := Lib.hid (And.intro (HH.out.1.keep g5) (And.intro (HH.out.2.2.1.trans (Kpt.grown g5 (by simp))) (HH.out.2.2.2.grown g5 (by simp))))
          clear q1 q2 q3 q4 q5 d0 d1 d2 s1 i1 i2 g5 q55
          refine wp_region_mix [0, 1, 2, 3, 4, 6, 7] [5, 8] (fun w' => BoxC w' bw 3 c_a c_b c_f (.slice sa c_s.length sc)) (by kernel_rfl) (by kernel_rfl) (by kernel_rfl) (H5.out.2.2.grown (grownBy_drew0 _) (by simp)) ?_
          repeat (
            refine wpHeads_cons (v := ?_) rfl (Or.inl ⟨by rfl, ?_⟩) ?_
            rotate_left
            · (intro W hW; obtain ⟨q1, q2, q3, q4, q5⟩ := hW; go_simp; try with_reducible rfl)
            simp only [Act.put, List.setIfInBounds_toArray])
          refine wpHeads_nil ?_
          refine wpTails_cons rfl ?_
          go_wp2_with fail
          obtain ⟨nn, hnn, hcl7⟩ := tcell_any (H5.out.1.keep (grownBy_drew0 _)) k c_f (by omega) (by omega) (by omega) (by omega)
          refine hcl7.mono ?_
          rintro e W7 ⟨rfl, q7⟩
          have g7 : W5.grownBy W7 none := grownBy_trans (grownBy_drew0 _) (grownBy_qt q7)
          have H7 := Lib.hid (And.intro (H5.out.1.keep g7) (And.intro (H5.out.2.1.trans (Kpt.grown g7 (by simp))) (And.intro (H5.out.2.2.grown g7 (by simp)) hnn)))
          have hnN : nn < S.N := by rw [hnn]; exact Syst.cell_lt hlt hf
          clear g7 q7 hcl7 hnn
          go_wp2_with fail
          refine tail_mk H7.out.2.2.1 ?_
          refine wpTails_one rfl ?_
          go_wp2_with fail
          refine (tflow_any H7.out.1 nn c_b hnN hbN (by omega)).mono ?_
          rintro e W8 ⟨⟨v2, rfl⟩, M2, b2, hT2, hS2, hK2⟩
          have hB8 : BoxC W8 bw 3 c_a c_b c_f (.slice sa c_s.length sc) := by
            obtain ⟨r1, r2, r3, r4, r5⟩ := H7.out.2.2.1
            exact ⟨hK2.cell r1 HBW.out.1 HBW.out.2, hK2.cell r2 HBW.out.1 HBW.out.2, hK2.cell r3 HBW.out.1 HBW.out.2, hK2.cell r4 HBW.out.1 HBW.out.2, hK2.cell r5 HBW.out.1 HBW.out.2⟩
          rw [H7.out.2.2.2] at hS2
          have H8 := Lib.hid (And.intro hT2 (And.intro hS2 (And.intro (H7.out.2.1.trans hK2) hB8)))
          clear hT2 hS2 hK2 hB8
          go_wp2_with fail
          refine thenQ_mk ?_
          go_wp2_with fail
          go_roundw
          case rel => exact ⟨k + 1, by omega, by go_num, M2, b2, H8.out.1, HH.out.2.1.thenW H8.out.2.1 _ (fun p hp y hy => hp y (by omega)) (fun p hs hp => hp k (by omega) (hs _ _ HT.out)) (fun hF hG y hy hpy => by
            by_cases e : y = k
            · subst e; exact hG
            · exact hF y (by omega) hpy), H8.out.2.2.1, H8.out.2.2.2⟩
          case measure => simp [intOf]; omega
      · obtain rfl : k = S.sites := by omega
        have HH := Lib.hid (And.intro hT (And.intro hS hK))
        clear hT hS hK hB
        go_wp2_with fail
        go_end0
        exact ⟨⟨_, rfl⟩, M', b', HH.out.1, HH.out.2.1.mono (fun p hp y _ => holds3.1 hp y) (fun hp => holds3.2 fun y hy => hp y (tg_lt HX.out.1.shp hy).2 hy), HH.out.2.2⟩
  · have ha1 : c_a < S.N := vN (by have h := HX.out.2.1.a; simpa using h)
    have hf : c_f < S.fields := HX.out.2.1.f (.inr rfl)
    rw [show ((4 : Nat) : Int) = 4 from rfl]
    go_enter Try.func37, Try.ntmps37
    go_wp2_with fail
    refine wp_gen (fun Z => TbM S cv tb ha hc vs M b Z ∧ Kpt tb (.slice ha S.N hc) vs W Z ∧ BoxC Z W.heap.size 4 c_a c_b c_f (.slice sa c_s.length sc)) ⟨HX.out.1.keep (grownBy_alloc _ _), Kpt.grown (grownBy_alloc _ _) (by simp), BoxC.new W 4 c_a c_b c_f _ _⟩ ?_
    rintro W1 h1
    have hbw0 : W.heap.size ≠ tb ∧ ¬ Foot (.slice ha S.N hc) vs W.heap.size := ⟨by have := World.block_lt_of_cell? W _ HX.out.1.s0; simp at this; omega, fun hf => by have := (HX.out.1.foot _ hf).2; omega⟩
    obtain ⟨bw, hbw⟩ : ∃ bw, bw = W.heap.size := ⟨_, rfl⟩
    rw [← hbw] at h1 hbw0 ⊢
    have H1 := Lib.hid h1
    have HBW := Lib.hid hbw0
    clear h1 hbw hbw0
    go_loopw [6] (fun x wr => ∃ k : Nat, k ≤ S.sites ∧ x = .int .i64 k ∧ Hid (∃ M' b', TbM S cv tb ha hc vs M' b' wr ∧ TStp S.N S.sites (fun p => ∀ y, y < k → p c_b y → ∀ x, p c_a x → p (S.cell y c_f) x) M M' b b' ∧ Kpt tb (.slice ha S.N hc) vs W wr ∧ BoxC wr bw 4 c_a c_b c_f (.slice sa c_s.length sc))) (fun x _ => S.sites - (intOf x).toNat)
    case atStart => exact ⟨0, by omega, rfl, M, b, H1.out.1, TStp.refl H1.out.1.shp fun _ y hy => by omega, H1.out.2.1, H1.out.2.2⟩
    case round =>
      obtain ⟨k, hk, rfl, hh⟩ := hrel
      obtain ⟨M', b', hT, hS, hK, hB⟩ := hh.out
      clear hh
      have s1 := hT.s1
      by_cases hlt : k < S.sites
      · obtain ⟨a, c, e2, i1, d1, i2, h2⟩ := hT.rd (i := c_b) hbN
        obtain ⟨d2, f2, ft⟩ := h2 k hlt
        have d0 := hT.has
        obtain ⟨q1, q2, q3, q4, q5⟩ := hB
        have HH := Lib.hid (And.intro hT (And.intro hS (And.intro hK (show BoxC wr bw 4 c_a c_b c_f (.slice sa c_s.length sc) from ⟨q1, q2, q3, q4, q5⟩))))
        clear hT hS hK e2 h2 ft f2
        generalize htg : tg M' c_b k = t at *
        have HT := Lib.hid htg
        clear htg
        cases t
        · go_wp2_with fail
          go_quiet (fail)
          go_wp2_with fail
          go_roundw
          case rel => exact ⟨k + 1, by omega, by go_num, M', b', HH.out.1.keep (grownBy_qt (by first | exact Qt.refl _ | exact Qt.drewN _ _ | exact (Qt.drewN _ _).trans (Qt.drewN _ _) | exact ((Qt.drewN _ _).trans (Qt.drewN _ _)).trans (Qt.drewN _ _) | exact Qt.drew _ | exact (Qt.drewN _ _).trans (Qt.drew _))), HH.out.2.1.mono (fun p hp y hy => hp y (by omega)) (fun hp y hy hpy => by
            by_cases e : y = k
            · subst e
              have h3 : tg M' c_b y = true := HH.out.2.1.le _ _ hpy
              rw [HT.out] at h3; cases h3
            · exact hp y (by omega) hpy), HH.out.2.2.1.trans (Kpt.grown (grownBy_qt (by first | exact Qt.refl _ | exact Qt.drewN _ _ | exact (Qt.drewN _ _).trans (Qt.drewN _ _) | exact ((Qt.drewN _ _).trans (Qt.drewN _ _)).trans (Qt.drewN _ _) | exact Qt.drew _ | exact (Qt.drewN _ _).trans (Qt.drew _))) (by simp)), HH.out.2.2.2.grown (grownBy_qt (by first | exact Qt.refl _ | exact Qt.drewN _ _ | exact (Qt.drewN _ _).trans (Qt.drewN _ _) | exact ((Qt.drewN _ _).trans (Qt.drewN _ _)).trans (Qt.drewN _ _) | exact Qt.drew _ | exact (Qt.drewN _ _).trans (Qt.drew _))) (by simp)⟩
          case measure => simp [intOf]; omega
        · go_wp2_with fail
          go_quiet (fail)
          go_wp2_with fail
          refine wp_gen (fun Z => Qt wr Z) (by first | exact Qt.refl _ | exact Qt.drewN _ _ | exact (Qt.drewN _ _).trans (Qt.drewN _ _) | exact ((Qt.drewN _ _).trans (Qt.drewN _ _)).trans (Qt.drewN _ _) | exact Qt.drew _ | exact (Qt.drewN _ _).trans (Qt.drew _)) ?_
          rintro W5 q55
          have g5 := grownBy_qt q55
          have H5 := Lib.hid (And.intro (HH.out.1.keep g5) (And.intro (HH.out.2.2.1.trans (Kpt.grown g5 (by simp))) (HH.out.2.2.2.grown g5 (by simp))))
          clear q1 q2 q3 q4 q5 d0 d1 d2 s1 i1 i2 g5 q55
          refine wp_region_mix [0, 1, 2, 3, 4, 5, 6] [7, 8] (fun w' => BoxC w' bw 4 c_a c_b c_f (.slice sa c_s.length sc)) (by kernel_rfl) (by kernel_rfl) (by kernel_rfl) (H5.out.2.2.grown (grownBy_drew0 _) (by simp)) ?_
          repeat (
            refine wpHeads_cons (v := ?_) rfl (Or.inl ⟨by rfl, ?_⟩) ?_
            rotate_left
            · (intro W hW; obtain ⟨q1, q2, q3, q4, q5⟩ := hW; go_simp; try with_reducible rfl)
            simp only [Act.put, List.setIfInBounds_toArray])
          refine wpHeads_nil ?_
          refine wpTails_cons rfl ?_
          go_wp2_with fail
          obtain ⟨nn, hnn, hcl7⟩ := tcell_any (H5.out.1.keep (grownBy_drew0 _)) k c_f (by omega) (by omega) (by omega) (by omega)
          refine hcl7.mono ?_
          rintro e W7 ⟨rfl, q7⟩
          have g7 : W5.grownBy W7 none := grownBy_trans (grownBy_drew0 _) (grownBy_qt q7)
          have H7 := Lib.hid (And.intro (H5.out.1.keep g7) (And.intro (H5.out.2.1.trans (Kpt.grown g7 (by simp))) (And.intro (H5.out.2.2.grown g7 (by simp)) hnn)))
          have hnN : nn < S.N := by rw [hnn]; exact Syst.cell_lt hlt hf
          clear g7 q7 hcl7 hnn
          go_wp2_with fail
          refine tail_mk H7.out.2.2.1 ?_
          refine wpTails_one rfl ?_
          go_wp2_with fail
          refine (tflow_any H7.out.1 c_a nn ha1 hnN (by omega)).mono ?_
          rintro e W8 ⟨⟨v2, rfl⟩, M2, b2, hT2, hS2, hK2⟩
          have hB8 : BoxC W8 bw 4 c_a c_b c_f (.slice sa c_s.length sc) := by
            obtain ⟨r1, r2, r3, r4, r5⟩ := H7.out.2.2.1
            exact ⟨hK2.cell r1 HBW.out.1 HBW.out.2, hK2.cell r2 HBW.out.1 HBW.out.2, hK2.cell r3 HBW.out.1 HBW.out.2, hK2.cell r4 HBW.out.1 HBW.out.2, hK2.cell r5 HBW.out.1 HBW.out.2⟩
          rw [H7.out.2.2.2] at hS2
          have H8 := Lib.hid (And.intro hT2 (And.intro hS2 (And.intro (H7.out.2.1.trans hK2) hB8)))
          clear hT2 hS2 hK2 hB8
          go_wp2_with fail
          refine thenQ_mk ?_
          go_wp2_with fail
          go_roundw
          case rel => exact ⟨k + 1, by omega, by go_num, M2, b2, H8.out.1, HH.out.2.1.thenW H8.out.2.1 _ (fun p hp y hy => hp y (by omega)) (fun p hs hp => hp k (by omega) (hs _ _ HT.out)) (fun hF hG y hy hpy => by
            by_cases e : y = k
            · subst e; exact hG
            · exact hF y (by omega) hpy), H8.out.2.2.1, H8.out.2.2.2⟩
          case measure => simp [intOf]; omega
      · obtain rfl : k = S.sites := by omega
        have HH := Lib.hid (And.intro hT (And.intro hS hK))
        clear hT hS hK hB
        go_wp2_with fail
        go_end0
        exact ⟨⟨_, rfl⟩, M', b', HH.out.1, HH.out.2.1.mono (fun p hp y _ => holds4.1 hp y) (fun hp => holds4.2 fun y hy => hp y (tg_lt HX.out.1.shp hy).2 hy), HH.out.2.2⟩
  · have ha1 : c_a < S.N := vN (by have h := HX.out.2.1.a; simpa using h)
    rw [show ((5 : Nat) : Int) = 5 from rfl]
    go_enter Try.func37, Try.ntmps37
    go_wp2_with fail
    refine wp_gen (fun Z => TbM S cv tb ha hc vs M b Z ∧ Kpt tb (.slice ha S.N hc) vs W Z ∧ BoxC Z W.heap.size 5 c_a c_b c_f (.slice sa c_s.length sc)) ⟨HX.out.1.keep (grownBy_alloc _ _), Kpt.grown (grownBy_alloc _ _) (by simp), BoxC.new W 5 c_a c_b c_f _ _⟩ ?_
    rintro W1 h1
    have hbw0 : W.heap.size ≠ tb ∧ ¬ Foot (.slice ha S.N hc) vs W.heap.size := ⟨by have := World.block_lt_of_cell? W _ HX.out.1.s0; simp at this; omega, fun hf => by have := (HX.out.1.foot _ hf).2; omega⟩
    obtain ⟨bw, hbw⟩ : ∃ bw, bw = W.heap.size := ⟨_, rfl⟩
    rw [← hbw] at h1 hbw0 ⊢
    have H1 := Lib.hid h1
    have HBW := Lib.hid hbw0
    clear h1 hbw hbw0
    go_loopw [4] (fun x wr => ∃ k : Nat, k ≤ c_s.length ∧ x = .int .i64 k ∧ Hid (∃ M' b', TbM S cv tb ha hc vs M' b' wr ∧ TStp S.N S.sites (fun p => ∀ i, i < k → p c_a (nth c_s i) → p c_b (nth c_s i)) M M' b b' ∧ Kpt tb (.slice ha S.N hc) vs W wr ∧ BoxC wr bw 5 c_a c_b c_f (.slice sa c_s.length sc))) (fun x _ => c_s.length - (intOf x).toNat)
    case atStart => exact ⟨0, by omega, rfl, M, b, H1.out.1, TStp.refl H1.out.1.shp fun _ y hy => by omega, H1.out.2.1, H1.out.2.2⟩
    case round =>
      obtain ⟨k, hk, rfl, hh⟩ := hrel
      obtain ⟨M', b', hT, hS, hK, hB⟩ := hh.out
      clear hh
      by_cases hlt : k < c_s.length
      · obtain ⟨a, c, e2, i1, d1, i2, h2⟩ := hT.rd (i := c_a) ha1
        have hys : nth c_s k < S.sites := HX.out.2.1.s _ (nth_mem _ _ hlt)
        obtain ⟨a9, c9, e9, -, i9, d9, -⟩ := (HX.out.2.2 wr (Kpt.below HX.out.1 hK)).out1 sInt
        simp only [Value.slice.injEq, List.length_map] at e9
        obtain ⟨rfl, -, rfl⟩ := e9
        simp only [List.length_map] at i9 d9
        have d8 := d9 k hlt
        rw [nth_map' _ _ _ hlt] at d8
        obtain ⟨y, hy⟩ : ∃ y, y = nth c_s k := ⟨_, rfl⟩
        rw [← hy] at d8 hys
        obtain ⟨d2, f2, ft⟩ := h2 y hys
        have d0 := hT.has
        obtain ⟨q1, q2, q3, q4, q5⟩ := hB
        have HH := Lib.hid (And.intro hT (And.intro hS (And.intro hK (And.intro (show BoxC wr bw 5 c_a c_b c_f (.slice sa c_s.length sc) from ⟨q1, q2, q3, q4, q5⟩) (And.intro d8 hy)))))
        clear hT hS hK e2 h2 ft f2 d9 hy
        generalize htg : tg M' c_a y = t at *
        have HT := Lib.hid htg
        clear htg
        cases t
        · go_wp2_with fail
          go_quiet (fail)
          go_wp2_with fail
          go_roundw
          case rel => exact ⟨k + 1, by omega, by go_num, M', b', HH.out.1.keep (grownBy_qt (by first | exact Qt.refl _ | exact Qt.drewN _ _ | exact (Qt.drewN _ _).trans (Qt.drewN _ _) | exact ((Qt.drewN _ _).trans (Qt.drewN _ _)).trans (Qt.drewN _ _) | exact Qt.drew _ | exact (Qt.drewN _ _).trans (Qt.drew _))), HH.out.2.1.mono (fun p hp i hi => hp i (by omega)) (fun hp i hi hpy => by
            by_cases e : i = k
            · subst e
              rw [← HH.out.2.2.2.2.2] at hpy
              have h3 : tg M' c_a y = true := HH.out.2.1.le _ _ hpy
              rw [HT.out] at h3; cases h3
            · exact hp i (by omega) hpy), HH.out.2.2.1.trans (Kpt.grown (grownBy_qt (by first | exact Qt.refl _ | exact Qt.drewN _ _ | exact (Qt.drewN _ _).trans (Qt.drewN _ _) | exact ((Qt.drewN _ _).trans (Qt.drewN _ _)).trans (Qt.drewN _ _) | exact Qt.drew _ | exact (Qt.drewN _ _).trans (Qt.drew _))) (by simp)), HH.out.2.2.2.1.grown (grownBy_qt (by first | exact Qt.refl _ | exact Qt.drewN _ _ | exact (Qt.drewN _ _).trans (Qt.drewN _ _) | exact ((Qt.drewN _ _).trans (Qt.drewN _ _)).trans (Qt.drewN _ _) | exact Qt.drew _ | exact (Qt.drewN _ _).trans (Qt.drew _))) (by simp)⟩
          case measure => simp [intOf]; omega
        · go_wp2_with fail
          go_quiet (fail)
          go_wp2_with fail
          refine wp_gen (fun Z => Qt wr Z) (by first | exact Qt.refl _ | exact Qt.drewN _ _ | exact (Qt.drewN _ _).trans (Qt.drewN _ _) | exact ((Qt.drewN _ _).trans (Qt.drewN _ _)).trans (Qt.drewN _ _) | exact Qt.drew _ | exact (Qt.drewN _ _).trans (Qt.drew _)) ?_
          rintro W5 q55
          have g5 := grownBy_qt q55
          have H5 := Lib.hid (And.intro (HH.out.1.keep g5) (And.intro (HH.out.2.2.1.trans (Kpt.grown g5 (by simp))) (And.intro (HH.out.2.2.2.1.grown g5 (by simp)) (g5.cell HH.out.2.2.2.2.1 (by simp)))))
          clear q1 q2 q3 q4 q5 d0 d1 d2 i1 i2 g5 q55 d8
          refine wp_region_mix [0, 1, 2, 3, 4, 5, 6, 7] [8] (fun w' => BoxC w' bw 5 c_a c_b c_f (.slice sa c_s.length sc) ∧ w'.cell? ⟨blk sa, ofs sa + k, none⟩ = some (.int .i64 (y : Int))) (by kernel_rfl) (by kernel_rfl) (by kernel_rfl) ⟨H5.out.2.2.1.grown (grownBy_drew0 _) (by simp), (grownBy_drew0 _).cell H5.out.2.2.2 (by simp)⟩ ?_
          repeat (
            refine wpHeads_cons (v := ?_) rfl (Or.inl ⟨by rfl, ?_⟩) ?_
            rotate_left
            · (intro W hW; obtain ⟨⟨q1, q2, q3, q4, q5⟩, q6⟩ := hW; go_simp; try with_reducible rfl)
            simp only [Act.put, List.setIfInBounds_toArray])
          refine wpHeads_nil ?_
          refine wpTails_one rfl ?_
          go_wp2_with fail
          refine (tput_any (H5.out.1.keep (grownBy_drew0 _)) c_b y hbN hys).mono ?_
          rintro e W8 ⟨⟨v2, rfl⟩, M2, b2, hT2, hS2, hK2'⟩
          have hK2 : Kpt tb (.slice ha S.N hc) vs W5 W8 := (Kpt.grown (grownBy_drew0 _) (by simp)).trans hK2'
          have hB8 : BoxC W8 bw 5 c_a c_b c_f (.slice sa c_s.length sc) := by
            obtain ⟨r1, r2, r3, r4, r5⟩ := H5.out.2.2.1
            exact ⟨hK2.cell r1 HBW.out.1 HBW.out.2, hK2.cell r2 HBW.out.1 HBW.out.2, hK2.cell r3 HBW.out.1 HBW.out.2, hK2.cell r4 HBW.out.1 HBW.out.2, hK2.cell r5 HBW.out.1 HBW.out.2⟩
          have H8 := Lib.hid (And.intro hT2 (And.intro hS2 (And.intro (H5.out.2.1.trans hK2) hB8)))
          clear hT2 hS2 hK2 hK2' hB8
          go_wp2_with fail
          refine thenQ_mk ?_
          go_wp2_with fail
          go_roundw
          case rel => exact ⟨k + 1, by omega, by go_num, M2, b2, H8.out.1, HH.out.2.1.thenW H8.out.2.1 _ (fun p hp i hi => hp i (by omega)) (fun p hs hp => by have := hp k (by omega); rw [← HH.out.2.2.2.2.2] at this; exact this (hs _ _ HT.out)) (fun hF hG i hi hpy => by
            by_cases e : i = k
            · subst e; rw [← HH.out.2.2.2.2.2]; exact hG
            · exact hF i (by omega) hpy), H8.out.2.2.1, H8.out.2.2.2⟩
          case measure => simp [intOf]; omega
      · obtain rfl : k = c_s.length := by omega
        have HH := Lib.hid (And.intro hT (And.intro hS hK))
        obtain ⟨q1, q2, q3, q4, q5⟩ := hB
        clear hT hS hK
        go_wp2_with fail
        go_end0
        exact ⟨⟨_, rfl⟩, M', b', HH.out.1, HH.out.2.1.mono (fun p hp i hi hpi => holds5.1 hp _ hpi (nth_mem _ _ hi)) (fun hp => holds5.2 fun x hx hm => by
          obtain ⟨i, hi, rfl⟩ := mem_nth hm
          exact hp i hi hx), HH.out.2.2⟩
end Go.Proofs.Ytkfhopnolflchaa
