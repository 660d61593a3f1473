/- GraphReverses: for any graph and nodes, reversing twice gives the graph, and reachability is reversed. -/
import Derived.Test.YtjapnkhgijhakaaGin
namespace Go.Gra
theorem rch_rev {g : G} (h : VG g) {r : List (Int × Int)} (hr : RevOf g.es r) {a b : Nat} : Rch g.es a b ↔ Rch r b a := by
  refine ⟨fun k => k.rev h hr, fun k => ?_⟩
  exact Rch.rev (g := ⟨g.n, r⟩) (h.rev hr) (hr.symm h.srt) k
/-- Who is reached from v reaches v in the reversed graph. -/
theorem reach_rev {g : G} (hc : gCode g = 0) {r : List (Int × Int)} (hr : RevOf g.es r) {v w : Int} {l m : List Int} (hl : ∀ y : Int, y ∈ l ↔ 0 ≤ y ∧ y.toNat ∈ reachL g [v]) (hm : ∀ y : Int, y ∈ m ↔ 0 ≤ y ∧ y.toNat ∈ reachL ⟨g.n, r⟩ [w]) : decide (w ∈ l) = decide (v ∈ m) := by
  have hvg := gCode_ok.1 hc
  have hvr := hvg.rev hr
  refine decide_eq_decide.2 ?_
  rw [hl, hm, mem_reachL hvg, mem_reachL hvr]
  constructor
  · rintro ⟨hw0, x, hx, hnx, hR⟩
    obtain rfl := List.mem_singleton.1 hx
    have hwn : nodeB g.n w = true := by
      have h1 := reachL_lt hvg ((mem_reachL hvg (l := [x])).2 ⟨x, by simp, hnx, hR⟩)
      exact nodeB_iff.2 ⟨hw0, by omega⟩
    exact ⟨(nodeB_iff.1 hnx).1, w, by simp, hwn, (rch_rev hvg hr).1 hR⟩
  · rintro ⟨hv0, x, hx, hnx, hR⟩
    obtain rfl := List.mem_singleton.1 hx
    have hvn : nodeB g.n v = true := by
      have h1 := reachL_lt hvr ((mem_reachL hvr (l := [x])).2 ⟨x, by simp, hnx, hR⟩)
      dsimp only at h1
      exact nodeB_iff.2 ⟨hv0, by omega⟩
    exact ⟨(nodeB_iff.1 hnx).1, v, by simp, hvn, (rch_rev hvg hr).2 hR⟩
end Go.Gra
namespace Go.Proofs.Ytjapnkhgijhakaa
open Go.ChangeShapes Go.WideShapes Go.ChangeAt Go.RowKit Go.Dfl Go.Gra

/-- The two boxed graphs. -/
structure G2 (bs bb : Nat) (g h : G) (cv dv : Value) (W0 Z : World) : Prop where
  a : GB bs g cv Z
  b : GB bb h dv Z
  bel : Below W0.heap.size W0 Z
theorem G2.below {bs bb : Nat} {g h : G} {cv dv : Value} {W0 Z Z' : World} (k : G2 bs bb g h cv dv W0 Z) (hb : Below Z.heap.size Z Z') : G2 bs bb g h cv dv W0 Z' := ⟨k.a.below hb, k.b.below hb, bel_trans k.bel hb⟩
set_option maxHeartbeats 3200000 in
set_option maxRecDepth 100000 in
theorem GraphReverses_walk (g : G) (cv : Value) (v w : Int) (W : World) (h : Pairs W cv g.es) (_hv : -9223372036854775808 ≤ v ∧ v ≤ 9223372036854775807) (_hw : -9223372036854775808 ≤ w ∧ w ≤ 9223372036854775807) : Calls Try.prog 9 #[GV g cv, .int .i64 v, .int .i64 w] W (TruePost W) := by
  obtain ⟨ca, cc, rfl, -, -, -⟩ := pairs_rd h
  have hal := (Below.refl W.heap.size W).alloc (Nat.le_refl _) (.cells #[.int .i64 g.n, .slice ca g.es.length cc] 25)
  have H0 := Lib.hid (And.intro (GB.new h 25) hal)
  clear h hal
  obtain ⟨c0, c1⟩ := H0.out.1.box
  unfold GV
  go_enter Try.func9, Try.ntmps9
  by_cases hq : 300 < g.es.length
  · have hq' : (300 : Int) < (g.es.length : Int) := by omega
    go_wp2_with fail
    refine (awake_any _).mono ?_
    rintro e Z ⟨rfl, b⟩
    have HB := Lib.hid (bel_trans H0.out.2 b)
    go_wp2_with fail
    go_ret
    exact ⟨rfl, HB.out⟩
  · have hq' : ¬ (300 : Int) < (g.es.length : Int) := by omega
    go_wp2_with fail
    have hre := gReverse_any g (.slice ca g.es.length cc) _ H0.out.1.es
    unfold GV at hre
    refine hre.mono ?_
    rintro e W1 hr1
    obtain ⟨h, a1, k1, rfl, p1, ri, b1⟩ := hr1.is
    have hbb := (Below.refl W1.heap.size W1).alloc (Nat.le_refl _) (.cells #[.int .i64 h.n, .slice a1 h.es.length k1] 25)
    have hg2 : G2 W.heap.size W1.heap.size g h (.slice ca g.es.length cc) (.slice a1 h.es.length k1) W (W1.alloc (.cells #[.int .i64 h.n, .slice a1 h.es.length k1] 25)) := ⟨(H0.out.1.below b1).below hbb, GB.new p1 25, bel_trans (bel_trans H0.out.2 b1) hbb⟩
    have H1 := Lib.hid (And.intro hg2 ri)
    have hbz := World.block_lt_of_cell? W1 ⟨W.heap.size, 0, none⟩ (H0.out.1.below b1).box.1
    dsimp only at hbz
    clear hre hr1 p1 ri b1 hbb hg2 c0 c1
    obtain ⟨c0, c1⟩ := H1.out.1.a.box
    obtain ⟨d0, d1⟩ := H1.out.1.b.box
    unfold GV
    go_wp2_with fail
    generalize hbs : W.heap.size = bs at *
    generalize hbb : W1.heap.size = bb at *
    clear hbs hbb
    have hck := rCheck_any g (.slice ca g.es.length cc) _ H1.out.1.a.es
    unfold GV at hck
    refine hck.mono ?_
    rintro e W2 ⟨rfl, b2⟩
    have H2 := Lib.hid (H1.out.1.below b2)
    clear hck b2 c0 c1 d0 d1
    obtain ⟨c0, c1⟩ := H2.out.a.box
    obtain ⟨d0, d1⟩ := H2.out.b.box
    by_cases hc : gCode g = 0
    · have q0 : (gCode g != 0) = false := by simpa using hc
      obtain ⟨hn, hrv⟩ : h.n = g.n ∧ RevOf g.es h.es := by
        rcases H1.out.2 with ⟨h1, -⟩ | ⟨-, h2, h3⟩
        · exact absurd hc h1
        · exact ⟨h2, h3⟩
      have hvg := gCode_ok.1 hc
      have hch : gCode h = 0 := by
        have h1 := gCode_rev hc hrv
        obtain ⟨hn1, he1⟩ := h
        dsimp only at hn h1
        subst hn
        exact h1
      have HV := Lib.hid (And.intro hc (And.intro hn (And.intro hrv (And.intro hvg hch))))
      clear hc hn hrv hvg hch
      go_upto_region 6 with fail
      have hgd := H2.out.below ((Below.refl _ _).drew)
      refine wp_region_plan (.take 0 (.take 2 (.alt 1 (.alt 3 (.take 4 (.take 5 (.take 6 (.alt 7 (.take 8 (.take 9 .done)) .stop)))) .stop) .stop)))
        (fun w' => (w'.cell? ⟨bs, 0, none⟩ = some (.int .i64 g.n) ∧ w'.cell? ⟨bs, 1, none⟩ = some (.slice ca g.es.length cc)) ∧ w'.cell? ⟨bb, 0, none⟩ = some (.int .i64 h.n) ∧ w'.cell? ⟨bb, 1, none⟩ = some (.slice a1 h.es.length k1)) (by kernel_rfl) (by kernel_rfl) (by kernel_rfl) (by kernel_rfl) ⟨hgd.a.box, hgd.b.box⟩ ?_
      refine plan_take (v := ?_) rfl (Or.inl ⟨by rfl, ?_⟩) ?_
      rotate_left
      · (intro W hW; obtain ⟨⟨q1, q2⟩, q3, q4⟩ := hW; go_simp; try with_reducible rfl)
      simp only [Act.put, List.getElem_toArray]
      refine plan_take (v := ?_) rfl (Or.inl ⟨by rfl, ?_⟩) ?_
      rotate_left
      · (intro W hW; obtain ⟨⟨q1, q2⟩, q3, q4⟩ := hW; go_simp; try with_reducible rfl)
      simp only [Act.put, List.getElem_toArray]
      have HG := Lib.hid hgd
      clear hgd c0 c1 d0 d1
      generalize W2.drew = V at *
      refine plan_alt rfl ?_ plan_stop
      go_wp2_with fail
      have hc := gReverse_any h (.slice a1 h.es.length k1) V HG.out.b.es
      unfold GV at hc
      refine hc.mono ?_
      rintro e V1 hre
      obtain ⟨g2, a2, k2, rfl, p2, ri, hb⟩ := hre.is
      have hg2 : g2 = g := by
        rcases ri with ⟨h1, -⟩ | ⟨-, h2, h3⟩
        · exact absurd HV.out.2.2.2.2 h1
        · have h4 := h3.unique (HV.out.2.2.1.symm HV.out.2.2.2.1.srt)
          have h5 := h2.trans HV.out.2.1
          obtain ⟨n2, e2⟩ := g2
          obtain ⟨n3, e3⟩ := g
          dsimp only at h4 h5
          rw [h4, h5]
      subst hg2
      have HP := Lib.hid p2
      replace HG := Lib.hid (HG.out.below hb)
      clear hc hre ri hb p2
      unfold GV
      go_wp2_with fail
      refine tail_mk ⟨HG.out.a.box, HG.out.b.box⟩ ?_
      refine plan_alt rfl ?_ plan_stop
      go_wp2_with fail
      have hc := rSame_any g2 g2 _ _ V1 HP.out HG.out.a.es
      unfold GV at hc
      refine hc.mono ?_
      rintro e V2 ⟨rfl, hb⟩
      rw [sameB_refl]
      replace HG := Lib.hid (HG.out.below hb)
      clear hc hb HP
      go_wp2_with fail
      refine tail_mk ⟨HG.out.a.box, HG.out.b.box⟩ ?_
      refine plan_take (v := ?_) rfl (Or.inl ⟨by rfl, ?_⟩) ?_
      rotate_left
      · (intro W hW; obtain ⟨⟨q1, q2⟩, q3, q4⟩ := hW; go_simp; try with_reducible rfl)
      simp only [Act.put, List.getElem_toArray]
      refine plan_take (v := ?_) rfl (Or.inl ⟨by rfl, ?_⟩) ?_
      rotate_left
      · (intro W hW; obtain ⟨⟨q1, q2⟩, q3, q4⟩ := hW; go_simp; try with_reducible rfl)
      simp only [Act.put, List.getElem_toArray]
      refine plan_take (v := ?_) rfl (Or.inl ⟨by rfl, ?_⟩) ?_
      rotate_left
      · (intro W hW; obtain ⟨⟨q1, q2⟩, q3, q4⟩ := hW; go_simp; try with_reducible rfl)
      simp only [Act.put, List.getElem_toArray]
      refine plan_alt rfl ?_ plan_stop
      go_wp2_with fail
      have hc := gCheck_any h _ V2 HG.out.b.es
      unfold GV at hc
      refine hc.mono ?_
      rintro e V3 ⟨rfl, hb⟩
      rw [HV.out.2.2.2.2]
      replace HG := Lib.hid (HG.out.below hb)
      clear hc hb
      go_wp2_with fail
      refine tail_mk ⟨HG.out.a.box, HG.out.b.box⟩ ?_
      refine plan_take (v := ?_) rfl (Or.inl ⟨by rfl, ?_⟩) ?_
      rotate_left
      · (intro W hW; obtain ⟨⟨q1, q2⟩, q3, q4⟩ := hW; go_simp; try with_reducible rfl)
      simp only [Act.put, List.getElem_toArray]
      refine plan_take (v := ?_) rfl (Or.inl ⟨by rfl, ?_⟩) ?_
      rotate_left
      · (intro W hW; obtain ⟨⟨q1, q2⟩, q3, q4⟩ := hW; go_simp; try with_reducible rfl)
      simp only [Act.put, List.getElem_toArray]
      refine plan_done ?_
      go_upto_region 8 with fail
      have hgd := HG.out.below ((Below.refl _ _).drew)
      refine wp_region_plan (.take 0 (.take 1 (.take 3 (.take 4 (.alt 2 (.alt 5 (.alt 6 (.take 7 .done) .stop) .stop) .stop)))))
        (fun w' => (w'.cell? ⟨bs, 0, none⟩ = some (.int .i64 g2.n) ∧ w'.cell? ⟨bs, 1, none⟩ = some (.slice ca g2.es.length cc)) ∧ w'.cell? ⟨bb, 0, none⟩ = some (.int .i64 h.n) ∧ w'.cell? ⟨bb, 1, none⟩ = some (.slice a1 h.es.length k1)) (by kernel_rfl) (by kernel_rfl) (by kernel_rfl) (by kernel_rfl) ⟨hgd.a.box, hgd.b.box⟩ ?_
      refine plan_take (v := ?_) rfl (Or.inl ⟨by rfl, ?_⟩) ?_
      rotate_left
      · (intro W hW; obtain ⟨⟨q1, q2⟩, q3, q4⟩ := hW; go_simp; try with_reducible rfl)
      simp only [Act.put, List.getElem_toArray]
      refine plan_take (v := ?_) rfl (Or.inl ⟨by rfl, ?_⟩) ?_
      rotate_left
      · (intro W hW; obtain ⟨⟨q1, q2⟩, q3, q4⟩ := hW; go_simp; try with_reducible rfl)
      simp only [Act.put, List.getElem_toArray]
      refine plan_take (v := ?_) rfl (Or.inl ⟨by rfl, ?_⟩) ?_
      rotate_left
      · (intro W hW; obtain ⟨⟨q1, q2⟩, q3, q4⟩ := hW; go_simp; try with_reducible rfl)
      simp only [Act.put, List.getElem_toArray]
      refine plan_take (v := ?_) rfl (Or.inl ⟨by rfl, ?_⟩) ?_
      rotate_left
      · (intro W hW; obtain ⟨⟨q1, q2⟩, q3, q4⟩ := hW; go_simp; try with_reducible rfl)
      simp only [Act.put, List.getElem_toArray]
      replace HG := Lib.hid hgd
      clear hgd
      generalize V3.drew = V4 at *
      refine plan_alt rfl ?_ plan_stop
      go_wp2_with fail
      have hc := gSucc_any h (.slice a1 h.es.length k1) v V4 HG.out.b.es
      unfold GV at hc
      refine hc.mono ?_
      rintro e V5 ⟨a5, k5, rfl, s5, hb⟩
      have hlst : (sucZ h v).map (fun x : Nat => (x : Int)) = predZ g2 v := by
        have h1 := sucZ_rev HV.out.1 HV.out.2.2.1 v
        obtain ⟨n3, e3⟩ := h
        have h5 := HV.out.2.1
        dsimp only at h5
        subst h5
        exact h1
      have hlen : (sucZ h v).length = (predZ g2 v).length := by rw [← hlst, List.length_map]
      rw [hlst, hlen] at s5
      rw [hlen]
      have S5 := Lib.hid s5
      replace HG := Lib.hid (HG.out.below hb)
      clear hc hb s5 hlst hlen
      go_wp2_with fail
      refine tail_mk ⟨HG.out.a.box, HG.out.b.box⟩ ?_
      refine plan_alt rfl ?_ plan_stop
      go_wp2_with fail
      have hc := gPred_any g2 (.slice ca g2.es.length cc) v V5 HG.out.a.es
      unfold GV at hc
      refine hc.mono ?_
      rintro e V6 ⟨a6, k6, rfl, s6, hb⟩
      have S6 := Lib.hid (And.intro (S5.out.below hb) s6)
      replace HG := Lib.hid (HG.out.below hb)
      clear hc hb s6
      go_wp2_with fail
      refine tail_mk ⟨HG.out.a.box, HG.out.b.box⟩ ?_
      refine plan_alt rfl ?_ plan_stop
      go_wp2_with fail
      refine (rEqual_any _ _ _ _ V6 S6.out.1 S6.out.2).mono ?_
      rintro e V7 ⟨rfl, hb⟩
      rw [eqB_refl]
      replace HG := Lib.hid (HG.out.below (qt_below hb))
      clear hb
      go_wp2_with fail
      refine tail_mk ⟨HG.out.a.box, HG.out.b.box⟩ ?_
      refine plan_take (v := ?_) rfl (Or.inl ⟨by rfl, ?_⟩) ?_
      rotate_left
      · (intro W hW; obtain ⟨⟨q1, q2⟩, q3, q4⟩ := hW; go_simp; try with_reducible rfl)
      simp only [Act.put, List.getElem_toArray]
      refine plan_done ?_
      go_upto_region 10 with fail
      have hgd := HG.out.below ((Below.refl _ _).drew)
      refine wp_region_plan (.take 0 (.take 1 (.take 4 (.take 6 (.take 7 (.take 10 (.alt 2 (.alt 3 (.alt 5 (.alt 8 (.alt 9 (.alt 11 (.take 12 (.take 13 (.alt 14 (.take 15 (.alt 16 .done .stop)) .stop))) .stop) .stop) .stop) (.alt 8 (.alt 5 (.alt 9 (.alt 11 (.take 12 (.take 13 (.alt 14 (.take 15 (.alt 16 .done .stop)) .stop))) .stop) .stop) .stop) .stop)) (.alt 8 (.alt 3 (.alt 5 (.alt 9 (.alt 11 (.take 12 (.take 13 (.alt 14 (.take 15 (.alt 16 .done .stop)) .stop))) .stop) .stop) .stop) .stop) .stop)) (.alt 8 (.alt 2 (.alt 3 (.alt 5 (.alt 9 (.alt 11 (.take 12 (.take 13 (.alt 14 (.take 15 (.alt 16 .done .stop)) .stop))) .stop) .stop) .stop) .stop) .stop) .stop))))))))
        (fun w' => (w'.cell? ⟨bs, 0, none⟩ = some (.int .i64 g2.n) ∧ w'.cell? ⟨bs, 1, none⟩ = some (.slice ca g2.es.length cc)) ∧ w'.cell? ⟨bb, 0, none⟩ = some (.int .i64 h.n) ∧ w'.cell? ⟨bb, 1, none⟩ = some (.slice a1 h.es.length k1)) (by kernel_rfl) (by kernel_rfl) (by kernel_rfl) (by kernel_rfl) ⟨hgd.a.box, hgd.b.box⟩ ?_
      refine plan_take (v := ?_) rfl (Or.inl ⟨by rfl, ?_⟩) ?_
      rotate_left
      · (intro W hW; obtain ⟨⟨q1, q2⟩, q3, q4⟩ := hW; go_simp; try with_reducible rfl)
      simp only [Act.put, List.getElem_toArray]
      refine plan_take (v := ?_) rfl (Or.inl ⟨by rfl, ?_⟩) ?_
      rotate_left
      · (intro W hW; obtain ⟨⟨q1, q2⟩, q3, q4⟩ := hW; go_simp; try with_reducible rfl)
      simp only [Act.put, List.getElem_toArray]
      refine plan_take (v := ?_) rfl (Or.inl ⟨by rfl, ?_⟩) ?_
      rotate_left
      · (intro W hW; obtain ⟨⟨q1, q2⟩, q3, q4⟩ := hW; go_simp; try with_reducible rfl)
      simp only [Act.put, List.getElem_toArray]
      refine plan_take (v := ?_) rfl (Or.inl ⟨by rfl, ?_⟩) ?_
      rotate_left
      · (intro W hW; obtain ⟨⟨q1, q2⟩, q3, q4⟩ := hW; go_simp; try with_reducible rfl)
      simp only [Act.put, List.getElem_toArray]
      refine plan_take (v := ?_) rfl (Or.inl ⟨by rfl, ?_⟩) ?_
      rotate_left
      · (intro W hW; obtain ⟨⟨q1, q2⟩, q3, q4⟩ := hW; go_simp; try with_reducible rfl)
      simp only [Act.put, List.getElem_toArray]
      refine plan_take (v := ?_) rfl (Or.inl ⟨by rfl, ?_⟩) ?_
      rotate_left
      · (intro W hW; obtain ⟨⟨q1, q2⟩, q3, q4⟩ := hW; go_simp; try with_reducible rfl)
      simp only [Act.put, List.getElem_toArray]
      replace HG := Lib.hid hgd
      clear hgd S5 S6
      generalize V7.drew = Z0 at *
      refine plan_alt rfl ?_ (plan_alt rfl ?_ plan_stop)
      · go_wp2_with fail
        have hb := (Below.refl Z0.heap.size Z0).alloc (Nat.le_refl _) (.cells #[.int .i64 v] 3)
        have hj := (own_one' (Value.int .i64) (w := Z0) (base := Z0.heap.size) (e := 3) (B := Z0.heap.size) v rfl (Nat.le_refl _)).lst
        replace HG := Lib.hid (HG.out.below hb)
        (try replace HJ2 := Lib.hid (HJ2.out.below hb))
        (try replace HJ8 := Lib.hid (HJ8.out.below hb))
        (try replace HL3 := Lib.hid (And.intro (HL3.out.1.below hb) HL3.out.2))
        have HJ2 := Lib.hid hj
        clear hj hb
        obtain ⟨Y1, hY1⟩ : ∃ Y, Y = Z0.alloc (.cells #[.int .i64 v] 3) := ⟨_, rfl⟩
        obtain ⟨b2, hb2⟩ : ∃ y, y = Z0.heap.size := ⟨_, rfl⟩
        rw [← hb2] at HJ2 ⊢
        rw [← hY1] at HJ2 HG ⊢
        (try rw [← hY1] at HJ2)
        (try rw [← hY1] at HJ8)
        (try rw [← hY1] at HL3)
        clear hY1 hb2
        refine tail_mk ⟨HG.out.a.box, HG.out.b.box⟩ ?_
        refine plan_alt rfl ?_ (plan_alt rfl ?_ plan_stop)
        · go_wp2_with fail
          have hc := gReach_any g2 (.slice ca g2.es.length cc) (.slice (some ⟨b2, 0, none⟩) 1 1) [v] Y1 HG.out.a.es HJ2.out
          unfold GV at hc
          refine hc.mono ?_
          rintro e Y2 ⟨a3, k3, L3, rfl, l3, hb, hcase⟩
          replace HG := Lib.hid (HG.out.below hb)
          (try replace HJ2 := Lib.hid (HJ2.out.below hb))
          (try replace HJ8 := Lib.hid (HJ8.out.below hb))
          (try replace HL3 := Lib.hid (And.intro (HL3.out.1.below hb) HL3.out.2))
          have HL3 := Lib.hid (And.intro l3 hcase)
          clear hc hb l3 hcase HJ2
          go_wp2_with fail
          refine tail_mk ⟨HG.out.a.box, HG.out.b.box⟩ ?_
          refine plan_alt rfl ?_ (plan_alt rfl ?_ plan_stop)
          · go_wp2_with fail
            refine (in_any _ L3 w Y2 HL3.out.1).mono ?_
            rintro e w' ⟨rfl, hw⟩
            rw [hw]
            clear hw w'
            go_wp2_with fail
            refine tail_mk ⟨HG.out.a.box, HG.out.b.box⟩ ?_
            refine plan_alt rfl ?_ plan_stop
            go_wp2_with fail
            have hb := (Below.refl Y2.heap.size Y2).alloc (Nat.le_refl _) (.cells #[.int .i64 w] 3)
            have hj := (own_one' (Value.int .i64) (w := Y2) (base := Y2.heap.size) (e := 3) (B := Y2.heap.size) w rfl (Nat.le_refl _)).lst
            replace HG := Lib.hid (HG.out.below hb)
            (try replace HJ2 := Lib.hid (HJ2.out.below hb))
            (try replace HJ8 := Lib.hid (HJ8.out.below hb))
            (try replace HL3 := Lib.hid (And.intro (HL3.out.1.below hb) HL3.out.2))
            have HJ8 := Lib.hid hj
            clear hj hb
            obtain ⟨Y3, hY3⟩ : ∃ Y, Y = Y2.alloc (.cells #[.int .i64 w] 3) := ⟨_, rfl⟩
            obtain ⟨b8, hb8⟩ : ∃ y, y = Y2.heap.size := ⟨_, rfl⟩
            rw [← hb8] at HJ8 ⊢
            rw [← hY3] at HJ8 HG ⊢
            (try rw [← hY3] at HJ2)
            (try rw [← hY3] at HJ8)
            (try rw [← hY3] at HL3)
            clear hY3 hb8
            refine tail_mk ⟨HG.out.a.box, HG.out.b.box⟩ ?_
            refine plan_alt rfl ?_ plan_stop
            go_wp2_with fail
            have hc := gReach_any h (.slice a1 h.es.length k1) (.slice (some ⟨b8, 0, none⟩) 1 1) [w] Y3 HG.out.b.es HJ8.out
            unfold GV at hc
            refine hc.mono ?_
            rintro e X1 ⟨a9, k9, L9, rfl, l9, hb, hcase⟩
            replace HG := Lib.hid (HG.out.below hb)
            (try replace HJ2 := Lib.hid (HJ2.out.below hb))
            (try replace HJ8 := Lib.hid (HJ8.out.below hb))
            (try replace HL3 := Lib.hid (And.intro (HL3.out.1.below hb) HL3.out.2))
            have HL9 := Lib.hid (And.intro l9 hcase)
            clear hc hb l9 hcase HJ8
            go_wp2_with fail
            refine tail_mk ⟨HG.out.a.box, HG.out.b.box⟩ ?_
            refine plan_alt rfl ?_ plan_stop
            go_wp2_with fail
            refine (in_any _ L9 v X1 HL9.out.1).mono ?_
            rintro e w' ⟨rfl, hw⟩
            rw [hw]
            clear hw w'
            go_wp2_with fail
            refine tail_mk ⟨HG.out.a.box, HG.out.b.box⟩ ?_
            have hdec : decide (w ∈ L3) = decide (v ∈ L9) := by
              have q3 := HL3.out.2
              have q9 := HL9.out.2
              rcases q3 with ⟨q3, -⟩ | ⟨-, -, q3⟩
              · exact absurd HV.out.1 q3
              rcases q9 with ⟨q9, -⟩ | ⟨-, -, q9⟩
              · exact absurd HV.out.2.2.2.2 q9
              refine reach_rev HV.out.1 HV.out.2.2.1 q3 fun y => ?_
              rw [q9]
              have h5 := HV.out.2.1
              obtain ⟨n3, e3⟩ := h
              dsimp only at h5
              subst h5
              exact Iff.rfl
            rw [hdec]
            obtain ⟨t, ht⟩ : ∃ t, t = decide (v ∈ L9) := ⟨_, rfl⟩
            rw [← ht]
            clear ht hdec
            have htt : (t == t) = true := by cases t <;> rfl
            refine plan_take (v := ?_) rfl (Or.inl ⟨by rfl, ?_⟩) ?_
            rotate_left
            · (intro W hW; obtain ⟨⟨q1, q2⟩, q3, q4⟩ := hW; go_simp; try with_reducible rfl)
            simp only [Act.put, List.getElem_toArray]
            refine plan_take (v := ?_) rfl (Or.inl ⟨by rfl, ?_⟩) ?_
            rotate_left
            · (intro W hW; obtain ⟨⟨q1, q2⟩, q3, q4⟩ := hW; go_simp; try with_reducible rfl)
            simp only [Act.put, List.getElem_toArray]
            refine plan_alt rfl ?_ plan_stop
            go_wp2_with fail
            refine (awake_any _).mono ?_
            rintro e X2 ⟨rfl, hb⟩
            replace HG := Lib.hid (HG.out.below hb)
            clear hb
            go_wp2_with fail
            refine tail_mk ⟨HG.out.a.box, HG.out.b.box⟩ ?_
            refine plan_take (v := ?_) rfl (Or.inl ⟨by rfl, ?_⟩) ?_
            rotate_left
            · (intro W hW; obtain ⟨⟨q1, q2⟩, q3, q4⟩ := hW; go_simp; try with_reducible rfl)
            simp only [Act.put, List.getElem_toArray]
            refine plan_alt rfl ?_ plan_stop
            go_wp2_with fail
            refine tail_mk ⟨HG.out.a.box, HG.out.b.box⟩ ?_
            refine plan_done ?_
            go_wp2_with fail
            go_ret
            exact ⟨rfl, HG.out.bel⟩
          · go_wp2_with fail
            have hb := (Below.refl Y2.heap.size Y2).alloc (Nat.le_refl _) (.cells #[.int .i64 w] 3)
            have hj := (own_one' (Value.int .i64) (w := Y2) (base := Y2.heap.size) (e := 3) (B := Y2.heap.size) w rfl (Nat.le_refl _)).lst
            replace HG := Lib.hid (HG.out.below hb)
            (try replace HJ2 := Lib.hid (HJ2.out.below hb))
            (try replace HJ8 := Lib.hid (HJ8.out.below hb))
            (try replace HL3 := Lib.hid (And.intro (HL3.out.1.below hb) HL3.out.2))
            have HJ8 := Lib.hid hj
            clear hj hb
            obtain ⟨Y3, hY3⟩ : ∃ Y, Y = Y2.alloc (.cells #[.int .i64 w] 3) := ⟨_, rfl⟩
            obtain ⟨b8, hb8⟩ : ∃ y, y = Y2.heap.size := ⟨_, rfl⟩
            rw [← hb8] at HJ8 ⊢
            rw [← hY3] at HJ8 HG ⊢
            (try rw [← hY3] at HJ2)
            (try rw [← hY3] at HJ8)
            (try rw [← hY3] at HL3)
            clear hY3 hb8
            refine tail_mk ⟨HG.out.a.box, HG.out.b.box⟩ ?_
            refine plan_alt rfl ?_ plan_stop
            go_wp2_with fail
            refine (in_any _ L3 w Y3 HL3.out.1).mono ?_
            rintro e w' ⟨rfl, hw⟩
            rw [hw]
            clear hw w'
            go_wp2_with fail
            refine tail_mk ⟨HG.out.a.box, HG.out.b.box⟩ ?_
            refine plan_alt rfl ?_ plan_stop
            go_wp2_with fail
            have hc := gReach_any h (.slice a1 h.es.length k1) (.slice (some ⟨b8, 0, none⟩) 1 1) [w] Y3 HG.out.b.es HJ8.out
            unfold GV at hc
            refine hc.mono ?_
            rintro e X1 ⟨a9, k9, L9, rfl, l9, hb, hcase⟩
            replace HG := Lib.hid (HG.out.below hb)
            (try replace HJ2 := Lib.hid (HJ2.out.below hb))
            (try replace HJ8 := Lib.hid (HJ8.out.below hb))
            (try replace HL3 := Lib.hid (And.intro (HL3.out.1.below hb) HL3.out.2))
            have HL9 := Lib.hid (And.intro l9 hcase)
            clear hc hb l9 hcase HJ8
            go_wp2_with fail
            refine tail_mk ⟨HG.out.a.box, HG.out.b.box⟩ ?_
            refine plan_alt rfl ?_ plan_stop
            go_wp2_with fail
            refine (in_any _ L9 v X1 HL9.out.1).mono ?_
            rintro e w' ⟨rfl, hw⟩
            rw [hw]
            clear hw w'
            go_wp2_with fail
            refine tail_mk ⟨HG.out.a.box, HG.out.b.box⟩ ?_
            have hdec : decide (w ∈ L3) = decide (v ∈ L9) := by
              have q3 := HL3.out.2
              have q9 := HL9.out.2
              rcases q3 with ⟨q3, -⟩ | ⟨-, -, q3⟩
              · exact absurd HV.out.1 q3
              rcases q9 with ⟨q9, -⟩ | ⟨-, -, q9⟩
              · exact absurd HV.out.2.2.2.2 q9
              refine reach_rev HV.out.1 HV.out.2.2.1 q3 fun y => ?_
              rw [q9]
              have h5 := HV.out.2.1
              obtain ⟨n3, e3⟩ := h
              dsimp only at h5
              subst h5
              exact Iff.rfl
            rw [hdec]
            obtain ⟨t, ht⟩ : ∃ t, t = decide (v ∈ L9) := ⟨_, rfl⟩
            rw [← ht]
            clear ht hdec
            have htt : (t == t) = true := by cases t <;> rfl
            refine plan_take (v := ?_) rfl (Or.inl ⟨by rfl, ?_⟩) ?_
            rotate_left
            · (intro W hW; obtain ⟨⟨q1, q2⟩, q3, q4⟩ := hW; go_simp; try with_reducible rfl)
            simp only [Act.put, List.getElem_toArray]
            refine plan_take (v := ?_) rfl (Or.inl ⟨by rfl, ?_⟩) ?_
            rotate_left
            · (intro W hW; obtain ⟨⟨q1, q2⟩, q3, q4⟩ := hW; go_simp; try with_reducible rfl)
            simp only [Act.put, List.getElem_toArray]
            refine plan_alt rfl ?_ plan_stop
            go_wp2_with fail
            refine (awake_any _).mono ?_
            rintro e X2 ⟨rfl, hb⟩
            replace HG := Lib.hid (HG.out.below hb)
            clear hb
            go_wp2_with fail
            refine tail_mk ⟨HG.out.a.box, HG.out.b.box⟩ ?_
            refine plan_take (v := ?_) rfl (Or.inl ⟨by rfl, ?_⟩) ?_
            rotate_left
            · (intro W hW; obtain ⟨⟨q1, q2⟩, q3, q4⟩ := hW; go_simp; try with_reducible rfl)
            simp only [Act.put, List.getElem_toArray]
            refine plan_alt rfl ?_ plan_stop
            go_wp2_with fail
            refine tail_mk ⟨HG.out.a.box, HG.out.b.box⟩ ?_
            refine plan_done ?_
            go_wp2_with fail
            go_ret
            exact ⟨rfl, HG.out.bel⟩
        · go_wp2_with fail
          have hb := (Below.refl Y1.heap.size Y1).alloc (Nat.le_refl _) (.cells #[.int .i64 w] 3)
          have hj := (own_one' (Value.int .i64) (w := Y1) (base := Y1.heap.size) (e := 3) (B := Y1.heap.size) w rfl (Nat.le_refl _)).lst
          replace HG := Lib.hid (HG.out.below hb)
          (try replace HJ2 := Lib.hid (HJ2.out.below hb))
          (try replace HJ8 := Lib.hid (HJ8.out.below hb))
          (try replace HL3 := Lib.hid (And.intro (HL3.out.1.below hb) HL3.out.2))
          have HJ8 := Lib.hid hj
          clear hj hb
          obtain ⟨Y2, hY2⟩ : ∃ Y, Y = Y1.alloc (.cells #[.int .i64 w] 3) := ⟨_, rfl⟩
          obtain ⟨b8, hb8⟩ : ∃ y, y = Y1.heap.size := ⟨_, rfl⟩
          rw [← hb8] at HJ8 ⊢
          rw [← hY2] at HJ8 HG ⊢
          (try rw [← hY2] at HJ2)
          (try rw [← hY2] at HJ8)
          (try rw [← hY2] at HL3)
          clear hY2 hb8
          refine tail_mk ⟨HG.out.a.box, HG.out.b.box⟩ ?_
          refine plan_alt rfl ?_ plan_stop
          go_wp2_with fail
          have hc := gReach_any g2 (.slice ca g2.es.length cc) (.slice (some ⟨b2, 0, none⟩) 1 1) [v] Y2 HG.out.a.es HJ2.out
          unfold GV at hc
          refine hc.mono ?_
          rintro e Y3 ⟨a3, k3, L3, rfl, l3, hb, hcase⟩
          replace HG := Lib.hid (HG.out.below hb)
          (try replace HJ2 := Lib.hid (HJ2.out.below hb))
          (try replace HJ8 := Lib.hid (HJ8.out.below hb))
          (try replace HL3 := Lib.hid (And.intro (HL3.out.1.below hb) HL3.out.2))
          have HL3 := Lib.hid (And.intro l3 hcase)
          clear hc hb l3 hcase HJ2
          go_wp2_with fail
          refine tail_mk ⟨HG.out.a.box, HG.out.b.box⟩ ?_
          refine plan_alt rfl ?_ plan_stop
          go_wp2_with fail
          refine (in_any _ L3 w Y3 HL3.out.1).mono ?_
          rintro e w' ⟨rfl, hw⟩
          rw [hw]
          clear hw w'
          go_wp2_with fail
          refine tail_mk ⟨HG.out.a.box, HG.out.b.box⟩ ?_
          refine plan_alt rfl ?_ plan_stop
          go_wp2_with fail
          have hc := gReach_any h (.slice a1 h.es.length k1) (.slice (some ⟨b8, 0, none⟩) 1 1) [w] Y3 HG.out.b.es HJ8.out
          unfold GV at hc
          refine hc.mono ?_
          rintro e X1 ⟨a9, k9, L9, rfl, l9, hb, hcase⟩
          replace HG := Lib.hid (HG.out.below hb)
          (try replace HJ2 := Lib.hid (HJ2.out.below hb))
          (try replace HJ8 := Lib.hid (HJ8.out.below hb))
          (try replace HL3 := Lib.hid (And.intro (HL3.out.1.below hb) HL3.out.2))
          have HL9 := Lib.hid (And.intro l9 hcase)
          clear hc hb l9 hcase HJ8
          go_wp2_with fail
          refine tail_mk ⟨HG.out.a.box, HG.out.b.box⟩ ?_
          refine plan_alt rfl ?_ plan_stop
          go_wp2_with fail
          refine (in_any _ L9 v X1 HL9.out.1).mono ?_
          rintro e w' ⟨rfl, hw⟩
          rw [hw]
          clear hw w'
          go_wp2_with fail
          refine tail_mk ⟨HG.out.a.box, HG.out.b.box⟩ ?_
          have hdec : decide (w ∈ L3) = decide (v ∈ L9) := by
            have q3 := HL3.out.2
            have q9 := HL9.out.2
            rcases q3 with ⟨q3, -⟩ | ⟨-, -, q3⟩
            · exact absurd HV.out.1 q3
            rcases q9 with ⟨q9, -⟩ | ⟨-, -, q9⟩
            · exact absurd HV.out.2.2.2.2 q9
            refine reach_rev HV.out.1 HV.out.2.2.1 q3 fun y => ?_
            rw [q9]
            have h5 := HV.out.2.1
            obtain ⟨n3, e3⟩ := h
            dsimp only at h5
            subst h5
            exact Iff.rfl
          rw [hdec]
          obtain ⟨t, ht⟩ : ∃ t, t = decide (v ∈ L9) := ⟨_, rfl⟩
          rw [← ht]
          clear ht hdec
          have htt : (t == t) = true := by cases t <;> rfl
          refine plan_take (v := ?_) rfl (Or.inl ⟨by rfl, ?_⟩) ?_
          rotate_left
          · (intro W hW; obtain ⟨⟨q1, q2⟩, q3, q4⟩ := hW; go_simp; try with_reducible rfl)
          simp only [Act.put, List.getElem_toArray]
          refine plan_take (v := ?_) rfl (Or.inl ⟨by rfl, ?_⟩) ?_
          rotate_left
          · (intro W hW; obtain ⟨⟨q1, q2⟩, q3, q4⟩ := hW; go_simp; try with_reducible rfl)
          simp only [Act.put, List.getElem_toArray]
          refine plan_alt rfl ?_ plan_stop
          go_wp2_with fail
          refine (awake_any _).mono ?_
          rintro e X2 ⟨rfl, hb⟩
          replace HG := Lib.hid (HG.out.below hb)
          clear hb
          go_wp2_with fail
          refine tail_mk ⟨HG.out.a.box, HG.out.b.box⟩ ?_
          refine plan_take (v := ?_) rfl (Or.inl ⟨by rfl, ?_⟩) ?_
          rotate_left
          · (intro W hW; obtain ⟨⟨q1, q2⟩, q3, q4⟩ := hW; go_simp; try with_reducible rfl)
          simp only [Act.put, List.getElem_toArray]
          refine plan_alt rfl ?_ plan_stop
          go_wp2_with fail
          refine tail_mk ⟨HG.out.a.box, HG.out.b.box⟩ ?_
          refine plan_done ?_
          go_wp2_with fail
          go_ret
          exact ⟨rfl, HG.out.bel⟩
      · go_wp2_with fail
        have hb := (Below.refl Z0.heap.size Z0).alloc (Nat.le_refl _) (.cells #[.int .i64 w] 3)
        have hj := (own_one' (Value.int .i64) (w := Z0) (base := Z0.heap.size) (e := 3) (B := Z0.heap.size) w rfl (Nat.le_refl _)).lst
        replace HG := Lib.hid (HG.out.below hb)
        (try replace HJ2 := Lib.hid (HJ2.out.below hb))
        (try replace HJ8 := Lib.hid (HJ8.out.below hb))
        (try replace HL3 := Lib.hid (And.intro (HL3.out.1.below hb) HL3.out.2))
        have HJ8 := Lib.hid hj
        clear hj hb
        obtain ⟨Y1, hY1⟩ : ∃ Y, Y = Z0.alloc (.cells #[.int .i64 w] 3) := ⟨_, rfl⟩
        obtain ⟨b8, hb8⟩ : ∃ y, y = Z0.heap.size := ⟨_, rfl⟩
        rw [← hb8] at HJ8 ⊢
        rw [← hY1] at HJ8 HG ⊢
        (try rw [← hY1] at HJ2)
        (try rw [← hY1] at HJ8)
        (try rw [← hY1] at HL3)
        clear hY1 hb8
        refine tail_mk ⟨HG.out.a.box, HG.out.b.box⟩ ?_
        refine plan_alt rfl ?_ plan_stop
        go_wp2_with fail
        have hb := (Below.refl Y1.heap.size Y1).alloc (Nat.le_refl _) (.cells #[.int .i64 v] 3)
        have hj := (own_one' (Value.int .i64) (w := Y1) (base := Y1.heap.size) (e := 3) (B := Y1.heap.size) v rfl (Nat.le_refl _)).lst
        replace HG := Lib.hid (HG.out.below hb)
        (try replace HJ2 := Lib.hid (HJ2.out.below hb))
        (try replace HJ8 := Lib.hid (HJ8.out.below hb))
        (try replace HL3 := Lib.hid (And.intro (HL3.out.1.below hb) HL3.out.2))
        have HJ2 := Lib.hid hj
        clear hj hb
        obtain ⟨Y2, hY2⟩ : ∃ Y, Y = Y1.alloc (.cells #[.int .i64 v] 3) := ⟨_, rfl⟩
        obtain ⟨b2, hb2⟩ : ∃ y, y = Y1.heap.size := ⟨_, rfl⟩
        rw [← hb2] at HJ2 ⊢
        rw [← hY2] at HJ2 HG ⊢
        (try rw [← hY2] at HJ2)
        (try rw [← hY2] at HJ8)
        (try rw [← hY2] at HL3)
        clear hY2 hb2
        refine tail_mk ⟨HG.out.a.box, HG.out.b.box⟩ ?_
        refine plan_alt rfl ?_ plan_stop
        go_wp2_with fail
        have hc := gReach_any g2 (.slice ca g2.es.length cc) (.slice (some ⟨b2, 0, none⟩) 1 1) [v] Y2 HG.out.a.es HJ2.out
        unfold GV at hc
        refine hc.mono ?_
        rintro e Y3 ⟨a3, k3, L3, rfl, l3, hb, hcase⟩
        replace HG := Lib.hid (HG.out.below hb)
        (try replace HJ2 := Lib.hid (HJ2.out.below hb))
        (try replace HJ8 := Lib.hid (HJ8.out.below hb))
        (try replace HL3 := Lib.hid (And.intro (HL3.out.1.below hb) HL3.out.2))
        have HL3 := Lib.hid (And.intro l3 hcase)
        clear hc hb l3 hcase HJ2
        go_wp2_with fail
        refine tail_mk ⟨HG.out.a.box, HG.out.b.box⟩ ?_
        refine plan_alt rfl ?_ plan_stop
        go_wp2_with fail
        refine (in_any _ L3 w Y3 HL3.out.1).mono ?_
        rintro e w' ⟨rfl, hw⟩
        rw [hw]
        clear hw w'
        go_wp2_with fail
        refine tail_mk ⟨HG.out.a.box, HG.out.b.box⟩ ?_
        refine plan_alt rfl ?_ plan_stop
        go_wp2_with fail
        have hc := gReach_any h (.slice a1 h.es.length k1) (.slice (some ⟨b8, 0, none⟩) 1 1) [w] Y3 HG.out.b.es HJ8.out
        unfold GV at hc
        refine hc.mono ?_
        rintro e X1 ⟨a9, k9, L9, rfl, l9, hb, hcase⟩
        replace HG := Lib.hid (HG.out.below hb)
        (try replace HJ2 := Lib.hid (HJ2.out.below hb))
        (try replace HJ8 := Lib.hid (HJ8.out.below hb))
        (try replace HL3 := Lib.hid (And.intro (HL3.out.1.below hb) HL3.out.2))
        have HL9 := Lib.hid (And.intro l9 hcase)
        clear hc hb l9 hcase HJ8
        go_wp2_with fail
        refine tail_mk ⟨HG.out.a.box, HG.out.b.box⟩ ?_
        refine plan_alt rfl ?_ plan_stop
        go_wp2_with fail
        refine (in_any _ L9 v X1 HL9.out.1).mono ?_
        rintro e w' ⟨rfl, hw⟩
        rw [hw]
        clear hw w'
        go_wp2_with fail
        refine tail_mk ⟨HG.out.a.box, HG.out.b.box⟩ ?_
        have hdec : decide (w ∈ L3) = decide (v ∈ L9) := by
          have q3 := HL3.out.2
          have q9 := HL9.out.2
          rcases q3 with ⟨q3, -⟩ | ⟨-, -, q3⟩
          · exact absurd HV.out.1 q3
          rcases q9 with ⟨q9, -⟩ | ⟨-, -, q9⟩
          · exact absurd HV.out.2.2.2.2 q9
          refine reach_rev HV.out.1 HV.out.2.2.1 q3 fun y => ?_
          rw [q9]
          have h5 := HV.out.2.1
          obtain ⟨n3, e3⟩ := h
          dsimp only at h5
          subst h5
          exact Iff.rfl
        rw [hdec]
        obtain ⟨t, ht⟩ : ∃ t, t = decide (v ∈ L9) := ⟨_, rfl⟩
        rw [← ht]
        clear ht hdec
        have htt : (t == t) = true := by cases t <;> rfl
        refine plan_take (v := ?_) rfl (Or.inl ⟨by rfl, ?_⟩) ?_
        rotate_left
        · (intro W hW; obtain ⟨⟨q1, q2⟩, q3, q4⟩ := hW; go_simp; try with_reducible rfl)
        simp only [Act.put, List.getElem_toArray]
        refine plan_take (v := ?_) rfl (Or.inl ⟨by rfl, ?_⟩) ?_
        rotate_left
        · (intro W hW; obtain ⟨⟨q1, q2⟩, q3, q4⟩ := hW; go_simp; try with_reducible rfl)
        simp only [Act.put, List.getElem_toArray]
        refine plan_alt rfl ?_ plan_stop
        go_wp2_with fail
        refine (awake_any _).mono ?_
        rintro e X2 ⟨rfl, hb⟩
        replace HG := Lib.hid (HG.out.below hb)
        clear hb
        go_wp2_with fail
        refine tail_mk ⟨HG.out.a.box, HG.out.b.box⟩ ?_
        refine plan_take (v := ?_) rfl (Or.inl ⟨by rfl, ?_⟩) ?_
        rotate_left
        · (intro W hW; obtain ⟨⟨q1, q2⟩, q3, q4⟩ := hW; go_simp; try with_reducible rfl)
        simp only [Act.put, List.getElem_toArray]
        refine plan_alt rfl ?_ plan_stop
        go_wp2_with fail
        refine tail_mk ⟨HG.out.a.box, HG.out.b.box⟩ ?_
        refine plan_done ?_
        go_wp2_with fail
        go_ret
        exact ⟨rfl, HG.out.bel⟩
    · have q0 : (gCode g != 0) = true := by simpa using hc
      obtain rfl : h = ⟨0, []⟩ := by
        rcases H1.out.2 with ⟨-, h2⟩ | ⟨h1, -⟩
        · exact h2
        · exact absurd h1 hc
      have HN := Lib.hid hc
      have hz2 : bs ≠ W2.heap.size := by have := World.block_lt_of_cell? W2 ⟨bs, 0, none⟩ c0; dsimp only at this; omega
      clear hc
      simp only [List.length_nil] at *
      have hb := (Below.refl W2.heap.size W2).alloc (Nat.le_refl _) (.cells #[.int .i64 v] 3)
      have HG := Lib.hid (And.intro (H2.out.below hb) (own_one' (Value.int .i64) (w := W2) (base := W2.heap.size) (e := 3) (B := W2.heap.size) v rfl (Nat.le_refl _)).lst)
      clear hb
      go_wp2_with fail
      have hc := gReach_any g (.slice ca g.es.length cc) (.slice (some ⟨W2.heap.size, 0, none⟩) 1 1) [v] _ HG.out.1.a.es HG.out.2
      unfold GV at hc
      refine hc.mono ?_
      rintro e V ⟨ra, rc, L, rfl, -, hb, hcase⟩
      rcases hcase with ⟨-, rfl⟩ | ⟨h1, -⟩
      · have HB := Lib.hid (bel_trans HG.out.1.bel hb)
        clear hc hb
        go_wp2_with fail
        refine (awake_any _).mono ?_
        rintro e Z ⟨rfl, b⟩
        have HB2 := Lib.hid (bel_trans HB.out b)
        go_wp2_with fail
        go_ret
        exact ⟨rfl, HB2.out⟩
      · exact absurd h1 HN.out
set_option maxRecDepth 100000 in
theorem GraphReverses_lifted (os : Os) (started : os.Started) (H : Type) (enc : TypeId × Value → H) :
    ReturnsInHanded {} Try.checked os 9 .any (Rows.graphReversesSpec.pre6 enc Try.prog Try.f9 Rows.graphReversesRow.domain false) (Rows.graphReversesSpec.post enc Try.prog Try.f9 false true false false) := by
  refine returnsInHanded_of_change (C := Try.checked) own started (by kernel_rfl) Try.func9
    (ChangeSpec.witness6 (enc := enc) (C := Try.checked) false ⟨#[], #[.agg #[.int .i64 0, .slice none 0 0], .int .i64 0, .int .i64 0], []⟩ 8 (by kernel_rfl) (by kernel_rfl) (by kernel_rfl) (by kernel_rfl)) ?_
  intro W base args ds gs before hval0 hW hcnd _
  have hval : ∀ (j : Nat) t v, Try.f9.params[j]? = some t → args[j]? = some v → Value.okWide Try.prog W .any base t v := hval0
  have hW' := hW
  obtain ⟨p, q, hA0, hV, rfl, hfz, hnd⟩ := hW
  have hA : DataW.TrodAll enc Try.prog W 0 (fun _ => true) true Try.f9.params.toList args.toList ds p := hA0
  rw [Try.params9] at hA hval
  obtain ⟨v0, vs0, d0, ds0, p0, q0, hargs, rfl, rfl, h0, r0⟩ := trodAll_cons hA
  obtain ⟨v1, vs1, d1, ds1, p1, q1, rfl, rfl, rfl, h1, r1⟩ := trodAll_cons r0
  obtain ⟨v2, vs2, d2, ds2, p2, q2, rfl, rfl, rfl, h2, r2⟩ := trodAll_cons r1
  obtain ⟨rfl, rfl, rfl⟩ := trodAll_nil r2
  obtain rfl : args = #[v0, v1, v2] := by cases args; simp_all
  obtain ⟨rfl, rfl⟩ := trodVars_none hV
  obtain ⟨c0, rfl, sz0⟩ := okWide_struct Try.underlying25 (hval 0 25 v0 rfl rfl)
  have k0 := h0
  obtain ⟨g0, cv0, eq0, hC0⟩ := graph_of_trod sz0 h0
  obtain rfl : c0 = #[.int .i64 g0.n, cv0] := by simpa [GV] using eq0
  have lt0 : ∀ x ∈ p0, x.block < W.heap.size := by obtain ⟨m, hm⟩ := k0; exact DataW.trod_lt m _ _ _ hm
  obtain ⟨a1, rfl, rfl, rfl, w1⟩ := open_int Try.underlying3 (hval 1 3 v1 rfl rfl) h1
  have b1 := bounds_i64 w1
  obtain ⟨a2, rfl, rfl, rfl, w2⟩ := open_int Try.underlying3 (hval 2 3 v2 rfl rfl) h2
  have b2 := bounds_i64 w2
  clear hA0 hval0
  refine (GraphReverses_walk g0 cv0 a1 a2 W hC0 b1 b2).mono fun e W' ⟨he, bel⟩ => ?_
  subst he
  exact ⟨_, rfl, _, _, _, [], _, [], hW', trodAll_mk1 (shut_bool Try.underlying4 _), (trodAll_cons_mk (Below.trod laidOut (by kernel_rfl) (of_decide_eq_true (by kernel_rfl)) k0 bel lt0) (trodAll_cons_mk (shut_int Try.underlying3 w1) (trodAll_cons_mk (shut_int Try.underlying3 w2) trodAll_mk0))), rfl, bel.frame _, fun h => by cases h⟩

/-- The given statement. -/
theorem GraphReverses_holds : Rows.GraphReversesSaid :=
  OpenClaim.holds_of_wide 9 Try.f9 rfl rfl rfl rfl rfl rfl rfl ⟨rfl, rfl, rfl, rfl, rfl⟩ rfl rfl rfl rfl rfl (by kernel_rfl) Try.func9 (by kernel_rfl)
    (of_decide_eq_true (by kernel_rfl)) (by unfold Func.isWrapper; first | (rw [if_pos (by decide +kernel)]; kernel_rfl) | (rw [if_neg (by decide +kernel)]; exact ⟨rfl, rfl⟩))
    (fun os started H enc _ => GraphReverses_lifted os started H enc)

end Go.Proofs.Ytjapnkhgijhakaa
