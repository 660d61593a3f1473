/- GraphReach: for any graph and any nodes, Reach is the least set that contains them and is closed under edges; and Path is a shortest path, the least one, to each node of it. -/
import Derived.Test.YtjapnkhgijhakaaGin
namespace Go.Gra
open Go.Dfl (nth nth_mem mem_nth nth_eq nth_ext)
theorem rch_rev {g : G} (h : VG g) {r : List (Int × Int)} (hr : RevOf g.es r) {a b : Nat} : Rch g.es a b ↔ Rch r b a := by
  refine ⟨fun k => k.rev h hr, fun k => ?_⟩
  exact Rch.rev (g := ⟨g.n, r⟩) (h.rev hr) (hr.symm h.srt) k
/-- A path leads to what is reached. -/
theorem PathIs.reach {g : G} {a b : Int} {l : List Nat} (h : PathIs g a b true l) {f : List Int} (ha : a ∈ f) : gCode g = 0 ∧ 0 ≤ b ∧ b.toNat ∈ reachL g f := by
  cases h with
  | yes hh r hr k hk =>
    obtain ⟨hc, hna, hnb⟩ := hh
    have hvg := gCode_ok.1 hc
    obtain ⟨ha0, ha1⟩ := nodeB_iff.1 hna
    obtain ⟨hb0, hb1⟩ := nodeB_iff.1 hnb
    refine ⟨hc, hb0, (mem_reachL hvg).2 ⟨a, ha, hna, ?_⟩⟩
    have h1 := (distL_reach (hvg.rev hr) (l := [((b.toNat : Nat) : Int)]) (y := a.toNat) (by show a.toNat < g.n.toNat; omega)).1 (by show 0 ≤ nth (farL g.n r b.toNat) a.toNat; omega)
    obtain ⟨v, hv, -, hR⟩ := (mem_reachL (hvg.rev hr)).1 h1
    rw [List.mem_singleton] at hv
    rw [hv, Int.toNat_natCast] at hR
    exact (rch_rev hvg hr).2 hR
end Go.Gra
namespace Go.Proofs.Ytjapnkhgijhakaa
open Go.ChangeShapes Go.WideShapes Go.ChangeAt Go.RowKit Go.Dfl Go.Gra

/-- The graph, the nodes that are asked for and what is reached. -/
structure RH (bs : Nat) (g : G) (cv fv lv : Value) (f L : List Int) (W0 Z : World) : Prop where
  g : GB bs g cv Z
  f : Ints Z fv f
  l : Ints Z lv L
  bel : Below W0.heap.size W0 Z
theorem RH.below {bs : Nat} {g : G} {cv fv lv : Value} {f L : List Int} {W0 Z Z' : World} (h : RH bs g cv fv lv f L W0 Z) (hb : Below Z.heap.size Z Z') : RH bs g cv fv lv f L W0 Z' := ⟨h.g.below hb, h.f.below hb, h.l.below hb, bel_trans h.bel hb⟩
set_option maxHeartbeats 3200000 in
set_option maxRecDepth 100000 in
theorem GraphReach_walk (g : G) (cv : Value) (fv : Value) (f : List Int) (to : Int) (W : World) (h : Pairs W cv g.es) (hf : Ints W fv f) (_hb : ∀ x ∈ f, -9223372036854775808 ≤ x ∧ x ≤ 9223372036854775807) (_ht : -9223372036854775808 ≤ to ∧ to ≤ 9223372036854775807) : Calls Try.prog 4 #[GV g cv, fv, .int .i64 to] W (TruePost W) := by
  obtain ⟨ca, cc, rfl, -, -, -⟩ := pairs_rd h
  obtain ⟨fa, fc, rfl, -, -, -, -⟩ := hf.out1 sIntG
  have hal := (Below.refl W.heap.size W).alloc (Nat.le_refl _) (.cells #[.int .i64 g.n, .slice ca g.es.length cc] 25)
  have H0 := Lib.hid (And.intro (And.intro (GB.new h 25) (hf.below hal)) hal)
  clear h hal hf _hb
  obtain ⟨c0, c1⟩ := H0.out.1.1.box
  unfold GV
  go_enter Try.func4, Try.ntmps4
  by_cases hq1 : 200 < g.es.length
  · have hq' : (200 : Int) < (g.es.length : Int) := by omega
    go_wp2_with fail
    refine (awake_any _).mono ?_
    rintro e Z ⟨rfl, b⟩
    have HB := Lib.hid (bel_trans H0.out.2 b)
    go_wp2_with fail
    go_ret
    exact ⟨rfl, HB.out⟩
  have hq1' : ¬ (200 : Int) < (g.es.length : Int) := by omega
  by_cases hq2 : 200 < g.n
  · go_wp2_with fail
    refine (awake_any _).mono ?_
    rintro e Z ⟨rfl, b⟩
    have HB := Lib.hid (bel_trans H0.out.2 b)
    go_wp2_with fail
    go_ret
    exact ⟨rfl, HB.out⟩
  by_cases hq3 : 20 < f.length
  · have hq' : (20 : Int) < (f.length : Int) := by omega
    go_wp2_with fail
    refine (awake_any _).mono ?_
    rintro e Z ⟨rfl, b⟩
    have HB := Lib.hid (bel_trans H0.out.2 b)
    go_wp2_with fail
    go_ret
    exact ⟨rfl, HB.out⟩
  have hq3' : ¬ (20 : Int) < (f.length : Int) := by omega
  go_wp2_with fail
  have hc := gReach_any g (.slice ca g.es.length cc) (.slice fa f.length fc) f _ H0.out.1.1.es H0.out.1.2
  unfold GV at hc
  refine hc.mono ?_
  rintro e W1 ⟨la, lc, L, rfl, l1, b1, hL⟩
  have H1 := Lib.hid (And.intro (show RH W.heap.size g (.slice ca g.es.length cc) (.slice fa f.length fc) (.slice la L.length lc) f L W W1 from ⟨H0.out.1.1.below b1, H0.out.1.2.below b1, l1, bel_trans H0.out.2 b1⟩) hL)
  clear hc l1 b1 hL c0 c1
  obtain ⟨c0, c1⟩ := H1.out.1.g.box
  go_wp2_with fail
  generalize hbs : W.heap.size = bs at *
  clear hbs
  have hc := rReach_any g (.slice ca g.es.length cc) (.slice fa f.length fc) f W1 H1.out.1.g.es H1.out.1.f
  unfold GV at hc
  refine hc.mono ?_
  rintro e W2 ⟨la2, lc2, L2, rfl, l2, b2, hL2⟩
  obtain rfl : L = L2 := by
    rcases H1.out.2 with ⟨h1, rfl⟩ | ⟨h1, h2, h3⟩
    · rcases hL2 with ⟨-, rfl⟩ | ⟨k1, -⟩
      · rfl
      · exact absurd k1 h1
    · rcases hL2 with ⟨k1, -⟩ | ⟨-, k2, k3⟩
      · exact absurd h1 k1
      · exact asc_unique h2 k2 fun y => by rw [h3, k3]
  have H2 := Lib.hid (And.intro (H1.out.1.below b2) l2)
  have HL := Lib.hid H1.out.2
  clear hc l2 b2 hL2 c0 c1 H1
  go_wp2_with fail
  refine (rEqual_any _ _ _ _ W2 H2.out.1.l H2.out.2).mono ?_
  rintro e W3 ⟨rfl, b3⟩
  rw [eqB_refl]
  have H3 := Lib.hid (H2.out.1.below (qt_below b3))
  clear b3 H2
  go_wp2_with fail
  go_loopw [8] (fun x wr => ∃ k : Nat, k ≤ g.es.length ∧ x = .int .i64 k ∧ Hid (RH bs g (.slice ca g.es.length cc) (.slice fa f.length fc) (.slice la L.length lc) f L W wr)) (fun x _ => g.es.length - (intOf x).toNat)
  case atStart => exact ⟨0, by omega, rfl, H3.out⟩
  case round =>
    obtain ⟨k, hk, rfl, hh⟩ := hrel
    have HW := Lib.hid hh.out
    obtain ⟨c0, c1⟩ := hh.out.g.box
    clear hh
    by_cases hlt : k < g.es.length
    · have hkl : (k : Int) < (g.es.length : Int) := by omega
      go_wp2_with fail
      have hc := rCheck_any g (.slice ca g.es.length cc) wr HW.out.g.es
      unfold GV at hc
      refine hc.mono ?_
      rintro e V ⟨rfl, b⟩
      replace HW := Lib.hid (HW.out.below b)
      clear hc b c0 c1
      obtain ⟨c0, c1⟩ := HW.out.g.box
      by_cases hc : gCode g = 0
      · have q0 : (gCode g == 0) = true := by simpa using hc
        obtain ⟨ca', cc', hce, -, hci, hcc⟩ := pairs_rd HW.out.g.es
        simp only [Value.slice.injEq] at hce
        obtain ⟨rfl, -, rfl⟩ := hce
        obtain ⟨p0, p1⟩ := (hcc k hlt).2 V (Below.refl _ _)
        have hii := hci (k : Int) (by omega) (by omega)
        rw [Int.toNat_natCast] at hii
        obtain ⟨e, he⟩ : ∃ e, e = nth g.es k := ⟨_, rfl⟩
        have hin := (gCode_ok.1 hc).nth hlt
        have hmem : nth g.es k ∈ g.es := nth_mem _ _ hlt
        rw [← he] at p0 p1 hin hmem
        obtain ⟨x, y⟩ := e
        dsimp only at p0 p1 hin
        have hcl : x ∈ L → y ∈ L := fun hx => by
          rcases HL.out with ⟨h1, -⟩ | ⟨-, -, h3⟩
          · exact absurd hc h1
          have hvg := gCode_ok.1 hc
          obtain ⟨hx0, hx1⟩ := (h3 x).1 hx
          refine (h3 y).2 ⟨hin.2.1, ?_⟩
          obtain ⟨v, hv, hn, hR⟩ := (mem_reachL hvg).1 hx1
          exact (mem_reachL hvg).2 ⟨v, hv, hn, .step hR (mem_suc.2 ⟨_, hmem, by show x = _; omega, rfl⟩)⟩
        have HCL := Lib.hid hcl
        clear hcc hci he hin hmem hcl hc
        go_wp2_with fail
        refine (in_any _ L x V HW.out.l).mono ?_
        rintro e w' ⟨rfl, hw⟩
        rw [hw]
        clear hw w'
        by_cases hx : x ∈ L
        · rw [decide_eq_true hx]
          have HY := Lib.hid (decide_eq_true (HCL.out hx))
          clear hx
          go_wp2_with fail
          refine (in_any _ L y V HW.out.l).mono ?_
          rintro e w' ⟨rfl, hw⟩
          rw [hw, HY.out]
          clear hw w'
          go_wp2_with fail
          go_roundw
          case rel => exact ⟨k + 1, by omega, by go_num, HW.out⟩
          case measure => simp [intOf]; omega
        · rw [decide_eq_false hx]
          clear hx
          go_wp2_with fail
          go_roundw
          case rel => exact ⟨k + 1, by omega, by go_num, HW.out⟩
          case measure => simp [intOf]; omega
      · have q0 : (gCode g == 0) = false := by simpa using hc
        clear hc
        generalize hV : V = wr at *
        clear hV
        go_wp2_with fail
        go_loopw [9] (fun x wr => ∃ k : Nat, k ≤ f.length ∧ x = .int .i64 k ∧ Hid (RH bs g (.slice ca g.es.length cc) (.slice fa f.length fc) (.slice la L.length lc) f L W wr)) (fun x _ => f.length - (intOf x).toNat)
        case atStart => exact ⟨0, by omega, rfl, HW.out⟩
        case round =>
          clear HW c0 c1
          obtain ⟨k, hk, rfl, hh⟩ := hrel
          have HQ := Lib.hid hh.out
          obtain ⟨fa', fc', he, hfm, hfi, hfc, hfb⟩ := hh.out.f.out1 sIntG
          simp only [Value.slice.injEq] at he
          obtain ⟨rfl, -, rfl⟩ := he
          clear hh
          by_cases hlt : k < f.length
          · have hkl : (k : Int) < (f.length : Int) := by omega
            have hci := hfc k hlt
            have hblk := hfb k hlt
            have hii := hfi .i64 (k : Int) (by omega) (by omega)
            rw [Int.toNat_natCast] at hii
            obtain ⟨a, ha⟩ : ∃ a, a = nth f k := ⟨_, rfl⟩
            have ham : a ∈ f := by rw [ha]; exact nth_mem _ _ hlt
            rw [← ha] at hci
            have HA := Lib.hid ham
            clear hfc hfb hfi ha ham
            go_upto_region 14 with fail
            have hgd := HQ.out.below ((Below.refl _ _).drew)
            have hcd : wr.drew.cell? ⟨blk fa, ofs fa + k, none⟩ = some (.int .i64 a) := (((Below.refl wr.heap.size wr).drew).cell (p := ⟨blk fa, ofs fa + k, none⟩) hblk).trans hci
            refine wp_region_plan (.take 0 (.take 1 (.take 2 (.take 3 (.take 4 (.take 5 (.alt 6 (.take 7 (.take 8 (.take 9 (.alt 10 (.alt 11 .done .stop) .stop)))) .stop)))))))
              (fun w' => w'.cell? ⟨bs, 0, none⟩ = some (.int .i64 g.n) ∧ w'.cell? ⟨bs, 1, none⟩ = some (.slice ca g.es.length cc) ∧ w'.cell? ⟨blk fa, ofs fa + k, none⟩ = some (.int .i64 a)) (by kernel_rfl) (by kernel_rfl) (by kernel_rfl) (by kernel_rfl) ⟨hgd.g.box.1, hgd.g.box.2, hcd⟩ ?_
            refine plan_take (v := ?_) rfl (Or.inl ⟨by rfl, ?_⟩) ?_
            rotate_left
            · (intro W hW; obtain ⟨q1, q2, q3⟩ := hW; go_simp; try with_reducible rfl)
            simp only [Act.put, List.getElem_toArray]
            refine plan_take (v := ?_) rfl (Or.inl ⟨by rfl, ?_⟩) ?_
            rotate_left
            · (intro W hW; obtain ⟨q1, q2, q3⟩ := hW; go_simp; try with_reducible rfl)
            simp only [Act.put, List.getElem_toArray]
            refine plan_take (v := ?_) rfl (Or.inl ⟨by rfl, ?_⟩) ?_
            rotate_left
            · (intro W hW; obtain ⟨q1, q2, q3⟩ := hW; go_simp; try with_reducible rfl)
            simp only [Act.put, List.getElem_toArray]
            refine plan_take (v := ?_) rfl (Or.inl ⟨by rfl, ?_⟩) ?_
            rotate_left
            · (intro W hW; obtain ⟨q1, q2, q3⟩ := hW; go_simp; try with_reducible rfl)
            simp only [Act.put, List.getElem_toArray]
            refine plan_take (v := ?_) rfl (Or.inl ⟨by rfl, ?_⟩) ?_
            rotate_left
            · (intro W hW; obtain ⟨q1, q2, q3⟩ := hW; go_simp; try with_reducible rfl)
            simp only [Act.put, List.getElem_toArray]
            refine plan_take (v := ?_) rfl (Or.inl ⟨by rfl, ?_⟩) ?_
            rotate_left
            · (intro W hW; obtain ⟨q1, q2, q3⟩ := hW; go_simp; try with_reducible rfl)
            simp only [Act.put, List.getElem_toArray]
            have HD := Lib.hid (And.intro hgd hcd)
            have hbd : blk fa < wr.drew.heap.size := hblk
            clear hgd hcd
            (try replace HP1 := Lib.hid (And.intro (HP1.out.1.below ((Below.refl wr.heap.size wr).drew)) HP1.out.2))
            generalize wr.drew = V at *
            refine plan_alt rfl ?_ plan_stop
            go_wp2_with fail
            have hc := gPath_any g (.slice ca g.es.length cc) a to V HD.out.1.g.es
            unfold GV at hc
            refine hc.mono ?_
            rintro e V2 ⟨o1, s1, c1, l1, rfl, i1, b, pi1⟩
            replace HQ := Lib.hid (HD.out.1.below b)
            have hcd : V2.cell? ⟨blk fa, ofs fa + k, none⟩ = some (.int .i64 a) := (b.cell (p := ⟨blk fa, ofs fa + k, none⟩) hbd).trans HD.out.2
            have HCD := Lib.hid hcd
            (try replace HP1 := Lib.hid (And.intro (HP1.out.1.below b) HP1.out.2))
            have HP1 := Lib.hid (And.intro i1 pi1)
            clear hc i1 pi1
            go_wp2_with fail
            refine tail_mk ⟨HQ.out.g.box.1, HQ.out.g.box.2, HCD.out⟩ ?_
            refine plan_take (v := ?_) rfl (Or.inl ⟨by rfl, ?_⟩) ?_
            rotate_left
            · (intro W hW; obtain ⟨q1, q2, q3⟩ := hW; go_simp; try with_reducible rfl)
            simp only [Act.put, List.getElem_toArray]
            refine plan_take (v := ?_) rfl (Or.inl ⟨by rfl, ?_⟩) ?_
            rotate_left
            · (intro W hW; obtain ⟨q1, q2, q3⟩ := hW; go_simp; try with_reducible rfl)
            simp only [Act.put, List.getElem_toArray]
            refine plan_take (v := ?_) rfl (Or.inl ⟨by rfl, ?_⟩) ?_
            rotate_left
            · (intro W hW; obtain ⟨q1, q2, q3⟩ := hW; go_simp; try with_reducible rfl)
            simp only [Act.put, List.getElem_toArray]
            refine plan_alt rfl ?_ plan_stop
            go_wp2_with fail
            refine tail_mk ⟨HQ.out.g.box.1, HQ.out.g.box.2, HCD.out⟩ ?_
            refine plan_alt rfl ?_ plan_stop
            go_wp2_with fail
            refine tail_mk ⟨HQ.out.g.box.1, HQ.out.g.box.2, HCD.out⟩ ?_
            refine plan_done ?_
            clear HD hci hblk
            obtain ⟨wr, hwr⟩ : ∃ Y, Y = V2 := ⟨_, rfl⟩
            rw [← hwr] at HCD HQ HP1 ⊢
            have hci := HCD.out
            have hblk := World.block_lt_of_cell? wr ⟨blk fa, ofs fa + k, none⟩ hci
            dsimp only at hblk
            clear hwr HCD hcd b hbd
            go_upto_region 15 with fail
            have hgd := HQ.out.below ((Below.refl _ _).drew)
            have hcd : wr.drew.cell? ⟨blk fa, ofs fa + k, none⟩ = some (.int .i64 a) := (((Below.refl wr.heap.size wr).drew).cell (p := ⟨blk fa, ofs fa + k, none⟩) hblk).trans hci
            refine wp_region_plan (.take 0 (.take 1 (.take 2 (.take 3 (.take 4 (.take 5 (.alt 6 (.take 7 (.take 8 (.take 9 (.alt 10 (.alt 11 .done .stop) .stop)))) .stop)))))))
              (fun w' => w'.cell? ⟨bs, 0, none⟩ = some (.int .i64 g.n) ∧ w'.cell? ⟨bs, 1, none⟩ = some (.slice ca g.es.length cc) ∧ w'.cell? ⟨blk fa, ofs fa + k, none⟩ = some (.int .i64 a)) (by kernel_rfl) (by kernel_rfl) (by kernel_rfl) (by kernel_rfl) ⟨hgd.g.box.1, hgd.g.box.2, hcd⟩ ?_
            refine plan_take (v := ?_) rfl (Or.inl ⟨by rfl, ?_⟩) ?_
            rotate_left
            · (intro W hW; obtain ⟨q1, q2, q3⟩ := hW; go_simp; try with_reducible rfl)
            simp only [Act.put, List.getElem_toArray]
            refine plan_take (v := ?_) rfl (Or.inl ⟨by rfl, ?_⟩) ?_
            rotate_left
            · (intro W hW; obtain ⟨q1, q2, q3⟩ := hW; go_simp; try with_reducible rfl)
            simp only [Act.put, List.getElem_toArray]
            refine plan_take (v := ?_) rfl (Or.inl ⟨by rfl, ?_⟩) ?_
            rotate_left
            · (intro W hW; obtain ⟨q1, q2, q3⟩ := hW; go_simp; try with_reducible rfl)
            simp only [Act.put, List.getElem_toArray]
            refine plan_take (v := ?_) rfl (Or.inl ⟨by rfl, ?_⟩) ?_
            rotate_left
            · (intro W hW; obtain ⟨q1, q2, q3⟩ := hW; go_simp; try with_reducible rfl)
            simp only [Act.put, List.getElem_toArray]
            refine plan_take (v := ?_) rfl (Or.inl ⟨by rfl, ?_⟩) ?_
            rotate_left
            · (intro W hW; obtain ⟨q1, q2, q3⟩ := hW; go_simp; try with_reducible rfl)
            simp only [Act.put, List.getElem_toArray]
            refine plan_take (v := ?_) rfl (Or.inl ⟨by rfl, ?_⟩) ?_
            rotate_left
            · (intro W hW; obtain ⟨q1, q2, q3⟩ := hW; go_simp; try with_reducible rfl)
            simp only [Act.put, List.getElem_toArray]
            have HD := Lib.hid (And.intro hgd hcd)
            have hbd : blk fa < wr.drew.heap.size := hblk
            clear hgd hcd
            (try replace HP1 := Lib.hid (And.intro (HP1.out.1.below ((Below.refl wr.heap.size wr).drew)) HP1.out.2))
            generalize wr.drew = V at *
            refine plan_alt rfl ?_ plan_stop
            go_wp2_with fail
            have hc := rPath_any g (.slice ca g.es.length cc) a to V HD.out.1.g.es
            unfold GV at hc
            refine hc.mono ?_
            rintro e V2 ⟨o2, s2, c2, l2, rfl, i2, b, pi2⟩
            replace HQ := Lib.hid (HD.out.1.below b)
            have hcd : V2.cell? ⟨blk fa, ofs fa + k, none⟩ = some (.int .i64 a) := (b.cell (p := ⟨blk fa, ofs fa + k, none⟩) hbd).trans HD.out.2
            have HCD := Lib.hid hcd
            (try replace HP1 := Lib.hid (And.intro (HP1.out.1.below b) HP1.out.2))
            have HP2 := Lib.hid (And.intro i2 pi2)
            clear hc i2 pi2
            go_wp2_with fail
            refine tail_mk ⟨HQ.out.g.box.1, HQ.out.g.box.2, HCD.out⟩ ?_
            refine plan_take (v := ?_) rfl (Or.inl ⟨by rfl, ?_⟩) ?_
            rotate_left
            · (intro W hW; obtain ⟨q1, q2, q3⟩ := hW; go_simp; try with_reducible rfl)
            simp only [Act.put, List.getElem_toArray]
            refine plan_take (v := ?_) rfl (Or.inl ⟨by rfl, ?_⟩) ?_
            rotate_left
            · (intro W hW; obtain ⟨q1, q2, q3⟩ := hW; go_simp; try with_reducible rfl)
            simp only [Act.put, List.getElem_toArray]
            refine plan_take (v := ?_) rfl (Or.inl ⟨by rfl, ?_⟩) ?_
            rotate_left
            · (intro W hW; obtain ⟨q1, q2, q3⟩ := hW; go_simp; try with_reducible rfl)
            simp only [Act.put, List.getElem_toArray]
            refine plan_alt rfl ?_ plan_stop
            go_wp2_with fail
            refine tail_mk ⟨HQ.out.g.box.1, HQ.out.g.box.2, HCD.out⟩ ?_
            refine plan_alt rfl ?_ plan_stop
            go_wp2_with fail
            refine tail_mk ⟨HQ.out.g.box.1, HQ.out.g.box.2, HCD.out⟩ ?_
            refine plan_done ?_
            obtain ⟨rfl, rfl⟩ := HP1.out.2.unique HP2.out.2
            clear HD hci hblk HCD hcd b hbd
            cases o1 with
            | true =>
              have hto : to ∈ L := by
                obtain ⟨h1, h2, h3⟩ := HP1.out.2.reach HA.out
                rcases HL.out with ⟨k1, -⟩ | ⟨-, -, k3⟩
                · exact absurd h1 k1
                · exact (k3 to).2 ⟨h2, h3⟩
              have HTO := Lib.hid (decide_eq_true hto)
              clear hto
              go_wp2_with fail
              have he := rEqual_any _ _ _ _ V2 HP1.out.1 HP2.out.1
              refine he.mono ?_
              rintro e V3 ⟨rfl, b⟩
              rw [eqB_refl]
              replace HQ := Lib.hid (HQ.out.below (qt_below b))
              clear he b
              go_wp2_with fail
              refine (in_any _ L to V3 HQ.out.l).mono ?_
              rintro e w' ⟨rfl, hw⟩
              rw [hw, HTO.out]
              clear hw w'
              go_wp2_with fail
              go_roundw
              case rel => exact ⟨k + 1, by omega, by go_num, HQ.out⟩
              case measure => simp [intOf]; omega
            | false =>
              go_wp2_with fail
              have he := rEqual_any _ _ _ _ V2 HP1.out.1 HP2.out.1
              refine he.mono ?_
              rintro e V3 ⟨rfl, b⟩
              rw [eqB_refl]
              replace HQ := Lib.hid (HQ.out.below (qt_below b))
              clear he b
              go_wp2_with fail
              go_roundw
              case rel => exact ⟨k + 1, by omega, by go_num, HQ.out⟩
              case measure => simp [intOf]; omega
          · obtain rfl : k = f.length := by omega
            clear hfc hfb hfi
            go_wp2_with fail
            refine (awake_any _).mono ?_
            rintro e Z ⟨rfl, b⟩
            have HB := Lib.hid (bel_trans HQ.out.bel b)
            go_wp2_with fail
            go_ret
            exact ⟨rfl, HB.out⟩
    · obtain rfl : k = g.es.length := by omega
      go_wp2_with fail
      go_loopw [9] (fun x wr => ∃ k : Nat, k ≤ f.length ∧ x = .int .i64 k ∧ Hid (RH bs g (.slice ca g.es.length cc) (.slice fa f.length fc) (.slice la L.length lc) f L W wr)) (fun x _ => f.length - (intOf x).toNat)
      case atStart => exact ⟨0, by omega, rfl, HW.out⟩
      case round =>
        clear HW c0 c1
        obtain ⟨k, hk, rfl, hh⟩ := hrel
        have HQ := Lib.hid hh.out
        obtain ⟨fa', fc', he, hfm, hfi, hfc, hfb⟩ := hh.out.f.out1 sIntG
        simp only [Value.slice.injEq] at he
        obtain ⟨rfl, -, rfl⟩ := he
        clear hh
        by_cases hlt : k < f.length
        · have hkl : (k : Int) < (f.length : Int) := by omega
          have hci := hfc k hlt
          have hblk := hfb k hlt
          have hii := hfi .i64 (k : Int) (by omega) (by omega)
          rw [Int.toNat_natCast] at hii
          obtain ⟨a, ha⟩ : ∃ a, a = nth f k := ⟨_, rfl⟩
          have ham : a ∈ f := by rw [ha]; exact nth_mem _ _ hlt
          rw [← ha] at hci
          have HA := Lib.hid ham
          clear hfc hfb hfi ha ham
          go_upto_region 14 with fail
          have hgd := HQ.out.below ((Below.refl _ _).drew)
          have hcd : wr.drew.cell? ⟨blk fa, ofs fa + k, none⟩ = some (.int .i64 a) := (((Below.refl wr.heap.size wr).drew).cell (p := ⟨blk fa, ofs fa + k, none⟩) hblk).trans hci
          refine wp_region_plan (.take 0 (.take 1 (.take 2 (.take 3 (.take 4 (.take 5 (.alt 6 (.take 7 (.take 8 (.take 9 (.alt 10 (.alt 11 .done .stop) .stop)))) .stop)))))))
            (fun w' => w'.cell? ⟨bs, 0, none⟩ = some (.int .i64 g.n) ∧ w'.cell? ⟨bs, 1, none⟩ = some (.slice ca g.es.length cc) ∧ w'.cell? ⟨blk fa, ofs fa + k, none⟩ = some (.int .i64 a)) (by kernel_rfl) (by kernel_rfl) (by kernel_rfl) (by kernel_rfl) ⟨hgd.g.box.1, hgd.g.box.2, hcd⟩ ?_
          refine plan_take (v := ?_) rfl (Or.inl ⟨by rfl, ?_⟩) ?_
          rotate_left
          · (intro W hW; obtain ⟨q1, q2, q3⟩ := hW; go_simp; try with_reducible rfl)
          simp only [Act.put, List.getElem_toArray]
          refine plan_take (v := ?_) rfl (Or.inl ⟨by rfl, ?_⟩) ?_
          rotate_left
          · (intro W hW; obtain ⟨q1, q2, q3⟩ := hW; go_simp; try with_reducible rfl)
          simp only [Act.put, List.getElem_toArray]
          refine plan_take (v := ?_) rfl (Or.inl ⟨by rfl, ?_⟩) ?_
          rotate_left
          · (intro W hW; obtain ⟨q1, q2, q3⟩ := hW; go_simp; try with_reducible rfl)
          simp only [Act.put, List.getElem_toArray]
          refine plan_take (v := ?_) rfl (Or.inl ⟨by rfl, ?_⟩) ?_
          rotate_left
          · (intro W hW; obtain ⟨q1, q2, q3⟩ := hW; go_simp; try with_reducible rfl)
          simp only [Act.put, List.getElem_toArray]
          refine plan_take (v := ?_) rfl (Or.inl ⟨by rfl, ?_⟩) ?_
          rotate_left
          · (intro W hW; obtain ⟨q1, q2, q3⟩ := hW; go_simp; try with_reducible rfl)
          simp only [Act.put, List.getElem_toArray]
          refine plan_take (v := ?_) rfl (Or.inl ⟨by rfl, ?_⟩) ?_
          rotate_left
          · (intro W hW; obtain ⟨q1, q2, q3⟩ := hW; go_simp; try with_reducible rfl)
          simp only [Act.put, List.getElem_toArray]
          have HD := Lib.hid (And.intro hgd hcd)
          have hbd : blk fa < wr.drew.heap.size := hblk
          clear hgd hcd
          (try replace HP1 := Lib.hid (And.intro (HP1.out.1.below ((Below.refl wr.heap.size wr).drew)) HP1.out.2))
          generalize wr.drew = V at *
          refine plan_alt rfl ?_ plan_stop
          go_wp2_with fail
          have hc := gPath_any g (.slice ca g.es.length cc) a to V HD.out.1.g.es
          unfold GV at hc
          refine hc.mono ?_
          rintro e V2 ⟨o1, s1, c1, l1, rfl, i1, b, pi1⟩
          replace HQ := Lib.hid (HD.out.1.below b)
          have hcd : V2.cell? ⟨blk fa, ofs fa + k, none⟩ = some (.int .i64 a) := (b.cell (p := ⟨blk fa, ofs fa + k, none⟩) hbd).trans HD.out.2
          have HCD := Lib.hid hcd
          (try replace HP1 := Lib.hid (And.intro (HP1.out.1.below b) HP1.out.2))
          have HP1 := Lib.hid (And.intro i1 pi1)
          clear hc i1 pi1
          go_wp2_with fail
          refine tail_mk ⟨HQ.out.g.box.1, HQ.out.g.box.2, HCD.out⟩ ?_
          refine plan_take (v := ?_) rfl (Or.inl ⟨by rfl, ?_⟩) ?_
          rotate_left
          · (intro W hW; obtain ⟨q1, q2, q3⟩ := hW; go_simp; try with_reducible rfl)
          simp only [Act.put, List.getElem_toArray]
          refine plan_take (v := ?_) rfl (Or.inl ⟨by rfl, ?_⟩) ?_
          rotate_left
          · (intro W hW; obtain ⟨q1, q2, q3⟩ := hW; go_simp; try with_reducible rfl)
          simp only [Act.put, List.getElem_toArray]
          refine plan_take (v := ?_) rfl (Or.inl ⟨by rfl, ?_⟩) ?_
          rotate_left
          · (intro W hW; obtain ⟨q1, q2, q3⟩ := hW; go_simp; try with_reducible rfl)
          simp only [Act.put, List.getElem_toArray]
          refine plan_alt rfl ?_ plan_stop
          go_wp2_with fail
          refine tail_mk ⟨HQ.out.g.box.1, HQ.out.g.box.2, HCD.out⟩ ?_
          refine plan_alt rfl ?_ plan_stop
          go_wp2_with fail
          refine tail_mk ⟨HQ.out.g.box.1, HQ.out.g.box.2, HCD.out⟩ ?_
          refine plan_done ?_
          clear HD hci hblk
          obtain ⟨wr, hwr⟩ : ∃ Y, Y = V2 := ⟨_, rfl⟩
          rw [← hwr] at HCD HQ HP1 ⊢
          have hci := HCD.out
          have hblk := World.block_lt_of_cell? wr ⟨blk fa, ofs fa + k, none⟩ hci
          dsimp only at hblk
          clear hwr HCD hcd b hbd
          go_upto_region 15 with fail
          have hgd := HQ.out.below ((Below.refl _ _).drew)
          have hcd : wr.drew.cell? ⟨blk fa, ofs fa + k, none⟩ = some (.int .i64 a) := (((Below.refl wr.heap.size wr).drew).cell (p := ⟨blk fa, ofs fa + k, none⟩) hblk).trans hci
          refine wp_region_plan (.take 0 (.take 1 (.take 2 (.take 3 (.take 4 (.take 5 (.alt 6 (.take 7 (.take 8 (.take 9 (.alt 10 (.alt 11 .done .stop) .stop)))) .stop)))))))
            (fun w' => w'.cell? ⟨bs, 0, none⟩ = some (.int .i64 g.n) ∧ w'.cell? ⟨bs, 1, none⟩ = some (.slice ca g.es.length cc) ∧ w'.cell? ⟨blk fa, ofs fa + k, none⟩ = some (.int .i64 a)) (by kernel_rfl) (by kernel_rfl) (by kernel_rfl) (by kernel_rfl) ⟨hgd.g.box.1, hgd.g.box.2, hcd⟩ ?_
          refine plan_take (v := ?_) rfl (Or.inl ⟨by rfl, ?_⟩) ?_
          rotate_left
          · (intro W hW; obtain ⟨q1, q2, q3⟩ := hW; go_simp; try with_reducible rfl)
          simp only [Act.put, List.getElem_toArray]
          refine plan_take (v := ?_) rfl (Or.inl ⟨by rfl, ?_⟩) ?_
          rotate_left
          · (intro W hW; obtain ⟨q1, q2, q3⟩ := hW; go_simp; try with_reducible rfl)
          simp only [Act.put, List.getElem_toArray]
          refine plan_take (v := ?_) rfl (Or.inl ⟨by rfl, ?_⟩) ?_
          rotate_left
          · (intro W hW; obtain ⟨q1, q2, q3⟩ := hW; go_simp; try with_reducible rfl)
          simp only [Act.put, List.getElem_toArray]
          refine plan_take (v := ?_) rfl (Or.inl ⟨by rfl, ?_⟩) ?_
          rotate_left
          · (intro W hW; obtain ⟨q1, q2, q3⟩ := hW; go_simp; try with_reducible rfl)
          simp only [Act.put, List.getElem_toArray]
          refine plan_take (v := ?_) rfl (Or.inl ⟨by rfl, ?_⟩) ?_
          rotate_left
          · (intro W hW; obtain ⟨q1, q2, q3⟩ := hW; go_simp; try with_reducible rfl)
          simp only [Act.put, List.getElem_toArray]
          refine plan_take (v := ?_) rfl (Or.inl ⟨by rfl, ?_⟩) ?_
          rotate_left
          · (intro W hW; obtain ⟨q1, q2, q3⟩ := hW; go_simp; try with_reducible rfl)
          simp only [Act.put, List.getElem_toArray]
          have HD := Lib.hid (And.intro hgd hcd)
          have hbd : blk fa < wr.drew.heap.size := hblk
          clear hgd hcd
          (try replace HP1 := Lib.hid (And.intro (HP1.out.1.below ((Below.refl wr.heap.size wr).drew)) HP1.out.2))
          generalize wr.drew = V at *
          refine plan_alt rfl ?_ plan_stop
          go_wp2_with fail
          have hc := rPath_any g (.slice ca g.es.length cc) a to V HD.out.1.g.es
          unfold GV at hc
          refine hc.mono ?_
          rintro e V2 ⟨o2, s2, c2, l2, rfl, i2, b, pi2⟩
          replace HQ := Lib.hid (HD.out.1.below b)
          have hcd : V2.cell? ⟨blk fa, ofs fa + k, none⟩ = some (.int .i64 a) := (b.cell (p := ⟨blk fa, ofs fa + k, none⟩) hbd).trans HD.out.2
          have HCD := Lib.hid hcd
          (try replace HP1 := Lib.hid (And.intro (HP1.out.1.below b) HP1.out.2))
          have HP2 := Lib.hid (And.intro i2 pi2)
          clear hc i2 pi2
          go_wp2_with fail
          refine tail_mk ⟨HQ.out.g.box.1, HQ.out.g.box.2, HCD.out⟩ ?_
          refine plan_take (v := ?_) rfl (Or.inl ⟨by rfl, ?_⟩) ?_
          rotate_left
          · (intro W hW; obtain ⟨q1, q2, q3⟩ := hW; go_simp; try with_reducible rfl)
          simp only [Act.put, List.getElem_toArray]
          refine plan_take (v := ?_) rfl (Or.inl ⟨by rfl, ?_⟩) ?_
          rotate_left
          · (intro W hW; obtain ⟨q1, q2, q3⟩ := hW; go_simp; try with_reducible rfl)
          simp only [Act.put, List.getElem_toArray]
          refine plan_take (v := ?_) rfl (Or.inl ⟨by rfl, ?_⟩) ?_
          rotate_left
          · (intro W hW; obtain ⟨q1, q2, q3⟩ := hW; go_simp; try with_reducible rfl)
          simp only [Act.put, List.getElem_toArray]
          refine plan_alt rfl ?_ plan_stop
          go_wp2_with fail
          refine tail_mk ⟨HQ.out.g.box.1, HQ.out.g.box.2, HCD.out⟩ ?_
          refine plan_alt rfl ?_ plan_stop
          go_wp2_with fail
          refine tail_mk ⟨HQ.out.g.box.1, HQ.out.g.box.2, HCD.out⟩ ?_
          refine plan_done ?_
          obtain ⟨rfl, rfl⟩ := HP1.out.2.unique HP2.out.2
          clear HD hci hblk HCD hcd b hbd
          cases o1 with
          | true =>
            have hto : to ∈ L := by
              obtain ⟨h1, h2, h3⟩ := HP1.out.2.reach HA.out
              rcases HL.out with ⟨k1, -⟩ | ⟨-, -, k3⟩
              · exact absurd h1 k1
              · exact (k3 to).2 ⟨h2, h3⟩
            have HTO := Lib.hid (decide_eq_true hto)
            clear hto
            go_wp2_with fail
            have he := rEqual_any _ _ _ _ V2 HP1.out.1 HP2.out.1
            refine he.mono ?_
            rintro e V3 ⟨rfl, b⟩
            rw [eqB_refl]
            replace HQ := Lib.hid (HQ.out.below (qt_below b))
            clear he b
            go_wp2_with fail
            refine (in_any _ L to V3 HQ.out.l).mono ?_
            rintro e w' ⟨rfl, hw⟩
            rw [hw, HTO.out]
            clear hw w'
            go_wp2_with fail
            go_roundw
            case rel => exact ⟨k + 1, by omega, by go_num, HQ.out⟩
            case measure => simp [intOf]; omega
          | false =>
            go_wp2_with fail
            have he := rEqual_any _ _ _ _ V2 HP1.out.1 HP2.out.1
            refine he.mono ?_
            rintro e V3 ⟨rfl, b⟩
            rw [eqB_refl]
            replace HQ := Lib.hid (HQ.out.below (qt_below b))
            clear he b
            go_wp2_with fail
            go_roundw
            case rel => exact ⟨k + 1, by omega, by go_num, HQ.out⟩
            case measure => simp [intOf]; omega
        · obtain rfl : k = f.length := by omega
          clear hfc hfb hfi
          go_wp2_with fail
          refine (awake_any _).mono ?_
          rintro e Z ⟨rfl, b⟩
          have HB := Lib.hid (bel_trans HQ.out.bel b)
          go_wp2_with fail
          go_ret
          exact ⟨rfl, HB.out⟩
set_option maxRecDepth 100000 in
theorem GraphReach_lifted (os : Os) (started : os.Started) (H : Type) (enc : TypeId × Value → H) :
    ReturnsInHanded {} Try.checked os 4 .any (Rows.graphReachSpec.pre6 enc Try.prog Try.f4 Rows.graphReachRow.domain false) (Rows.graphReachSpec.post enc Try.prog Try.f4 false true false false) := by
  refine returnsInHanded_of_change (C := Try.checked) own started (by kernel_rfl) Try.func4
    (ChangeSpec.witness6 (enc := enc) (C := Try.checked) false ⟨#[], #[.agg #[.int .i64 0, .slice none 0 0], .slice none 0 0, .int .i64 0], []⟩ 8 (by kernel_rfl) (by kernel_rfl) (by kernel_rfl) (by kernel_rfl)) ?_
  intro W base args ds gs before hval0 hW hcnd _
  have hval : ∀ (j : Nat) t v, Try.f4.params[j]? = some t → args[j]? = some v → Value.okWide Try.prog W .any base t v := hval0
  have hW' := hW
  obtain ⟨p, q, hA0, hV, rfl, hfz, hnd⟩ := hW
  have hA : DataW.TrodAll enc Try.prog W 0 (fun _ => true) true Try.f4.params.toList args.toList ds p := hA0
  rw [Try.params4] at hA hval
  obtain ⟨v0, vs0, d0, ds0, p0, q0, hargs, rfl, rfl, h0, r0⟩ := trodAll_cons hA
  obtain ⟨v1, vs1, d1, ds1, p1, q1, rfl, rfl, rfl, h1, r1⟩ := trodAll_cons r0
  obtain ⟨v2, vs2, d2, ds2, p2, q2, rfl, rfl, rfl, h2, r2⟩ := trodAll_cons r1
  obtain ⟨rfl, rfl, rfl⟩ := trodAll_nil r2
  obtain rfl : args = #[v0, v1, v2] := by cases args; simp_all
  obtain ⟨rfl, rfl⟩ := trodVars_none hV
  obtain ⟨c0, rfl, sz0⟩ := okWide_struct Try.underlying25 (hval 0 25 v0 rfl rfl)
  have k0 := h0
  obtain ⟨g0, cv0, eq0, hC0⟩ := graph_of_trod sz0 h0
  obtain rfl : c0 = #[.int .i64 g0.n, cv0] := by simpa [GV] using eq0
  have lt0 : ∀ x ∈ p0, x.block < W.heap.size := by obtain ⟨m, hm⟩ := k0; exact DataW.trod_lt m _ _ _ hm
  obtain ⟨a1, len1, cap1, rfl⟩ := okWide_slice Try.underlying33 (hval 1 33 v1 rfl rfl)
  have k1 := h1
  have lt1 : ∀ x ∈ p1, x.block < W.heap.size := by obtain ⟨m, hm⟩ := k1; exact DataW.trod_lt m _ _ _ hm
  obtain ⟨l1, hl1, hI1, b1⟩ := ints_of_trod Try.underlying33 Try.underlying3 (by kernel_rfl) h1
  obtain ⟨a2, rfl, rfl, rfl, w2⟩ := open_int Try.underlying3 (hval 2 3 v2 rfl rfl) h2
  have b2 := bounds_i64 w2
  clear hA0 hval0
  refine (GraphReach_walk g0 cv0 _ l1 a2 W hC0 hI1 b1 b2).mono fun e W' ⟨he, bel⟩ => ?_
  subst he
  exact ⟨_, rfl, _, _, _, [], _, [], hW', trodAll_mk1 (shut_bool Try.underlying4 _), (trodAll_cons_mk (Below.trod laidOut (by kernel_rfl) (of_decide_eq_true (by kernel_rfl)) k0 bel lt0) (trodAll_cons_mk (Below.trod laidOut (by kernel_rfl) (of_decide_eq_true (by kernel_rfl)) k1 bel lt1) (trodAll_cons_mk (shut_int Try.underlying3 w2) trodAll_mk0))), rfl, bel.frame _, fun h => by cases h⟩

/-- The given statement. -/
theorem GraphReach_holds : Rows.GraphReachSaid :=
  OpenClaim.holds_of_wide 4 Try.f4 rfl rfl rfl rfl rfl rfl rfl ⟨rfl, rfl, rfl, rfl, rfl⟩ rfl rfl rfl rfl rfl (by kernel_rfl) Try.func4 (by kernel_rfl)
    (of_decide_eq_true (by kernel_rfl)) (by unfold Func.isWrapper; first | (rw [if_pos (by decide +kernel)]; kernel_rfl) | (rw [if_neg (by decide +kernel)]; exact ⟨rfl, rfl⟩))
    (fun os started H enc _ => GraphReach_lifted os started H enc)

end Go.Proofs.Ytjapnkhgijhakaa
