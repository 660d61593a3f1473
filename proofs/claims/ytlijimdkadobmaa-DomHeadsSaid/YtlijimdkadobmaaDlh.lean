/- DomHeads: for any graph and root, the head of a loop dominates all its nodes, and a back edge leads to it from one of them. -/
import Derived.Test.YtlijimdkadobmaaDnw
import Derived.Test.YtlijimdkadobmaaDph
namespace Go.Proofs.Ytlijimdkadobmaa
open Go.ChangeShapes Go.WideShapes Go.ChangeAt Go.RowKit Go.Dfl Go.Gra

set_option maxHeartbeats 6400000 in
set_option maxRecDepth 100000 in
theorem DomHeads_walk (g : G) (cv : Value) (r : Int) (W : World) (h : Pairs W cv g.es) (_hr : -9223372036854775808 ≤ r ∧ r ≤ 9223372036854775807) : Calls Try.prog 3 #[GV g cv, .int .i64 r] W (TruePost W) := by
  obtain ⟨ca, cc, rfl, -, -, -⟩ := pairs_rd h
  have hal := (Below.refl W.heap.size W).alloc (Nat.le_refl _) (.cells #[.int .i64 g.n, .slice ca g.es.length cc] 24)
  have H0 := Lib.hid (And.intro (GB.new h 24) hal)
  clear h hal _hr
  obtain ⟨c0, c1⟩ := H0.out.1.box
  unfold GV
  go_enter Try.func3, Try.ntmps3
  by_cases hq1 : 60 < g.es.length
  · have q1 : (60 : Int) < (g.es.length : Int) := by omega
    go_wp2_with fail
    clear c0 c1
    refine (awake_any _).mono ?_
    rintro e Z ⟨rfl, b⟩
    have HB := Lib.hid (bel_trans H0.out.2 b)
    go_wp2_with fail
    go_ret
    exact ⟨rfl, HB.out⟩
  have q1 : ¬ (60 : Int) < (g.es.length : Int) := by omega
  by_cases q2 : 60 < g.n
  · go_wp2_with fail
    clear c0 c1
    refine (awake_any _).mono ?_
    rintro e Z ⟨rfl, b⟩
    have HB := Lib.hid (bel_trans H0.out.2 b)
    go_wp2_with fail
    go_ret
    exact ⟨rfl, HB.out⟩
  go_wp2_with fail
  have hnd := rNode_any g (.slice ca g.es.length cc) r _ H0.out.1.es
  unfold GV at hnd
  refine hnd.mono ?_
  rintro e W1 ⟨rfl, b⟩
  have H1 := Lib.hid (And.intro (H0.out.1.below b) (bel_trans H0.out.2 b))
  clear hnd b c0 c1
  obtain ⟨c0, c1⟩ := H1.out.1.box
  cases hn1 : nodeG g r
  · go_wp2_with fail
    clear c0 c1
    refine (awake_any _).mono ?_
    rintro e Z ⟨rfl, b⟩
    have HB := Lib.hid (bel_trans H1.out.2 b)
    go_wp2_with fail
    go_ret
    exact ⟨rfl, HB.out⟩
  obtain ⟨v1, v2, v3⟩ := nodeG_iff.1 hn1
  obtain ⟨r, rfl⟩ : ∃ k : Nat, r = (k : Int) := ⟨r.toNat, by omega⟩
  have hrn : r < g.n.toNat := by omega
  have hdc : dcode g (r : Int) = 0 := by
    unfold dcode
    rw [if_neg (by rw [gCode_ok.2 v1]; simp), if_pos (nodeB_nat hrn)]
  have HV := Lib.hid (And.intro v1 (And.intro hrn hdc))
  clear hn1 v1 v2 v3 hrn hdc
  go_wp2_with fail
  have hlo := dLoops_any g (.slice ca g.es.length cc) (r : Int) _ H1.out.1.es
  unfold GV at hlo
  refine hlo.mono ?_
  rintro e W2 ⟨la, lc, ls, rfl, hL, hA, b2⟩
  rw [HV.out.2.2]
  have hz : loopsZ g (r : Int) = headsTo g r g.n.toNat := by unfold loopsZ; rw [if_pos HV.out.2.2, Int.toNat_natCast]
  rw [hz, Int.toNat_natCast] at hA
  have H2 := Lib.hid (And.intro (H1.out.1.below b2) (And.intro (bel_trans H1.out.2 b2) (And.intro hL hA)))
  clear hlo hL hA b2 hz c0 c1
  obtain ⟨c0, c1⟩ := H2.out.1.box
  obtain ⟨la', lc', he, hlm, hli, hlc⟩ := H2.out.2.2.1.rd
  simp only [Value.slice.injEq] at he
  obtain ⟨rfl, -, rfl⟩ := he
  have HLC := Lib.hid hlc
  clear hlc
  go_wp2_with fail
  clear c0 c1
  obtain ⟨W2', hW2⟩ : ∃ Z, Z = W2 := ⟨_, rfl⟩
  rw [← hW2] at H2 HLC
  have HB2 := Lib.hid (show Below W2'.heap.size W2' W2 by rw [hW2]; exact Below.refl _ _)
  clear hW2
  have hlen : ls.length = (headsTo g r g.n.toNat).length := H2.out.2.2.2.1
  have HLEN := Lib.hid hlen
  clear hlen
  have HG := Lib.hid (show GB W.heap.size g (.slice ca g.es.length cc) W2' from H2.out.1)
  go_loopw [7] (fun x wr => ∃ i : Nat, i ≤ ls.length ∧ x = .int .i64 (i : Int) ∧ Hid (Below W2'.heap.size W2' wr)) (fun x _ => ls.length - (intOf x).toNat)
  case atStart => exact ⟨0, by omega, rfl, HB2.out⟩
  case round =>
    obtain ⟨i, hi, rfl, hh⟩ := hrel
    have HB := Lib.hid hh.out
    clear hh
    by_cases hlt : i < ls.length
    · have hil : (i : Int) < (ls.length : Int) := by omega
      obtain ⟨hd, hhd⟩ : ∃ hd, hd = nth (headsTo g r g.n.toNat) i := ⟨_, rfl⟩
      obtain ⟨M, hM⟩ : ∃ M, M = (nth ls i).2 := ⟨_, rfl⟩
      obtain ⟨k1, k2, ra, rc, k3, k4⟩ := HLC.out i hlt
      obtain ⟨k5, k6⟩ := H2.out.2.2.2.2 i (by rw [← HLEN.out]; exact hlt)
      rw [k5, ← hhd] at k2
      rw [← hM] at k3 k4 k6
      rw [← hhd] at k6
      have hmem : hd ∈ headsTo g r g.n.toNat := by rw [hhd]; exact nth_mem _ _ (by rw [← HLEN.out]; exact hlt)
      have hB9 : ∀ Z, Below W2'.heap.size W2' Z → Z.cell? ⟨blk la, ofs la + i * 2, none⟩ = some (.int .i64 (hd : Int)) ∧ Z.cell? ⟨blk la, ofs la + i * 2 + 1, none⟩ = some (.slice ra M.length rc) := fun Z hZ => ⟨by rw [hZ.cell (p := ⟨blk la, ofs la + i * 2, none⟩) k1]; exact k2, by rw [hZ.cell (p := ⟨blk la, ofs la + i * 2 + 1, none⟩) k1]; exact k3⟩
      have HI := Lib.hid (And.intro hB9 (And.intro k4 (And.intro k6 (And.intro hhd hmem))))
      have j1 := hli (i : Int) (by omega) (by omega)
      rw [Int.toNat_natCast] at j1
      clear k1 k2 k3 k4 k5 k6 hB9 hhd hM hmem
      go_upto_region 7 with fail
      by_cases hi0 : i = 0
      · have q4 : decide ((i : Int) > 0) = false := decide_eq_false (by omega)
        have q4' : ¬ 0 < i := by omega
        obtain ⟨Cls, hCls⟩ : ∃ Cls : World → Prop, ∀ Z', Cls Z' ↔ Below wr.heap.size wr Z' := ⟨_, fun _ => Iff.rfl⟩
        have hC : Cls wr.drew := (hCls _).2 ((Below.refl _ _).drew)
        have k0 : ∀ q : Wd Cls, Below W2'.heap.size W2' q.val := fun q => bel_trans HB.out ((hCls _).1 q.ok)
        have e0 : ∀ q : Wd Cls, q.val.cell? ⟨blk la, ofs la + i * 2, none⟩ = some (.int .i64 (hd : Int)) := fun q => (HI.out.1 _ (k0 q)).1
        have e1 : ∀ q : Wd Cls, q.val.cell? ⟨blk la, ofs la + i * 2 + 1, none⟩ = some (.slice ra M.length rc) := fun q => (HI.out.1 _ (k0 q)).2
        have hin : decide ((hd : Int) ∈ M) = true := by
          rw [decide_eq_true_eq, HI.out.2.2.1.2]
          exact ⟨hd, rfl, (mem_headsTo.1 HI.out.2.2.2.2).1, .inl rfl⟩
        have f1 : ∀ q : Wd Cls, Calls Try.prog 12 #[.slice ra M.length rc, .int .i64 (hd : Int)] q.val fun e w'' => e = .returned (.bool true) ∧ ∃ q : Wd Cls, w'' = q.val := fun q => (in_any _ M (hd : Int) q.val (HI.out.2.1.below (k0 q))).mono fun _ _ ⟨h1, h2⟩ => ⟨by rw [h1, hin], q, h2⟩
        have F1 := Lib.hid f1
        have HK := Lib.hid k0
        have HCC := Lib.hid hC
        haveI hne : Nonempty (Wd Cls) := ⟨⟨_, hC⟩⟩
        clear f1 hin hCls hC
        clear hi0
        clear k0
        refine wp_region_class Cls (by kernel_rfl) (by kernel_rfl) HCC.out ?_
        repeat (go_big_quiet_step ((go_at_call 12; exact F1.out _)))
        refine wpQuiet_nil ?_
        rintro _ ⟨q9, rfl⟩
        clear q4 q4'
        refine K_gen (fun Z => Below W2'.heap.size W2' Z) (HK.out q9) ?_
        intro V hV
        have HVV := Lib.hid hV
        clear hV e0 e1 HK HCC F1
        obtain ⟨d0, d1⟩ := HI.out.1 V HVV.out
        go_wp2_with fail
        clear d0 d1
        obtain ⟨V', hV'⟩ : ∃ Z, Z = V := ⟨_, rfl⟩
        have HV0 := Lib.hid (show Below W2'.heap.size W2' V from HVV.out)
        clear hV'
        go_loopw [8, 9] (fun bv x w2 => ∃ (k : Nat) (b : Bool), k ≤ M.length ∧ x = .int .i64 (k : Int) ∧ bv = .bool b ∧ Hid (Below W2'.heap.size W2' w2 ∧ ∀ j, j < k → ∀ v : Nat, nth M j = (v : Int) → hd ∈ suc g.es v → b = true)) (fun _ x _ => M.length - (intOf x).toNat)
        case atStart => exact ⟨0, false, by omega, rfl, rfl, HV0.out, fun j hj => by omega⟩
        case round =>
          obtain ⟨t, b, ht, rfl, rfl, hh⟩ := hrel
          have HC := Lib.hid hh.out
          clear hh
          obtain ⟨d0, d1⟩ := HI.out.1 wr HC.out.1
          by_cases htl : t < M.length
          · have htl' : (t : Int) < (M.length : Int) := by omega
            obtain ⟨ra', rc', he, hmm, hmi, hmc, hmb⟩ := HI.out.2.1.out1 sIntG
            simp only [Value.slice.injEq] at he
            obtain ⟨rfl, -, rfl⟩ := he
            obtain ⟨v, hv, hvn, hvq⟩ := (HI.out.2.2.1.2 (nth M t)).1 (nth_mem _ _ htl)
            have r1 : ∀ Z, Below W2'.heap.size W2' Z → Z.cell? ⟨blk ra, ofs ra + t, none⟩ = some (.int .i64 (v : Int)) := fun Z hZ => by
              rw [hZ.cell (p := ⟨blk ra, ofs ra + t, none⟩) (hmb t htl), hmc t htl, hv]
            have m1 := hmi .i64 (t : Int) (by omega) (by omega)
            rw [Int.toNat_natCast] at m1
            have HM := Lib.hid (And.intro hmc (And.intro hmb (And.intro r1 (And.intro hv (And.intro hvn hvq)))))
            have r2 := r1 wr HC.out.1
            clear hmc hmb r1 hv hvq
            go_upto_region 14 with fail
            by_cases ht0 : t = 0
            · have q6 : decide ((t : Int) > 0) = false := decide_eq_false (by omega)
              have q6' : ¬ 0 < t := by omega
              obtain ⟨Cls, hCls⟩ : ∃ Cls : World → Prop, ∀ Z', Cls Z' ↔ Below wr.heap.size wr Z' := ⟨_, fun _ => Iff.rfl⟩
              have hC : Cls wr.drew := (hCls _).2 ((Below.refl _ _).drew)
              have k0 : ∀ q : Wd Cls, Below W2'.heap.size W2' q.val := fun q => bel_trans HC.out.1 ((hCls _).1 q.ok)
              have e0 : ∀ q : Wd Cls, q.val.cell? ⟨blk la, ofs la + i * 2, none⟩ = some (.int .i64 (hd : Int)) := fun q => (HI.out.1 _ (k0 q)).1
              have e1 : ∀ q : Wd Cls, q.val.cell? ⟨blk la, ofs la + i * 2 + 1, none⟩ = some (.slice ra M.length rc) := fun q => (HI.out.1 _ (k0 q)).2
              have e2 : ∀ q : Wd Cls, q.val.cell? ⟨W.heap.size, 0, none⟩ = some (.int .i64 g.n) := fun q => ((HG.out.below (k0 q)).box).1
              have e4 : ∀ q : Wd Cls, q.val.cell? ⟨W.heap.size, 1, none⟩ = some (.slice ca g.es.length cc) := fun q => ((HG.out.below (k0 q)).box).2
              have hdm : domD g (r : Int) (hd : Int) (v : Int) = true := by
                have h9 : Go.Dm.Dom (dmC g r) v hd := by
                  rcases HM.out.2.2.2.2.2 with h | h
                  · rw [h]
                    obtain ⟨s, hs⟩ := List.exists_mem_of_ne_nil _ (mem_headsTo.1 HI.out.2.2.2.2).2
                    exact Go.Dm.Dom.refl (C := dmC g r) (start_node HV.out.1 HV.out.2.1 hs).2.2
                  · exact lpq_dom HV.out.1 HV.out.2.1 h
                exact (domD_iff HV.out.1 HV.out.2.1 HV.out.2.2).2 ⟨hd, v, rfl, rfl, h9⟩
              have f1 : ∀ q : Wd Cls, Calls Try.prog 13 #[.agg #[.int .i64 g.n, .slice ca g.es.length cc], .int .i64 (r : Int), .int .i64 (hd : Int), .int .i64 (v : Int)] q.val fun e w'' => e = .returned (.bool true) ∧ ∃ q : Wd Cls, w'' = q.val := fun q => class_bel (fun Z' hb => (hCls _).2 (bel_trans ((hCls _).1 q.ok) hb)) (by have h9 := dDominates_any g (.slice ca g.es.length cc) (r : Int) (hd : Int) (v : Int) q.val ((HG.out.below (k0 q)).es); rw [hdm] at h9; exact h9)
              have F1 := Lib.hid f1
              have HK := Lib.hid k0
              have HCC := Lib.hid hC
              haveI hne : Nonempty (Wd Cls) := ⟨⟨_, hC⟩⟩
              clear f1 hdm hCls hC
              clear ht0
              clear k0
              refine wp_region_class Cls (by kernel_rfl) (by kernel_rfl) HCC.out ?_
              repeat (go_big_quiet_step ((go_at_call 13; exact F1.out _)))
              refine wpQuiet_nil ?_
              rintro _ ⟨q9, rfl⟩
              clear q6 q6'
              refine K_gen (fun Z => Below W2'.heap.size W2' Z) (HK.out q9) ?_
              intro Z hZ
              have HZZ := Lib.hid hZ
              clear hZ e0 e1 e2 e4 HK HCC F1
              obtain ⟨d0, d1⟩ := HI.out.1 Z HZZ.out
              cases b
              · go_upto_region 16 with fail
                have h9 := HZZ.out.trans ((Below.refl Z.heap.size Z).drew.mono HZZ.out.size)
                have HV9 := Lib.hid h9
                obtain ⟨c0, c1⟩ := ((HG.out.below h9).box)
                have cpk := (HI.out.1 _ h9).1
                clear d0 d1 h9
                refine wp_region_plan (.take 0 (.take 1 (.take 2 (.take 3 (.take 5 (.take 6 (.take 7 (.take 8 (.take 9 (.alt 4 (.alt 10 (.take 11 (.take 12 .done)) .stop) .stop))))))))))
                  (fun w' => w'.cell? ⟨W.heap.size, 0, none⟩ = some (.int .i64 g.n) ∧ w'.cell? ⟨W.heap.size, 1, none⟩ = some (.slice ca g.es.length cc) ∧ w'.cell? ⟨blk la, ofs la + i * 2, none⟩ = some (.int .i64 (hd : Int))) (by kernel_rfl) (by kernel_rfl) (by kernel_rfl) (by kernel_rfl) ⟨c0, c1, cpk⟩ ?_
                generalize Z.drew = V at *
                clear c0 c1 cpk
                repeat (
                  refine plan_take (v := ?_) rfl (Or.inl ⟨by rfl, ?_⟩) ?_
                  rotate_left
                  · (intro W hW; obtain ⟨p1, p2, p3⟩ := hW; go_simp; try with_reducible rfl)
                  simp only [Act.put, List.setIfInBounds_toArray, List.getElem_toArray, List.getElem_cons_zero, List.getElem_cons_succ, List.set_cons_succ, List.set_cons_zero])
                refine plan_alt rfl ?_ plan_stop
                go_wp2_with fail
                have hsc := rSucc_any g (.slice ca g.es.length cc) (v : Int) V (HG.out.below HV9.out).es
                unfold GV at hsc
                refine hsc.mono ?_
                rintro e V2 ⟨sa, sc, rfl, si, b2⟩
                have h9 := HV9.out.trans (b2.mono HV9.out.size)
                obtain ⟨c0, c1⟩ := ((HG.out.below h9).box)
                have cpk := (HI.out.1 _ h9).1
                have hsv : sucZ g (v : Int) = suc g.es v := by
                  have hn9 : nodeG g (v : Int) = true := nodeG_iff.2 ⟨HV.out.1, by omega, by have := HM.out.2.2.2.2.1; omega⟩
                  unfold sucZ; rw [if_pos hn9, Int.toNat_natCast]
                rw [hsv] at si ⊢
                have HS := Lib.hid (And.intro h9 si)
                clear hsc b2 h9 si hsv
                go_wp2_with fail
                refine tail_mk ⟨c0, c1, cpk⟩ ?_
                clear c0 c1 cpk
                refine plan_alt rfl ?_ plan_stop
                go_wp2_with fail
                refine (in_any _ _ (hd : Int) V2 HS.out.2).mono ?_
                rintro e w' ⟨rfl, rfl⟩
                obtain ⟨b', hb'⟩ : ∃ b', b' = decide ((hd : Int) ∈ (suc g.es v).map fun x : Nat => (x : Int)) := ⟨_, rfl⟩
                rw [← hb']
                have HB' := Lib.hid hb'
                clear hb'
                go_wp2_with fail
                refine tail_mk (by obtain ⟨c0, c1⟩ := (HG.out.below HS.out.1).box; exact ⟨c0, c1, (HI.out.1 _ HS.out.1).1⟩) ?_
                repeat (
                  refine plan_take (v := ?_) rfl (Or.inl ⟨by rfl, ?_⟩) ?_
                  rotate_left
                  · (intro W hW; go_simp; try with_reducible rfl)
                  simp only [Act.put, List.setIfInBounds_toArray, List.getElem_toArray, List.getElem_cons_zero, List.getElem_cons_succ, List.set_cons_succ, List.set_cons_zero])
                refine plan_done ?_
                go_wp2_with fail
                go_roundw
                case rel => exact ⟨t + 1, b', by omega, by go_num, rfl, HS.out.1, fun j hj u hu he => by
                  by_cases ej : j = t
                  · subst ej
                    have hvu : v = u := by have := HM.out.2.2.2.1.symm.trans hu; omega
                    rw [HB'.out, decide_eq_true_eq]
                    exact List.mem_map.2 ⟨hd, by rw [hvu]; exact he, rfl⟩
                  · have := HC.out.2 j (by omega) u hu he; cases this⟩
                case measure => simp [intOf]; omega
              · go_upto_region 16 with fail
                go_quiet (fail)
                go_wp2_with fail
                go_roundw
                case rel => exact ⟨t + 1, true, by omega, by go_num, rfl, HZZ.out.trans ((qt_below (Qt.drewN _ _)).mono HZZ.out.size), fun _ _ _ _ _ => rfl⟩
                case measure => simp [intOf]; omega
            · obtain ⟨tt, htt⟩ : ∃ tt, t = tt + 1 := ⟨t - 1, by omega⟩
              have q6 : decide ((t : Int) > 0) = true := decide_eq_true (by omega)
              have q6' : 0 < t := by omega
              have htm : tt < M.length := by omega
              obtain ⟨vp, hvp, -, -⟩ := (HI.out.2.2.1.2 (nth M tt)).1 (nth_mem _ _ htm)
              have hlt9 : vp < v := by
                have h9 := List.pairwise_iff_getElem.1 HI.out.2.2.1.1 tt t htm htl (by omega)
                rw [← nth_eq _ _ htm, ← nth_eq _ _ htl, hvp, HM.out.2.2.2.1] at h9
                omega
              have q7 : ¬ (v : Int) ≤ (vp : Int) := by omega
              have q7' : ¬ v ≤ vp := by omega
              have hw : IntKind.i64.wrap ((t : Int) - 1) = (tt : Int) := by rw [show (t : Int) - 1 = (tt : Int) by omega]; exact IntWalk.i64_in _ (by omega)
              have m2 := hmi .i64 (tt : Int) (by omega) (by omega)
              rw [Int.toNat_natCast] at m2
              obtain ⟨Cls, hCls⟩ : ∃ Cls : World → Prop, ∀ Z', Cls Z' ↔ Below wr.heap.size wr Z' := ⟨_, fun _ => Iff.rfl⟩
              have hC : Cls wr.drew := (hCls _).2 ((Below.refl _ _).drew)
              have k0 : ∀ q : Wd Cls, Below W2'.heap.size W2' q.val := fun q => bel_trans HC.out.1 ((hCls _).1 q.ok)
              have e0 : ∀ q : Wd Cls, q.val.cell? ⟨blk la, ofs la + i * 2, none⟩ = some (.int .i64 (hd : Int)) := fun q => (HI.out.1 _ (k0 q)).1
              have e1 : ∀ q : Wd Cls, q.val.cell? ⟨blk la, ofs la + i * 2 + 1, none⟩ = some (.slice ra M.length rc) := fun q => (HI.out.1 _ (k0 q)).2
              have e2 : ∀ q : Wd Cls, q.val.cell? ⟨W.heap.size, 0, none⟩ = some (.int .i64 g.n) := fun q => ((HG.out.below (k0 q)).box).1
              have e4 : ∀ q : Wd Cls, q.val.cell? ⟨W.heap.size, 1, none⟩ = some (.slice ca g.es.length cc) := fun q => ((HG.out.below (k0 q)).box).2
              have hdm : domD g (r : Int) (hd : Int) (v : Int) = true := by
                have h9 : Go.Dm.Dom (dmC g r) v hd := by
                  rcases HM.out.2.2.2.2.2 with h | h
                  · rw [h]
                    obtain ⟨s, hs⟩ := List.exists_mem_of_ne_nil _ (mem_headsTo.1 HI.out.2.2.2.2).2
                    exact Go.Dm.Dom.refl (C := dmC g r) (start_node HV.out.1 HV.out.2.1 hs).2.2
                  · exact lpq_dom HV.out.1 HV.out.2.1 h
                exact (domD_iff HV.out.1 HV.out.2.1 HV.out.2.2).2 ⟨hd, v, rfl, rfl, h9⟩
              have f1 : ∀ q : Wd Cls, Calls Try.prog 13 #[.agg #[.int .i64 g.n, .slice ca g.es.length cc], .int .i64 (r : Int), .int .i64 (hd : Int), .int .i64 (v : Int)] q.val fun e w'' => e = .returned (.bool true) ∧ ∃ q : Wd Cls, w'' = q.val := fun q => class_bel (fun Z' hb => (hCls _).2 (bel_trans ((hCls _).1 q.ok) hb)) (by have h9 := dDominates_any g (.slice ca g.es.length cc) (r : Int) (hd : Int) (v : Int) q.val ((HG.out.below (k0 q)).es); rw [hdm] at h9; exact h9)
              have F1 := Lib.hid f1
              have HK := Lib.hid k0
              have HCC := Lib.hid hC
              haveI hne : Nonempty (Wd Cls) := ⟨⟨_, hC⟩⟩
              clear f1 hdm hCls hC
              have e3 : ∀ q : Wd Cls, q.val.cell? ⟨blk ra, ofs ra + tt, none⟩ = some (.int .i64 (vp : Int)) := fun q => by rw [(k0 q).cell (p := ⟨blk ra, ofs ra + tt, none⟩) (HM.out.2.1 tt htm), HM.out.1 tt htm, hvp]
              clear ht0 htt hvp hlt9
              clear k0
              refine wp_region_class Cls (by kernel_rfl) (by kernel_rfl) HCC.out ?_
              repeat (go_big_quiet_step ((go_at_call 13; exact F1.out _)))
              refine wpQuiet_nil ?_
              rintro _ ⟨q9, rfl⟩
              clear e3 q6 q6' q7 q7' hw m2
              refine K_gen (fun Z => Below W2'.heap.size W2' Z) (HK.out q9) ?_
              intro Z hZ
              have HZZ := Lib.hid hZ
              clear hZ e0 e1 e2 e4 HK HCC F1
              obtain ⟨d0, d1⟩ := HI.out.1 Z HZZ.out
              cases b
              · go_upto_region 16 with fail
                have h9 := HZZ.out.trans ((Below.refl Z.heap.size Z).drew.mono HZZ.out.size)
                have HV9 := Lib.hid h9
                obtain ⟨c0, c1⟩ := ((HG.out.below h9).box)
                have cpk := (HI.out.1 _ h9).1
                clear d0 d1 h9
                refine wp_region_plan (.take 0 (.take 1 (.take 2 (.take 3 (.take 5 (.take 6 (.take 7 (.take 8 (.take 9 (.alt 4 (.alt 10 (.take 11 (.take 12 .done)) .stop) .stop))))))))))
                  (fun w' => w'.cell? ⟨W.heap.size, 0, none⟩ = some (.int .i64 g.n) ∧ w'.cell? ⟨W.heap.size, 1, none⟩ = some (.slice ca g.es.length cc) ∧ w'.cell? ⟨blk la, ofs la + i * 2, none⟩ = some (.int .i64 (hd : Int))) (by kernel_rfl) (by kernel_rfl) (by kernel_rfl) (by kernel_rfl) ⟨c0, c1, cpk⟩ ?_
                generalize Z.drew = V at *
                clear c0 c1 cpk
                repeat (
                  refine plan_take (v := ?_) rfl (Or.inl ⟨by rfl, ?_⟩) ?_
                  rotate_left
                  · (intro W hW; obtain ⟨p1, p2, p3⟩ := hW; go_simp; try with_reducible rfl)
                  simp only [Act.put, List.setIfInBounds_toArray, List.getElem_toArray, List.getElem_cons_zero, List.getElem_cons_succ, List.set_cons_succ, List.set_cons_zero])
                refine plan_alt rfl ?_ plan_stop
                go_wp2_with fail
                have hsc := rSucc_any g (.slice ca g.es.length cc) (v : Int) V (HG.out.below HV9.out).es
                unfold GV at hsc
                refine hsc.mono ?_
                rintro e V2 ⟨sa, sc, rfl, si, b2⟩
                have h9 := HV9.out.trans (b2.mono HV9.out.size)
                obtain ⟨c0, c1⟩ := ((HG.out.below h9).box)
                have cpk := (HI.out.1 _ h9).1
                have hsv : sucZ g (v : Int) = suc g.es v := by
                  have hn9 : nodeG g (v : Int) = true := nodeG_iff.2 ⟨HV.out.1, by omega, by have := HM.out.2.2.2.2.1; omega⟩
                  unfold sucZ; rw [if_pos hn9, Int.toNat_natCast]
                rw [hsv] at si ⊢
                have HS := Lib.hid (And.intro h9 si)
                clear hsc b2 h9 si hsv
                go_wp2_with fail
                refine tail_mk ⟨c0, c1, cpk⟩ ?_
                clear c0 c1 cpk
                refine plan_alt rfl ?_ plan_stop
                go_wp2_with fail
                refine (in_any _ _ (hd : Int) V2 HS.out.2).mono ?_
                rintro e w' ⟨rfl, rfl⟩
                obtain ⟨b', hb'⟩ : ∃ b', b' = decide ((hd : Int) ∈ (suc g.es v).map fun x : Nat => (x : Int)) := ⟨_, rfl⟩
                rw [← hb']
                have HB' := Lib.hid hb'
                clear hb'
                go_wp2_with fail
                refine tail_mk (by obtain ⟨c0, c1⟩ := (HG.out.below HS.out.1).box; exact ⟨c0, c1, (HI.out.1 _ HS.out.1).1⟩) ?_
                repeat (
                  refine plan_take (v := ?_) rfl (Or.inl ⟨by rfl, ?_⟩) ?_
                  rotate_left
                  · (intro W hW; go_simp; try with_reducible rfl)
                  simp only [Act.put, List.setIfInBounds_toArray, List.getElem_toArray, List.getElem_cons_zero, List.getElem_cons_succ, List.set_cons_succ, List.set_cons_zero])
                refine plan_done ?_
                go_wp2_with fail
                go_roundw
                case rel => exact ⟨t + 1, b', by omega, by go_num, rfl, HS.out.1, fun j hj u hu he => by
                  by_cases ej : j = t
                  · subst ej
                    have hvu : v = u := by have := HM.out.2.2.2.1.symm.trans hu; omega
                    rw [HB'.out, decide_eq_true_eq]
                    exact List.mem_map.2 ⟨hd, by rw [hvu]; exact he, rfl⟩
                  · have := HC.out.2 j (by omega) u hu he; cases this⟩
                case measure => simp [intOf]; omega
              · go_upto_region 16 with fail
                go_quiet (fail)
                go_wp2_with fail
                go_roundw
                case rel => exact ⟨t + 1, true, by omega, by go_num, rfl, HZZ.out.trans ((qt_below (Qt.drewN _ _)).mono HZZ.out.size), fun _ _ _ _ _ => rfl⟩
                case measure => simp [intOf]; omega
          · obtain rfl : t = M.length := by omega
            have hb : b = true := by
              obtain ⟨s, hs⟩ := List.exists_mem_of_ne_nil _ (mem_headsTo.1 HI.out.2.2.2.2).2
              obtain ⟨n1, n2, -⟩ := start_node HV.out.1 HV.out.2.1 hs
              have hsn : s < g.n.toNat := pre_lt HV.out.1 (List.mem_filter.1 hs).1
              obtain ⟨j, hj, hje⟩ := mem_nth ((HI.out.2.2.1.2 (s : Int)).2 ⟨s, rfl, hsn, n2⟩)
              exact HC.out.2 j hj s hje n1
            subst hb
            go_wp2_with fail
            go_roundw
            case rel => exact ⟨i + 1, by omega, by go_num, HC.out.1⟩
            case measure => simp [intOf]; omega
      · obtain ⟨j, hj⟩ : ∃ j, i = j + 1 := ⟨i - 1, by omega⟩
        have q4 : decide ((i : Int) > 0) = true := decide_eq_true (by omega)
        have q4' : 0 < i := by omega
        have hjl : j < ls.length := by omega
        obtain ⟨hp, hhp⟩ : ∃ hp, hp = nth (headsTo g r g.n.toNat) j := ⟨_, rfl⟩
        obtain ⟨m1, m2, -⟩ := HLC.out j hjl
        rw [(H2.out.2.2.2.2 j (by rw [← HLEN.out]; exact hjl)).1, ← hhp] at m2
        have hlt9 : hp < hd := by
          have h9 := List.pairwise_iff_getElem.1 (headsTo_asc g r g.n.toNat) j i (by rw [← HLEN.out]; exact hjl) (by rw [← HLEN.out]; exact hlt) (by omega)
          rw [← nth_eq _ _ (by rw [← HLEN.out]; exact hjl), ← nth_eq _ _ (by rw [← HLEN.out]; exact hlt), ← hhp, ← HI.out.2.2.2.1] at h9
          exact h9
        have q5 : ¬ (hd : Int) ≤ (hp : Int) := by omega
        have q5' : ¬ hd ≤ hp := by omega
        have hw : IntKind.i64.wrap ((i : Int) - 1) = (j : Int) := by rw [show (i : Int) - 1 = (j : Int) by omega]; exact IntWalk.i64_in _ (by omega)
        have j2 := hli (j : Int) (by omega) (by omega)
        rw [Int.toNat_natCast] at j2
        obtain ⟨Cls, hCls⟩ : ∃ Cls : World → Prop, ∀ Z', Cls Z' ↔ Below wr.heap.size wr Z' := ⟨_, fun _ => Iff.rfl⟩
        have hC : Cls wr.drew := (hCls _).2 ((Below.refl _ _).drew)
        have k0 : ∀ q : Wd Cls, Below W2'.heap.size W2' q.val := fun q => bel_trans HB.out ((hCls _).1 q.ok)
        have e0 : ∀ q : Wd Cls, q.val.cell? ⟨blk la, ofs la + i * 2, none⟩ = some (.int .i64 (hd : Int)) := fun q => (HI.out.1 _ (k0 q)).1
        have e1 : ∀ q : Wd Cls, q.val.cell? ⟨blk la, ofs la + i * 2 + 1, none⟩ = some (.slice ra M.length rc) := fun q => (HI.out.1 _ (k0 q)).2
        have hin : decide ((hd : Int) ∈ M) = true := by
          rw [decide_eq_true_eq, HI.out.2.2.1.2]
          exact ⟨hd, rfl, (mem_headsTo.1 HI.out.2.2.2.2).1, .inl rfl⟩
        have f1 : ∀ q : Wd Cls, Calls Try.prog 12 #[.slice ra M.length rc, .int .i64 (hd : Int)] q.val fun e w'' => e = .returned (.bool true) ∧ ∃ q : Wd Cls, w'' = q.val := fun q => (in_any _ M (hd : Int) q.val (HI.out.2.1.below (k0 q))).mono fun _ _ ⟨h1, h2⟩ => ⟨by rw [h1, hin], q, h2⟩
        have F1 := Lib.hid f1
        have HK := Lib.hid k0
        have HCC := Lib.hid hC
        haveI hne : Nonempty (Wd Cls) := ⟨⟨_, hC⟩⟩
        clear f1 hin hCls hC
        have e2 : ∀ q : Wd Cls, q.val.cell? ⟨blk la, ofs la + j * 2, none⟩ = some (.int .i64 (hp : Int)) := fun q => by rw [(k0 q).cell (p := ⟨blk la, ofs la + j * 2, none⟩) m1]; exact m2
        clear hi0 hj hhp m1 m2 hlt9 hjl
        clear k0
        refine wp_region_class Cls (by kernel_rfl) (by kernel_rfl) HCC.out ?_
        repeat (go_big_quiet_step ((go_at_call 12; exact F1.out _)))
        refine wpQuiet_nil ?_
        rintro _ ⟨q9, rfl⟩
        clear e2 q4 q4' q5 q5' hw j2
        refine K_gen (fun Z => Below W2'.heap.size W2' Z) (HK.out q9) ?_
        intro V hV
        have HVV := Lib.hid hV
        clear hV e0 e1 HK HCC F1
        obtain ⟨d0, d1⟩ := HI.out.1 V HVV.out
        go_wp2_with fail
        clear d0 d1
        obtain ⟨V', hV'⟩ : ∃ Z, Z = V := ⟨_, rfl⟩
        have HV0 := Lib.hid (show Below W2'.heap.size W2' V from HVV.out)
        clear hV'
        go_loopw [8, 9] (fun bv x w2 => ∃ (k : Nat) (b : Bool), k ≤ M.length ∧ x = .int .i64 (k : Int) ∧ bv = .bool b ∧ Hid (Below W2'.heap.size W2' w2 ∧ ∀ j, j < k → ∀ v : Nat, nth M j = (v : Int) → hd ∈ suc g.es v → b = true)) (fun _ x _ => M.length - (intOf x).toNat)
        case atStart => exact ⟨0, false, by omega, rfl, rfl, HV0.out, fun j hj => by omega⟩
        case round =>
          obtain ⟨t, b, ht, rfl, rfl, hh⟩ := hrel
          have HC := Lib.hid hh.out
          clear hh
          obtain ⟨d0, d1⟩ := HI.out.1 wr HC.out.1
          by_cases htl : t < M.length
          · have htl' : (t : Int) < (M.length : Int) := by omega
            obtain ⟨ra', rc', he, hmm, hmi, hmc, hmb⟩ := HI.out.2.1.out1 sIntG
            simp only [Value.slice.injEq] at he
            obtain ⟨rfl, -, rfl⟩ := he
            obtain ⟨v, hv, hvn, hvq⟩ := (HI.out.2.2.1.2 (nth M t)).1 (nth_mem _ _ htl)
            have r1 : ∀ Z, Below W2'.heap.size W2' Z → Z.cell? ⟨blk ra, ofs ra + t, none⟩ = some (.int .i64 (v : Int)) := fun Z hZ => by
              rw [hZ.cell (p := ⟨blk ra, ofs ra + t, none⟩) (hmb t htl), hmc t htl, hv]
            have m1 := hmi .i64 (t : Int) (by omega) (by omega)
            rw [Int.toNat_natCast] at m1
            have HM := Lib.hid (And.intro hmc (And.intro hmb (And.intro r1 (And.intro hv (And.intro hvn hvq)))))
            have r2 := r1 wr HC.out.1
            clear hmc hmb r1 hv hvq
            go_upto_region 14 with fail
            by_cases ht0 : t = 0
            · have q6 : decide ((t : Int) > 0) = false := decide_eq_false (by omega)
              have q6' : ¬ 0 < t := by omega
              obtain ⟨Cls, hCls⟩ : ∃ Cls : World → Prop, ∀ Z', Cls Z' ↔ Below wr.heap.size wr Z' := ⟨_, fun _ => Iff.rfl⟩
              have hC : Cls wr.drew := (hCls _).2 ((Below.refl _ _).drew)
              have k0 : ∀ q : Wd Cls, Below W2'.heap.size W2' q.val := fun q => bel_trans HC.out.1 ((hCls _).1 q.ok)
              have e0 : ∀ q : Wd Cls, q.val.cell? ⟨blk la, ofs la + i * 2, none⟩ = some (.int .i64 (hd : Int)) := fun q => (HI.out.1 _ (k0 q)).1
              have e1 : ∀ q : Wd Cls, q.val.cell? ⟨blk la, ofs la + i * 2 + 1, none⟩ = some (.slice ra M.length rc) := fun q => (HI.out.1 _ (k0 q)).2
              have e2 : ∀ q : Wd Cls, q.val.cell? ⟨W.heap.size, 0, none⟩ = some (.int .i64 g.n) := fun q => ((HG.out.below (k0 q)).box).1
              have e4 : ∀ q : Wd Cls, q.val.cell? ⟨W.heap.size, 1, none⟩ = some (.slice ca g.es.length cc) := fun q => ((HG.out.below (k0 q)).box).2
              have hdm : domD g (r : Int) (hd : Int) (v : Int) = true := by
                have h9 : Go.Dm.Dom (dmC g r) v hd := by
                  rcases HM.out.2.2.2.2.2 with h | h
                  · rw [h]
                    obtain ⟨s, hs⟩ := List.exists_mem_of_ne_nil _ (mem_headsTo.1 HI.out.2.2.2.2).2
                    exact Go.Dm.Dom.refl (C := dmC g r) (start_node HV.out.1 HV.out.2.1 hs).2.2
                  · exact lpq_dom HV.out.1 HV.out.2.1 h
                exact (domD_iff HV.out.1 HV.out.2.1 HV.out.2.2).2 ⟨hd, v, rfl, rfl, h9⟩
              have f1 : ∀ q : Wd Cls, Calls Try.prog 13 #[.agg #[.int .i64 g.n, .slice ca g.es.length cc], .int .i64 (r : Int), .int .i64 (hd : Int), .int .i64 (v : Int)] q.val fun e w'' => e = .returned (.bool true) ∧ ∃ q : Wd Cls, w'' = q.val := fun q => class_bel (fun Z' hb => (hCls _).2 (bel_trans ((hCls _).1 q.ok) hb)) (by have h9 := dDominates_any g (.slice ca g.es.length cc) (r : Int) (hd : Int) (v : Int) q.val ((HG.out.below (k0 q)).es); rw [hdm] at h9; exact h9)
              have F1 := Lib.hid f1
              have HK := Lib.hid k0
              have HCC := Lib.hid hC
              haveI hne : Nonempty (Wd Cls) := ⟨⟨_, hC⟩⟩
              clear f1 hdm hCls hC
              clear ht0
              clear k0
              refine wp_region_class Cls (by kernel_rfl) (by kernel_rfl) HCC.out ?_
              repeat (go_big_quiet_step ((go_at_call 13; exact F1.out _)))
              refine wpQuiet_nil ?_
              rintro _ ⟨q9, rfl⟩
              clear q6 q6'
              refine K_gen (fun Z => Below W2'.heap.size W2' Z) (HK.out q9) ?_
              intro Z hZ
              have HZZ := Lib.hid hZ
              clear hZ e0 e1 e2 e4 HK HCC F1
              obtain ⟨d0, d1⟩ := HI.out.1 Z HZZ.out
              cases b
              · go_upto_region 16 with fail
                have h9 := HZZ.out.trans ((Below.refl Z.heap.size Z).drew.mono HZZ.out.size)
                have HV9 := Lib.hid h9
                obtain ⟨c0, c1⟩ := ((HG.out.below h9).box)
                have cpk := (HI.out.1 _ h9).1
                clear d0 d1 h9
                refine wp_region_plan (.take 0 (.take 1 (.take 2 (.take 3 (.take 5 (.take 6 (.take 7 (.take 8 (.take 9 (.alt 4 (.alt 10 (.take 11 (.take 12 .done)) .stop) .stop))))))))))
                  (fun w' => w'.cell? ⟨W.heap.size, 0, none⟩ = some (.int .i64 g.n) ∧ w'.cell? ⟨W.heap.size, 1, none⟩ = some (.slice ca g.es.length cc) ∧ w'.cell? ⟨blk la, ofs la + i * 2, none⟩ = some (.int .i64 (hd : Int))) (by kernel_rfl) (by kernel_rfl) (by kernel_rfl) (by kernel_rfl) ⟨c0, c1, cpk⟩ ?_
                generalize Z.drew = V at *
                clear c0 c1 cpk
                repeat (
                  refine plan_take (v := ?_) rfl (Or.inl ⟨by rfl, ?_⟩) ?_
                  rotate_left
                  · (intro W hW; obtain ⟨p1, p2, p3⟩ := hW; go_simp; try with_reducible rfl)
                  simp only [Act.put, List.setIfInBounds_toArray, List.getElem_toArray, List.getElem_cons_zero, List.getElem_cons_succ, List.set_cons_succ, List.set_cons_zero])
                refine plan_alt rfl ?_ plan_stop
                go_wp2_with fail
                have hsc := rSucc_any g (.slice ca g.es.length cc) (v : Int) V (HG.out.below HV9.out).es
                unfold GV at hsc
                refine hsc.mono ?_
                rintro e V2 ⟨sa, sc, rfl, si, b2⟩
                have h9 := HV9.out.trans (b2.mono HV9.out.size)
                obtain ⟨c0, c1⟩ := ((HG.out.below h9).box)
                have cpk := (HI.out.1 _ h9).1
                have hsv : sucZ g (v : Int) = suc g.es v := by
                  have hn9 : nodeG g (v : Int) = true := nodeG_iff.2 ⟨HV.out.1, by omega, by have := HM.out.2.2.2.2.1; omega⟩
                  unfold sucZ; rw [if_pos hn9, Int.toNat_natCast]
                rw [hsv] at si ⊢
                have HS := Lib.hid (And.intro h9 si)
                clear hsc b2 h9 si hsv
                go_wp2_with fail
                refine tail_mk ⟨c0, c1, cpk⟩ ?_
                clear c0 c1 cpk
                refine plan_alt rfl ?_ plan_stop
                go_wp2_with fail
                refine (in_any _ _ (hd : Int) V2 HS.out.2).mono ?_
                rintro e w' ⟨rfl, rfl⟩
                obtain ⟨b', hb'⟩ : ∃ b', b' = decide ((hd : Int) ∈ (suc g.es v).map fun x : Nat => (x : Int)) := ⟨_, rfl⟩
                rw [← hb']
                have HB' := Lib.hid hb'
                clear hb'
                go_wp2_with fail
                refine tail_mk (by obtain ⟨c0, c1⟩ := (HG.out.below HS.out.1).box; exact ⟨c0, c1, (HI.out.1 _ HS.out.1).1⟩) ?_
                repeat (
                  refine plan_take (v := ?_) rfl (Or.inl ⟨by rfl, ?_⟩) ?_
                  rotate_left
                  · (intro W hW; go_simp; try with_reducible rfl)
                  simp only [Act.put, List.setIfInBounds_toArray, List.getElem_toArray, List.getElem_cons_zero, List.getElem_cons_succ, List.set_cons_succ, List.set_cons_zero])
                refine plan_done ?_
                go_wp2_with fail
                go_roundw
                case rel => exact ⟨t + 1, b', by omega, by go_num, rfl, HS.out.1, fun j hj u hu he => by
                  by_cases ej : j = t
                  · subst ej
                    have hvu : v = u := by have := HM.out.2.2.2.1.symm.trans hu; omega
                    rw [HB'.out, decide_eq_true_eq]
                    exact List.mem_map.2 ⟨hd, by rw [hvu]; exact he, rfl⟩
                  · have := HC.out.2 j (by omega) u hu he; cases this⟩
                case measure => simp [intOf]; omega
              · go_upto_region 16 with fail
                go_quiet (fail)
                go_wp2_with fail
                go_roundw
                case rel => exact ⟨t + 1, true, by omega, by go_num, rfl, HZZ.out.trans ((qt_below (Qt.drewN _ _)).mono HZZ.out.size), fun _ _ _ _ _ => rfl⟩
                case measure => simp [intOf]; omega
            · obtain ⟨tt, htt⟩ : ∃ tt, t = tt + 1 := ⟨t - 1, by omega⟩
              have q6 : decide ((t : Int) > 0) = true := decide_eq_true (by omega)
              have q6' : 0 < t := by omega
              have htm : tt < M.length := by omega
              obtain ⟨vp, hvp, -, -⟩ := (HI.out.2.2.1.2 (nth M tt)).1 (nth_mem _ _ htm)
              have hlt9 : vp < v := by
                have h9 := List.pairwise_iff_getElem.1 HI.out.2.2.1.1 tt t htm htl (by omega)
                rw [← nth_eq _ _ htm, ← nth_eq _ _ htl, hvp, HM.out.2.2.2.1] at h9
                omega
              have q7 : ¬ (v : Int) ≤ (vp : Int) := by omega
              have q7' : ¬ v ≤ vp := by omega
              have hw : IntKind.i64.wrap ((t : Int) - 1) = (tt : Int) := by rw [show (t : Int) - 1 = (tt : Int) by omega]; exact IntWalk.i64_in _ (by omega)
              have m2 := hmi .i64 (tt : Int) (by omega) (by omega)
              rw [Int.toNat_natCast] at m2
              obtain ⟨Cls, hCls⟩ : ∃ Cls : World → Prop, ∀ Z', Cls Z' ↔ Below wr.heap.size wr Z' := ⟨_, fun _ => Iff.rfl⟩
              have hC : Cls wr.drew := (hCls _).2 ((Below.refl _ _).drew)
              have k0 : ∀ q : Wd Cls, Below W2'.heap.size W2' q.val := fun q => bel_trans HC.out.1 ((hCls _).1 q.ok)
              have e0 : ∀ q : Wd Cls, q.val.cell? ⟨blk la, ofs la + i * 2, none⟩ = some (.int .i64 (hd : Int)) := fun q => (HI.out.1 _ (k0 q)).1
              have e1 : ∀ q : Wd Cls, q.val.cell? ⟨blk la, ofs la + i * 2 + 1, none⟩ = some (.slice ra M.length rc) := fun q => (HI.out.1 _ (k0 q)).2
              have e2 : ∀ q : Wd Cls, q.val.cell? ⟨W.heap.size, 0, none⟩ = some (.int .i64 g.n) := fun q => ((HG.out.below (k0 q)).box).1
              have e4 : ∀ q : Wd Cls, q.val.cell? ⟨W.heap.size, 1, none⟩ = some (.slice ca g.es.length cc) := fun q => ((HG.out.below (k0 q)).box).2
              have hdm : domD g (r : Int) (hd : Int) (v : Int) = true := by
                have h9 : Go.Dm.Dom (dmC g r) v hd := by
                  rcases HM.out.2.2.2.2.2 with h | h
                  · rw [h]
                    obtain ⟨s, hs⟩ := List.exists_mem_of_ne_nil _ (mem_headsTo.1 HI.out.2.2.2.2).2
                    exact Go.Dm.Dom.refl (C := dmC g r) (start_node HV.out.1 HV.out.2.1 hs).2.2
                  · exact lpq_dom HV.out.1 HV.out.2.1 h
                exact (domD_iff HV.out.1 HV.out.2.1 HV.out.2.2).2 ⟨hd, v, rfl, rfl, h9⟩
              have f1 : ∀ q : Wd Cls, Calls Try.prog 13 #[.agg #[.int .i64 g.n, .slice ca g.es.length cc], .int .i64 (r : Int), .int .i64 (hd : Int), .int .i64 (v : Int)] q.val fun e w'' => e = .returned (.bool true) ∧ ∃ q : Wd Cls, w'' = q.val := fun q => class_bel (fun Z' hb => (hCls _).2 (bel_trans ((hCls _).1 q.ok) hb)) (by have h9 := dDominates_any g (.slice ca g.es.length cc) (r : Int) (hd : Int) (v : Int) q.val ((HG.out.below (k0 q)).es); rw [hdm] at h9; exact h9)
              have F1 := Lib.hid f1
              have HK := Lib.hid k0
              have HCC := Lib.hid hC
              haveI hne : Nonempty (Wd Cls) := ⟨⟨_, hC⟩⟩
              clear f1 hdm hCls hC
              have e3 : ∀ q : Wd Cls, q.val.cell? ⟨blk ra, ofs ra + tt, none⟩ = some (.int .i64 (vp : Int)) := fun q => by rw [(k0 q).cell (p := ⟨blk ra, ofs ra + tt, none⟩) (HM.out.2.1 tt htm), HM.out.1 tt htm, hvp]
              clear ht0 htt hvp hlt9
              clear k0
              refine wp_region_class Cls (by kernel_rfl) (by kernel_rfl) HCC.out ?_
              repeat (go_big_quiet_step ((go_at_call 13; exact F1.out _)))
              refine wpQuiet_nil ?_
              rintro _ ⟨q9, rfl⟩
              clear e3 q6 q6' q7 q7' hw m2
              refine K_gen (fun Z => Below W2'.heap.size W2' Z) (HK.out q9) ?_
              intro Z hZ
              have HZZ := Lib.hid hZ
              clear hZ e0 e1 e2 e4 HK HCC F1
              obtain ⟨d0, d1⟩ := HI.out.1 Z HZZ.out
              cases b
              · go_upto_region 16 with fail
                have h9 := HZZ.out.trans ((Below.refl Z.heap.size Z).drew.mono HZZ.out.size)
                have HV9 := Lib.hid h9
                obtain ⟨c0, c1⟩ := ((HG.out.below h9).box)
                have cpk := (HI.out.1 _ h9).1
                clear d0 d1 h9
                refine wp_region_plan (.take 0 (.take 1 (.take 2 (.take 3 (.take 5 (.take 6 (.take 7 (.take 8 (.take 9 (.alt 4 (.alt 10 (.take 11 (.take 12 .done)) .stop) .stop))))))))))
                  (fun w' => w'.cell? ⟨W.heap.size, 0, none⟩ = some (.int .i64 g.n) ∧ w'.cell? ⟨W.heap.size, 1, none⟩ = some (.slice ca g.es.length cc) ∧ w'.cell? ⟨blk la, ofs la + i * 2, none⟩ = some (.int .i64 (hd : Int))) (by kernel_rfl) (by kernel_rfl) (by kernel_rfl) (by kernel_rfl) ⟨c0, c1, cpk⟩ ?_
                generalize Z.drew = V at *
                clear c0 c1 cpk
                repeat (
                  refine plan_take (v := ?_) rfl (Or.inl ⟨by rfl, ?_⟩) ?_
                  rotate_left
                  · (intro W hW; obtain ⟨p1, p2, p3⟩ := hW; go_simp; try with_reducible rfl)
                  simp only [Act.put, List.setIfInBounds_toArray, List.getElem_toArray, List.getElem_cons_zero, List.getElem_cons_succ, List.set_cons_succ, List.set_cons_zero])
                refine plan_alt rfl ?_ plan_stop
                go_wp2_with fail
                have hsc := rSucc_any g (.slice ca g.es.length cc) (v : Int) V (HG.out.below HV9.out).es
                unfold GV at hsc
                refine hsc.mono ?_
                rintro e V2 ⟨sa, sc, rfl, si, b2⟩
                have h9 := HV9.out.trans (b2.mono HV9.out.size)
                obtain ⟨c0, c1⟩ := ((HG.out.below h9).box)
                have cpk := (HI.out.1 _ h9).1
                have hsv : sucZ g (v : Int) = suc g.es v := by
                  have hn9 : nodeG g (v : Int) = true := nodeG_iff.2 ⟨HV.out.1, by omega, by have := HM.out.2.2.2.2.1; omega⟩
                  unfold sucZ; rw [if_pos hn9, Int.toNat_natCast]
                rw [hsv] at si ⊢
                have HS := Lib.hid (And.intro h9 si)
                clear hsc b2 h9 si hsv
                go_wp2_with fail
                refine tail_mk ⟨c0, c1, cpk⟩ ?_
                clear c0 c1 cpk
                refine plan_alt rfl ?_ plan_stop
                go_wp2_with fail
                refine (in_any _ _ (hd : Int) V2 HS.out.2).mono ?_
                rintro e w' ⟨rfl, rfl⟩
                obtain ⟨b', hb'⟩ : ∃ b', b' = decide ((hd : Int) ∈ (suc g.es v).map fun x : Nat => (x : Int)) := ⟨_, rfl⟩
                rw [← hb']
                have HB' := Lib.hid hb'
                clear hb'
                go_wp2_with fail
                refine tail_mk (by obtain ⟨c0, c1⟩ := (HG.out.below HS.out.1).box; exact ⟨c0, c1, (HI.out.1 _ HS.out.1).1⟩) ?_
                repeat (
                  refine plan_take (v := ?_) rfl (Or.inl ⟨by rfl, ?_⟩) ?_
                  rotate_left
                  · (intro W hW; go_simp; try with_reducible rfl)
                  simp only [Act.put, List.setIfInBounds_toArray, List.getElem_toArray, List.getElem_cons_zero, List.getElem_cons_succ, List.set_cons_succ, List.set_cons_zero])
                refine plan_done ?_
                go_wp2_with fail
                go_roundw
                case rel => exact ⟨t + 1, b', by omega, by go_num, rfl, HS.out.1, fun j hj u hu he => by
                  by_cases ej : j = t
                  · subst ej
                    have hvu : v = u := by have := HM.out.2.2.2.1.symm.trans hu; omega
                    rw [HB'.out, decide_eq_true_eq]
                    exact List.mem_map.2 ⟨hd, by rw [hvu]; exact he, rfl⟩
                  · have := HC.out.2 j (by omega) u hu he; cases this⟩
                case measure => simp [intOf]; omega
              · go_upto_region 16 with fail
                go_quiet (fail)
                go_wp2_with fail
                go_roundw
                case rel => exact ⟨t + 1, true, by omega, by go_num, rfl, HZZ.out.trans ((qt_below (Qt.drewN _ _)).mono HZZ.out.size), fun _ _ _ _ _ => rfl⟩
                case measure => simp [intOf]; omega
          · obtain rfl : t = M.length := by omega
            have hb : b = true := by
              obtain ⟨s, hs⟩ := List.exists_mem_of_ne_nil _ (mem_headsTo.1 HI.out.2.2.2.2).2
              obtain ⟨n1, n2, -⟩ := start_node HV.out.1 HV.out.2.1 hs
              have hsn : s < g.n.toNat := pre_lt HV.out.1 (List.mem_filter.1 hs).1
              obtain ⟨j, hj, hje⟩ := mem_nth ((HI.out.2.2.1.2 (s : Int)).2 ⟨s, rfl, hsn, n2⟩)
              exact HC.out.2 j hj s hje n1
            subst hb
            go_wp2_with fail
            go_roundw
            case rel => exact ⟨i + 1, by omega, by go_num, HC.out.1⟩
            case measure => simp [intOf]; omega
    · obtain rfl : i = ls.length := by omega
      have HBZ := Lib.hid (bel_trans H2.out.2.1 HB.out)
      go_wp2_with fail
      refine (awake_any _).mono ?_
      rintro e Z ⟨rfl, b⟩
      have HB := Lib.hid (bel_trans HBZ.out b)
      go_wp2_with fail
      go_ret
      exact ⟨rfl, HB.out⟩
set_option maxRecDepth 100000 in
theorem DomHeads_lifted (os : Os) (started : os.Started) (H : Type) (enc : TypeId × Value → H) :
    ReturnsInHanded {} Try.checked os 3 .any (Rows.domHeadsSpec.pre6 enc Try.prog Try.f3 Rows.domHeadsRow.domain false) (Rows.domHeadsSpec.post enc Try.prog Try.f3 false true false false) := by
  refine returnsInHanded_of_change (C := Try.checked) own started (by kernel_rfl) Try.func3
    (ChangeSpec.witness6 (enc := enc) (C := Try.checked) false ⟨#[], #[.agg #[.int .i64 0, .slice none 0 0], .int .i64 0], []⟩ 8 (by kernel_rfl) (by kernel_rfl) (by kernel_rfl) (by kernel_rfl)) ?_
  intro W base args ds gs before hval0 hW hcnd _
  have hval : ∀ (j : Nat) t v, Try.f3.params[j]? = some t → args[j]? = some v → Value.okWide Try.prog W .any base t v := hval0
  have hW' := hW
  obtain ⟨p, q, hA0, hV, rfl, hfz, hnd⟩ := hW
  have hA : DataW.TrodAll enc Try.prog W 0 (fun _ => true) true Try.f3.params.toList args.toList ds p := hA0
  rw [Try.params3] at hA hval
  obtain ⟨v0, vs0, d0, ds0, p0, q0, hargs, rfl, rfl, h0, r0⟩ := trodAll_cons hA
  obtain ⟨v1, vs1, d1, ds1, p1, q1, rfl, rfl, rfl, h1, r1⟩ := trodAll_cons r0
  obtain ⟨rfl, rfl, rfl⟩ := trodAll_nil r1
  obtain rfl : args = #[v0, v1] := by cases args; simp_all
  obtain ⟨rfl, rfl⟩ := trodVars_none hV
  obtain ⟨c0, rfl, sz0⟩ := okWide_struct Try.underlying24 (hval 0 24 v0 rfl rfl)
  have k0 := h0
  obtain ⟨g0, cv0, eq0, hC0⟩ := graph_of_trod sz0 h0
  obtain rfl : c0 = #[.int .i64 g0.n, cv0] := by simpa [GV] using eq0
  have lt0 : ∀ x ∈ p0, x.block < W.heap.size := by obtain ⟨m, hm⟩ := k0; exact DataW.trod_lt m _ _ _ hm
  obtain ⟨a1, rfl, rfl, rfl, w1⟩ := open_int Try.underlying3 (hval 1 3 v1 rfl rfl) h1
  have b1 := bounds_i64 w1
  clear hA0 hval0
  refine (DomHeads_walk g0 cv0 a1 W hC0 b1).mono fun e W' ⟨he, bel⟩ => ?_
  subst he
  exact ⟨_, rfl, _, _, _, [], _, [], hW', trodAll_mk1 (shut_bool Try.underlying4 _), (trodAll_cons_mk (Below.trod laidOut (by kernel_rfl) (of_decide_eq_true (by kernel_rfl)) k0 bel lt0) (trodAll_cons_mk (shut_int Try.underlying3 w1) trodAll_mk0)), rfl, bel.frame _, fun h => by cases h⟩

/-- The given statement. -/
theorem DomHeads_holds : Rows.DomHeadsSaid :=
  OpenClaim.holds_of_wide 3 Try.f3 rfl rfl rfl rfl rfl rfl rfl ⟨rfl, rfl, rfl, rfl, rfl⟩ rfl rfl rfl rfl rfl (by kernel_rfl) Try.func3 (by kernel_rfl)
    (of_decide_eq_true (by kernel_rfl)) (by unfold Func.isWrapper; first | (rw [if_pos (by decide +kernel)]; kernel_rfl) | (rw [if_neg (by decide +kernel)]; exact ⟨rfl, rfl⟩))
    (fun os started H enc _ => DomHeads_lifted os started H enc)

end Go.Proofs.Ytlijimdkadobmaa
