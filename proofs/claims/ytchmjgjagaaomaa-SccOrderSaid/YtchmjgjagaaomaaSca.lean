/- Contract of Acyclic. -/
import Derived.Test.YtchmjgjagaaomaaScr
namespace Go.Proofs.Ytchmjgjagaaomaa
open Go.RowKit Go.Dfl Go.Gra Go.Tj
/-- What Acyclic asks. -/
def Acy (g : G) : Prop := gCode g = 0 ∧ (∀ e ∈ g.es, e.1 ≠ e.2) ∧ ∃ ls of, PartsAre g ls of ∧ (ls.length : Int) = g.n
def AcyR (g : G) (W : World) (e : Ending) (W' : World) : Prop := ∃ b, e = .returned (.bool b) ∧ (b = true ↔ Acy g) ∧ Below W.heap.size W W'
set_option maxHeartbeats 1600000 in
set_option maxRecDepth 100000 in
theorem gAcyclic_any (g : G) (cv : Value) (W : World) (h : Pairs W cv g.es) : Calls Try.prog 12 #[GV g cv] W (AcyR g W) := by
  obtain ⟨ca, cc, rfl, -, hci, hcc⟩ := pairs_rd h
  have hal := (Below.refl W.heap.size W).alloc (Nat.le_refl _) (.cells #[.int .i64 g.n, .slice ca g.es.length cc] 24)
  have H0 := Lib.hid (And.intro (h.below hal) (And.intro hal (BoxG.new W g.n (.slice ca g.es.length cc) 24)))
  have HCC := Lib.hid hcc
  clear h hal hcc
  unfold GV
  go_enter Try.func12, Try.ntmps12
  go_wp2_with fail
  have hck := gCheck_any g (.slice ca g.es.length cc) _ H0.out.1
  unfold GV at hck
  refine hck.mono ?_
  rintro e W1 ⟨rfl, r1⟩
  have H1 := Lib.hid (And.intro (H0.out.1.below r1) (And.intro (H0.out.2.1.trans (r1.mono H0.out.2.1.size)) (H0.out.2.2.below r1)))
  clear r1 hck
  obtain ⟨c0, c1⟩ := H1.out.2.2
  by_cases hc : gCode g = 0
  · have q0 : (gCode g != 0) = false := by simpa using hc
    have HV := Lib.hid (And.intro (gCode_ok.1 hc) hc)
    have hel := HV.out.1.len
    clear hc
    go_wp2_with fail
    clear q0
    go_loopw [11] (fun x wr => ∃ k : Nat, k ≤ g.es.length ∧ x = .int .i64 (k : Int) ∧ Hid (Below W1.heap.size W1 wr ∧ ∀ j, j < k → (nth g.es j).1 ≠ (nth g.es j).2)) (fun x _ => g.es.length - (intOf x).toNat)
    case atStart => exact ⟨0, by omega, rfl, Below.refl _ _, fun j hj => by omega⟩
    case round =>
      obtain ⟨k, hk, rfl, hh⟩ := hrel
      have HL := Lib.hid hh.out
      clear hh c0 c1
      by_cases hkl : k < g.es.length
      · have hkli : (k : Int) < (g.es.length : Int) := by omega
        obtain ⟨p0, p1⟩ := (HCC.out k hkl).2 wr (H1.out.2.1.trans (HL.out.1.mono H1.out.2.1.size))
        have j1 := hci (k : Int) (by omega) (by omega)
        rw [Int.toNat_natCast] at j1
        have hmem := nth_mem g.es k hkl
        obtain ⟨e, he⟩ : ∃ e, e = nth g.es k := ⟨_, rfl⟩
        rw [← he] at p0 p1 hmem
        obtain ⟨e1, e2⟩ := e
        dsimp only at p0 p1
        have HE := Lib.hid (And.intro he hmem)
        have hB := HL.out.1.alloc HL.out.1.size (.cells #[.int .i64 e1, .int .i64 e2] 35)
        have HB := Lib.hid hB
        clear he hmem hB
        by_cases hne : e1 = e2
        · have w1 : (e1 == e2) = true := by simpa using hne
          have HN : Hid (¬ Acy g) := Lib.hid (fun hA => hA.2.1 _ HE.out.2 hne)
          clear hne
          go_wp2_with fail
          go_ret
          exact ⟨true && false, rfl, by simpa using HN.out, H1.out.2.1.trans (HB.out.mono H1.out.2.1.size)⟩
        · have w1 : (e1 == e2) = false := by simpa using hne
          have HN := Lib.hid hne
          clear hne
          go_wp2_with fail
          go_roundw
          case rel => exact ⟨k + 1, by omega, by go_num, HB.out, fun j hj => by
            by_cases ej : j = k
            · subst ej; rw [← HE.out.1]; exact HN.out
            · exact HL.out.2 j (by omega)⟩
          case measure => simp [intOf]; omega
      · obtain rfl : k = g.es.length := by omega
        clear hkl hci
        go_upto_region 9 with fail
        have hdr : Below W1.heap.size W1 wr.drew := HL.out.1.drew
        have HD := Lib.hid (And.intro (H1.out.1.below hdr) (And.intro (H1.out.2.1.trans (hdr.mono H1.out.2.1.size)) (H1.out.2.2.below hdr)))
        clear hdr
        refine wp_region_plan (.take 0 (.take 4 (.take 5 (.alt 1 (.take 2 (.take 3 (.take 6 (.take 7 .done)))) .stop)))) (fun w' => BoxG w' W.heap.size g.n (.slice ca g.es.length cc)) (by kernel_rfl) (by kernel_rfl) (by kernel_rfl) (by kernel_rfl) HD.out.2.2 ?_
        generalize wr.drew = V1 at *
        repeat (
          refine plan_take (v := ?_) rfl (Or.inl ⟨by rfl, ?_⟩) ?_
          rotate_left
          · (intro W hW; obtain ⟨q1, q2⟩ := hW; go_simp; try with_reducible rfl)
          simp only [Act.put, List.setIfInBounds_toArray, List.getElem_toArray, List.getElem_cons_zero, List.getElem_cons_succ, List.set_cons_succ, List.set_cons_zero])
        refine plan_alt rfl ?_ plan_stop
        go_wp2_with fail
        have hsp := gSplit_any g (.slice ca g.es.length cc) V1 HD.out.1 HV.out.1
        unfold GV at hsp
        refine hsp.mono ?_
        rintro e W2 ⟨ls, of, lv, vs, ov, rfl, hpa, hl, ho, b2⟩
        obtain ⟨la, lc, rfl, hlm, -, -⟩ := rows_rd (OwnN.grid hl)
        have H2 := Lib.hid (And.intro hpa (And.intro (HD.out.2.1.trans (b2.mono HD.out.2.1.size)) (HD.out.2.2.below b2)))
        have hfld := parts0
        clear hpa hl ho b2 hsp
        go_wp2_with fail
        refine tail_mk H2.out.2.2 ?_
        repeat (
          refine plan_take (v := ?_) rfl (Or.inl ⟨by rfl, ?_⟩) ?_
          rotate_left
          · (intro W hW; go_simp; try with_reducible rfl)
          simp only [Act.put, List.setIfInBounds_toArray, List.getElem_toArray, List.getElem_cons_zero, List.getElem_cons_succ, List.set_cons_succ, List.set_cons_zero])
        refine plan_done ?_
        go_wp2_with fail
        go_ret
        refine ⟨_, rfl, ?_, H2.out.2.1⟩
        rw [beq_iff_eq]
        exact ⟨fun h9 => ⟨HV.out.2, fun e he => by
            obtain ⟨j, hj, rfl⟩ := mem_nth he
            exact HL.out.2 j hj, ls, of, H2.out.1, h9⟩, fun h9 => by
            obtain ⟨-, -, ls2, of2, k1, k2⟩ := h9
            rw [(H2.out.1.unique k1).1]; exact k2⟩
  · have q0 : (gCode g != 0) = true := by simpa using hc
    have HN : Hid (¬ Acy g) := Lib.hid (fun hA => hc hA.1)
    clear hc
    go_wp2_with fail
    go_ret
    exact ⟨false, rfl, by simpa using HN.out, H1.out.2.1⟩
end Go.Proofs.Ytchmjgjagaaomaa
