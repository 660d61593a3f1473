/- Contract of the reference's putPoint. -/
import Derived.Test.YtnklnklkblgnfaaObb
namespace Go.Proofs.Ytnklnklkblgnfaa
open Go.RowKit Go.Dfl Go.Gra Go.Obs Go.Sort Go.Maps
def PutPR (B : Nat) (l : List (Int × Int × Int)) (x : Int × Int × Int) (W : World) (e : Ending) (W' : World) : Prop := ∃ a c l', e = .returned (.slice a l'.length c) ∧ OwnE elP W' B 53 (.slice a l'.length c) l' ∧ l'.Pairwise lt3 ∧ (∀ y, y ∈ l' ↔ y ∈ l ∨ y = x) ∧ Below W.heap.size W W'
theorem OwnE.read {α : Type} [Inhabited α] {E : El α} {w : World} {base : Nat} {e : TypeId} {a : Option Addr} {c : Nat} {l : List α} (h : OwnE E w base e (.slice a l.length c) l) {P : Program} {t : TypeId} {z : Value} {by8 : Nat} (ht : SliceOf P t e z E.sz by8) :
    (∀ x : Int, 0 ≤ x → x < l.length → ∀ W, (Instr.indexAt t (.slice a l.length c) (.int .i64 x)).run P W = .ok (.pointer (some ⟨blk a, ofs a + x.toNat * E.sz, none⟩)) W) ∧
    ∀ i, i < l.length → blk a < w.heap.size ∧ ∀ j y, (E.c (nth l i))[j]? = some y → w.cell? ⟨blk a, ofs a + i * E.sz + j, none⟩ = some y := by
  obtain ⟨a', c', he, -, h1, h2, h3⟩ := Sliced.outN (OwnE.sliced h) ht E.pos
  simp only [Value.slice.injEq] at he
  obtain ⟨rfl, -, rfl⟩ := he
  refine ⟨fun x => h1 .i64 x, fun i hi => ⟨h3 i hi, fun j y hj => ?_⟩⟩
  have hjl : j < E.sz := by
    have := (List.getElem?_eq_some_iff.1 hj).1
    rwa [E.len] at this
  rw [h2 i hi j hjl, hj]; rfl
theorem two_ints (V : World) (p q : Int × Int × Int) (t1 t2 : TypeId) : Ints ((V.alloc (.cells #[.int .i64 p.1, .int .i64 p.2.1, .int .i64 p.2.2] t1)).alloc (.cells #[.int .i64 q.1, .int .i64 q.2.1, .int .i64 q.2.2] t2)) (.slice (some ⟨V.heap.size, 0, none⟩) 3 3) [p.1, p.2.1, p.2.2] ∧
    Ints ((V.alloc (.cells #[.int .i64 p.1, .int .i64 p.2.1, .int .i64 p.2.2] t1)).alloc (.cells #[.int .i64 q.1, .int .i64 q.2.1, .int .i64 q.2.2] t2)) (.slice (some ⟨V.heap.size + 1, 0, none⟩) 3 3) [q.1, q.2.1, q.2.2] := by
  have h1 : OwnI (V.alloc (.cells #[.int .i64 p.1, .int .i64 p.2.1, .int .i64 p.2.2] t1)) V.heap.size t1 (.slice (some ⟨V.heap.size, 0, none⟩) 3 3) [p.1, p.2.1, p.2.2] := World.ownsRow_lit (size := 1) V #[.int .i64 p.1, .int .i64 p.2.1, .int .i64 p.2.2] 3 (Nat.le_refl _) (by unfold maxLen; omega) rfl
  have h2 : OwnI ((V.alloc (.cells #[.int .i64 p.1, .int .i64 p.2.1, .int .i64 p.2.2] t1)).alloc (.cells #[.int .i64 q.1, .int .i64 q.2.1, .int .i64 q.2.2] t2)) (V.heap.size + 1) t2 (.slice (some ⟨(V.alloc (.cells #[.int .i64 p.1, .int .i64 p.2.1, .int .i64 p.2.2] t1)).heap.size, 0, none⟩) 3 3) [q.1, q.2.1, q.2.2] := World.ownsRow_lit (size := 1) _ #[.int .i64 q.1, .int .i64 q.2.1, .int .i64 q.2.2] 3 (by rw [World.size_alloc]; exact Nat.le_refl _) (by unfold maxLen; omega) rfl
  rw [World.size_alloc] at h2
  exact ⟨(h1.alloc _).lst, h2.lst⟩
set_option maxHeartbeats 3200000 in
set_option maxRecDepth 100000 in
theorem putPoint_any (B : Nat) (a : Option Addr) (c : Nat) (l : List (Int × Int × Int)) (x : Int × Int × Int) (W : World) (h : OwnE elP W B 53 (.slice a l.length c) l) (hs : l.Pairwise lt3) (hl : l.length ≤ 2000000) (hB : B ≤ W.heap.size) :
    Calls Try.prog 21 #[.slice a l.length c, pv x] W (PutPR B l x W) := by
  obtain ⟨x1, x2, x3⟩ := x
  have hal := (Below.refl W.heap.size W).alloc (Nat.le_refl _) (.cells #[.int .i64 x1, .int .i64 x2, .int .i64 x3] 53)
  have hbx := cells_new (W := W) (cs := [.int .i64 x1, .int .i64 x2, .int .i64 x3]) (t := 53) rfl
  have hown := h.grown (grownBy_alloc W (.cells #[.int .i64 x1, .int .i64 x2, .int .i64 x3] 53)) (by cases (Value.slice a l.length c).ownBlock <;> simp)
  have HS := Lib.hid hs
  clear h hs
  go_enter Try.func21, Try.ntmps21
  go_upto_region 1 with fail
  refine gen_code (fun Z => OwnE elP Z B 53 (.slice a l.length c) l ∧ Below W.heap.size W Z ∧ Z.cell? ⟨W.heap.size, 0, none⟩ = some (.int .i64 x1) ∧ Z.cell? ⟨W.heap.size, 1, none⟩ = some (.int .i64 x2) ∧ Z.cell? ⟨W.heap.size, 2, none⟩ = some (.int .i64 x3)) ⟨hown, hal, hbx 0 _ rfl, hbx 1 _ rfl, hbx 2 _ rfl⟩ ?_
  intro W1 hz
  obtain ⟨bx, hbx9⟩ : ∃ bx, bx = W.heap.size := ⟨_, rfl⟩
  rw [← hbx9] at hz ⊢
  obtain ⟨r1, r2⟩ := OwnE.read hz.1 sPf
  have H1 := Lib.hid (And.intro hz.1 (show Below W.heap.size W W1 by rw [← hbx9]; exact hz.2.1))
  have HX := Lib.hid hz.2.2
  have HR := Lib.hid (And.intro r1 r2)
  clear hal hbx hown hz hbx9 r1 r2
  go_wp2_with fail
  go_loopw [5] (fun y wr => ∃ n : Nat, n ≤ l.length ∧ y = .int .i64 (n : Int) ∧ Hid (Below W1.heap.size W1 wr ∧ ∀ j, j < n → lt3 (nth l j) (x1, x2, x3))) (fun y _ => l.length - (intOf y).toNat)
  case atStart => exact ⟨0, by omega, rfl, Below.refl _ _, fun j hj => by omega⟩
  case round =>
    obtain ⟨n, hn, rfl, hh⟩ := hrel
    have HL := Lib.hid hh.out
    clear hh
    have hcx : ∀ Z, Below wr.heap.size wr Z → Z.cell? ⟨bx, 0, none⟩ = some (.int .i64 x1) ∧ Z.cell? ⟨bx, 1, none⟩ = some (.int .i64 x2) ∧ Z.cell? ⟨bx, 2, none⟩ = some (.int .i64 x3) := fun Z hZ => by
      have hb := bel_trans HL.out.1 hZ
      exact ⟨(hb.cell (World.block_lt_of_cell? _ _ HX.out.1)).trans HX.out.1, (hb.cell (World.block_lt_of_cell? _ _ HX.out.2.1)).trans HX.out.2.1, (hb.cell (World.block_lt_of_cell? _ _ HX.out.2.2)).trans HX.out.2.2⟩
    have HCX := Lib.hid hcx
    clear hcx
    by_cases hnl : n < l.length
    · have hnli : (n : Int) < (l.length : Int) := by omega
      obtain ⟨hbl, hcl⟩ := HR.out.2 n hnl
      have j1 := HR.out.1 (n : Int) (by omega) (by omega)
      rw [Int.toNat_natCast, show elP.sz = 3 from rfl] at j1
      obtain ⟨y, hy⟩ : ∃ y, y = nth l n := ⟨_, rfl⟩
      rw [← hy] at hcl
      obtain ⟨y1, y2, y3⟩ := y
      have hcy : ∀ Z, Below wr.heap.size wr Z → (Z.cell? ⟨bx, 0, none⟩ = some (.int .i64 x1) ∧ Z.cell? ⟨bx, 1, none⟩ = some (.int .i64 x2) ∧ Z.cell? ⟨bx, 2, none⟩ = some (.int .i64 x3)) ∧ Z.cell? ⟨blk a, ofs a + n * 3, none⟩ = some (.int .i64 y1) ∧ Z.cell? ⟨blk a, ofs a + n * 3 + 1, none⟩ = some (.int .i64 y2) ∧ Z.cell? ⟨blk a, ofs a + n * 3 + 2, none⟩ = some (.int .i64 y3) := fun Z hZ => by
        have hb := bel_trans HL.out.1 hZ
        exact ⟨HCX.out Z hZ, (hb.cell (p := ⟨blk a, ofs a + n * 3, none⟩) hbl).trans (hcl 0 _ rfl), (hb.cell (p := ⟨blk a, ofs a + n * 3 + 1, none⟩) hbl).trans (hcl 1 _ rfl), (hb.cell (p := ⟨blk a, ofs a + n * 3 + 2, none⟩) hbl).trans (hcl 2 _ rfl)⟩
      have HSS := Lib.hid hcy
      have HY := Lib.hid hy
      clear hbl hcl hcy hy
      go_upto_region 2 with fail
      have hdr : Below wr.heap.size wr wr.drew := (Below.refl _ _).drew
      refine wp_region_plan (.take 0 (.take 1 (.take 2 (.take 3 (.take 4 (.take 5 (.take 6 (.take 7 (.take 8 (.take 9 (.take 10 (.take 11 (.take 12 (.take 13 (.take 14 (.take 15 (.take 16 (.take 17 (.take 18 (.take 19 (.take 21 (.take 22 (.take 23 (.take 24 (.take 25 (.take 26 (.alt 20 (.alt 27 (.alt 28 (.take 29 .done) .stop) .stop) (.alt 27 (.alt 20 (.alt 28 (.take 29 .done) .stop) .stop) .stop))))))))))))))))))))))))))))
        (fun w' => (w'.cell? ⟨bx, 0, none⟩ = some (.int .i64 x1) ∧ w'.cell? ⟨bx, 1, none⟩ = some (.int .i64 x2) ∧ w'.cell? ⟨bx, 2, none⟩ = some (.int .i64 x3)) ∧ w'.cell? ⟨blk a, ofs a + n * 3, none⟩ = some (.int .i64 y1) ∧ w'.cell? ⟨blk a, ofs a + n * 3 + 1, none⟩ = some (.int .i64 y2) ∧ w'.cell? ⟨blk a, ofs a + n * 3 + 2, none⟩ = some (.int .i64 y3)) (by kernel_rfl) (by kernel_rfl) (by kernel_rfl) (by kernel_rfl) (HSS.out _ hdr) ?_
      have HV := Lib.hid hdr
      clear hdr
      generalize wr.drew = V at *
      repeat (
        refine plan_take (v := ?_) rfl (Or.inl ⟨by rfl, ?_⟩) ?_
        rotate_left
        · (intro W hW; obtain ⟨⟨q1, q2, q3⟩, q4, q5, q6⟩ := hW; go_simp; try with_reducible rfl)
        simp only [Act.put, List.setIfInBounds_toArray, List.getElem_toArray, List.getElem_cons_zero, List.getElem_cons_succ, List.set_cons_succ, List.set_cons_zero])
      refine plan_alt rfl ?_ ?_
      · go_wp2_with fail
        refine tail_mk (HSS.out _ (HV.out.alloc HV.out.size _)) ?_
        refine plan_alt rfl ?_ plan_stop
        go_wp2_with fail
        refine tail_mk (HSS.out _ ((HV.out.alloc HV.out.size _).alloc (le_alloc _ HV.out.size) _)) ?_
        refine plan_alt rfl ?_ plan_stop
        have hti := two_ints V (y1, y2, y3) (x1, x2, x3) 3 3
        have HTI := Lib.hid hti
        have HBF := Lib.hid (before_any _ _ [y1, y2, y3] [x1, x2, x3] _ HTI.out.1 HTI.out.2 rfl)
        clear hti
        go_wp2_with fail
        refine HBF.out.mono ?_
        rintro e V3 ⟨rfl, q3⟩
        rw [bfB3 (y1, y2, y3) (x1, x2, x3)]
        have H3 := Lib.hid (((HV.out.alloc HV.out.size _).alloc (le_alloc _ HV.out.size) _).trans (q3.below _) : Below wr.heap.size wr V3)
        clear q3 HBF HTI
        obtain ⟨b, hb⟩ : ∃ b, b = decide (lt3 (y1, y2, y3) (x1, x2, x3)) := ⟨_, rfl⟩
        rw [← hb]
        have HB := Lib.hid hb
        clear hb
        go_wp2_with fail
        refine tail_mk (HSS.out _ H3.out) ?_
        repeat (
          refine plan_take (v := ?_) rfl (Or.inl ⟨by rfl, ?_⟩) ?_
          rotate_left
          · (intro W hW; obtain ⟨q1⟩ := hW; go_simp; try with_reducible rfl)
          simp only [Act.put, List.setIfInBounds_toArray, List.getElem_toArray, List.getElem_cons_zero, List.getElem_cons_succ, List.set_cons_succ, List.set_cons_zero])
        refine plan_done ?_
        cases b
        · go_wp2_with fail
          obtain ⟨⟨o1, o2, o3⟩, o4, o5, o6⟩ := HSS.out V3 H3.out
          have hxy : ¬ lt3 (y1, y2, y3) (x1, x2, x3) := of_decide_eq_false HB.out.symm
          have HBZ := Lib.hid (bel_trans HL.out.1 H3.out)
          by_cases he : (y1, y2, y3) = ((x1, x2, x3) : Int × Int × Int)
          · have HMX : Hid ((x1, x2, x3) ∈ l) := Lib.hid (by rw [← he, HY.out]; exact nth_mem _ _ hnl)
            simp only [Prod.mk.injEq] at he
            obtain ⟨rfl, rfl, rfl⟩ := he
            clear hxy
            go_quiet (fail)
            have HQ9 := Lib.hid (fun q : Nat => bel_trans HBZ.out (below_drewN (Below.refl V3.heap.size V3) q))
            go_wp2_with fail
            go_ret
            exact ⟨a, c, l, rfl, OwnE.grown H1.out.1 (grownBy_below (HQ9.out _)) (by cases (Value.slice a l.length c).ownBlock <;> simp), HS.out, fun y => ⟨.inl, fun h9 => h9.elim id (fun h9 => by rw [h9]; exact HMX.out)⟩, bel_trans H1.out.2 (HQ9.out _)⟩
          · have hn9 : lt3 (x1, x2, x3) (y1, y2, y3) := by
              rcases sto3.tri (y1, y2, y3) (x1, x2, x3) with h9 | h9 | h9
              · exact absurd h9 hxy
              · exact absurd h9 he
              · exact h9
            have HPA := Lib.hid (put_asc sto3 HS.out hn HL.out.2 (fun _ => by rw [← HY.out]; exact hn9))
            simp only [Prod.mk.injEq] at he
            clear hxy hn9
            rcases (by omega : y1 ≠ x1 ∨ (x1 = y1 ∧ y2 ≠ x2) ∨ (x1 = y1 ∧ x2 = y2 ∧ y3 ≠ x3)) with h9 | ⟨rfl, h9⟩ | ⟨rfl, rfl, h9⟩
            · have w9 : (y1 == x1) = false := by simpa using h9
              clear he h9
              go_quiet (fail)
              go_upto_region 6 with fail
              refine gen_code (fun Z => Below W1.heap.size W1 Z) (bel_trans HBZ.out (below_drewN (Below.refl _ _) _)) ?_
              intro Y0 hY0
              have hY := hY0.drew
              have hownY := OwnE.grown H1.out.1 (grownBy_below hY) (by cases (Value.slice a l.length c).ownBlock <;> simp)
              obtain ⟨u1, u2, s1, s2, hsrc⟩ := OwnE.cut sPf hownY n hn
              obtain ⟨Y, hYY⟩ : ∃ Y, Y = Y0.drew := ⟨_, rfl⟩
              rw [← hYY] at hY hownY
              have HCZ := Lib.hid (show ∀ Z, Below Y.heap.size Y Z → Z.cell? ⟨bx, 0, none⟩ = some (.int .i64 x1) ∧ Z.cell? ⟨bx, 1, none⟩ = some (.int .i64 x2) ∧ Z.cell? ⟨bx, 2, none⟩ = some (.int .i64 x3) from fun Z hZ => by
                have hb := bel_trans hY hZ
                exact ⟨(hb.cell (World.block_lt_of_cell? _ _ HX.out.1)).trans HX.out.1, (hb.cell (World.block_lt_of_cell? _ _ HX.out.2.1)).trans HX.out.2.1, (hb.cell (World.block_lt_of_cell? _ _ HX.out.2.2)).trans HX.out.2.2⟩)
              have HSR := Lib.hid (show ∀ Z, Below Y.heap.size Y Z → SrcE elP Z u1 (l.take n) ∧ SrcE elP Z u2 (l.drop n) from fun Z hZ => hsrc Z (OwnE.grown hownY (grownBy_below hZ) (by cases (Value.slice a l.length c).ownBlock <;> simp)))
              have HBY : Hid (Below W.heap.size W Y ∧ B ≤ Y.heap.size) := Lib.hid ⟨bel_trans H1.out.2 hY, by have := (bel_trans H1.out.2 hY).size; omega⟩
              have E0 : Hid (OwnE elP (Y.alloc (.cells #[] 53)) Y.heap.size 53 (.slice (some ⟨Y.heap.size, 0, none⟩) 0 0) [] ∧ Below Y.heap.size Y (Y.alloc (.cells #[] 53))) := Lib.hid ⟨ownE_empty0 rfl (Nat.le_refl _), (Below.refl _ _).alloc (Nat.le_refl _) _⟩
              have hcS := HCZ.out Y (Below.refl _ _)
              clear hY0 hY hownY hsrc
              refine wp_region_plan (.take 1 (.take 2 (.take 3 (.take 5 (.take 8 (.take 9 (.take 10 (.alt 0 (.alt 4 (.alt 6 (.alt 7 (.alt 11 (.take 12 .done) .stop) .stop) .stop) (.alt 6 (.alt 4 (.alt 7 (.alt 11 (.take 12 .done) .stop) .stop) .stop) .stop)) (.alt 6 (.alt 0 (.alt 4 (.alt 7 (.alt 11 (.take 12 .done) .stop) .stop) .stop) .stop) .stop)))))))))
                (fun w' => w'.cell? ⟨bx, 0, none⟩ = some (.int .i64 x1) ∧ w'.cell? ⟨bx, 1, none⟩ = some (.int .i64 x2) ∧ w'.cell? ⟨bx, 2, none⟩ = some (.int .i64 x3)) (by kernel_rfl) (by kernel_rfl) (by kernel_rfl) (by kernel_rfl) (by rw [← hYY]; exact hcS) ?_
              rw [← hYY]
              clear hYY hcS
              repeat (
                refine plan_take (v := ?_) rfl (Or.inl ⟨by rfl, ?_⟩) ?_
                rotate_left
                · (intro W hW; obtain ⟨q1, q2, q3⟩ := hW; go_simp; try with_reducible rfl)
                simp only [Act.put, List.setIfInBounds_toArray, List.getElem_toArray, List.getElem_cons_zero, List.getElem_cons_succ, List.set_cons_succ, List.set_cons_zero])
              refine plan_alt rfl ?_ ?_
              · go_wp2_with fail
                refine tail_mk (HCZ.out _ E0.out.2) ?_
                refine plan_alt rfl ?_ ?_
                · have hl4 : (([] : List (Int × Int × Int)).length + (l.take n).length) * 24 ≤ 140737488355328 := by rw [List.length_take]; simp; omega
                  have hm4 : ([] : List (Int × Int × Int)).length + (l.take n).length ≤ 1000000000000 := by rw [List.length_take]; simp; omega
                  have hz4 := E0.out.2.size
                  refine wp_appendSE (E := elP) (v := .slice (some ⟨Y.heap.size, 0, none⟩) 0 0) sPf rfl rfl _ _ rfl rfl rfl E0.out.1 (HSR.out _ E0.out.2).1 hl4 hm4 hz4 ?_
                  intro v4 w4 hown4 hgr4 hat4
                  rw [List.nil_append] at hown4
                  have H4 := Lib.hid (And.intro hown4 (And.intro (E0.out.2.grown hgr4 hz4 (fun q e9 => (OwnE.lt E0.out.1 q e9).1)) hgr4))
                  clear hown4 hgr4 hat4
                  go_wp2_with fail
                  refine tail_mk (HCZ.out _ H4.out.2.1) ?_
                  refine plan_alt rfl ?_ plan_stop
                  go_wp2_with fail
                  have hbl := H4.out.2.1.alloc H4.out.2.1.size (.cells #[.int .i64 x1, .int .i64 x2, .int .i64 x3] 53)
                  have how := OwnE.grown H4.out.1 (grownBy_alloc w4 (.cells #[.int .i64 x1, .int .i64 x2, .int .i64 x3] 53)) (by cases v4.ownBlock <;> simp)
                  have HT := Lib.hid (And.intro how (And.intro hbl (And.intro hbl.size (cells_new (W := w4) (cs := [.int .i64 x1, .int .i64 x2, .int .i64 x3]) (t := 53) rfl))))
                  clear hbl how
                  refine tail_mk (HCZ.out _ HT.out.2.1) ?_
                  refine plan_alt rfl ?_ plan_stop
                  have hln : (l.take n).length = n := by rw [List.length_take]; omega
                  have hlen1 : ((l.take n).length + 1) * 24 ≤ 140737488355328 := by omega
                  have hlen2 : (l.take n).length + 1 ≤ 1000000000000 := by omega
                  refine wp_appendE (E := elP) sPf rfl rfl _ _ rfl rfl w4.heap.size rfl HT.out.1 (x1, x2, x3) HT.out.2.2.2 hlen1 hlen2 HT.out.2.2.1 ?_
                  intro v7 w7 hown7 hgr7 hat7
                  have H7 := Lib.hid (And.intro hown7 (HT.out.2.1.grown hgr7 HT.out.2.2.1 (fun q e9 => (OwnE.lt HT.out.1 q e9).1)))
                  clear hown7 hgr7 hat7
                  go_wp2_with fail
                  refine tail_mk (HCZ.out _ H7.out.2) ?_
                  refine plan_alt rfl ?_ plan_stop
                  have hle1 : ((l.take n ++ [(x1, x2, x3)]).length + (l.drop n).length) * 24 ≤ 140737488355328 := by rw [List.length_append, List.length_drop, hln]; simp; omega
                  have hle2 : (l.take n ++ [(x1, x2, x3)]).length + (l.drop n).length ≤ 1000000000000 := by rw [List.length_append, List.length_drop, hln]; simp; omega
                  have hb7 := H7.out.2.size
                  refine wp_appendSE (E := elP) sPf rfl rfl _ _ rfl rfl rfl H7.out.1 (HSR.out _ H7.out.2).2 hle1 hle2 hb7 ?_
                  intro v8 w8 hown8 hgr8 hat8
                  obtain ⟨m8, hm8⟩ : ∃ m8, m8 = (l.take n ++ [(x1, x2, x3)] ++ l.drop n).length := ⟨_, rfl⟩
                  obtain ⟨s8, c8, rfl⟩ := hown8.shape hm8.symm
                  have H8 := Lib.hid (And.intro hown8 (And.intro (H7.out.2.grown hgr8 hb7 (fun q e9 => (OwnE.lt H7.out.1 q e9).1)) hm8))
                  clear hown8 hgr8 hat8 hm8
                  go_wp2_with fail
                  refine tail_mk (HCZ.out _ H8.out.2.1) ?_
                  repeat (
                    refine plan_take (v := ?_) rfl (Or.inl ⟨by rfl, ?_⟩) ?_
                    rotate_left
                    · (intro W hW; obtain ⟨q1⟩ := hW; go_simp; try with_reducible rfl)
                    simp only [Act.put, List.setIfInBounds_toArray, List.getElem_toArray, List.getElem_cons_zero, List.getElem_cons_succ, List.set_cons_succ, List.set_cons_zero])
                  refine plan_done ?_
                  go_wp2_with fail
                  go_ret
                  exact ⟨s8, c8, _, by rw [← H8.out.2.2]; rfl, by rw [← H8.out.2.2]; exact H8.out.1.mono9 HBY.out.2, HPA.out.1, HPA.out.2, bel_trans HBY.out.1 H8.out.2.1⟩
                · refine plan_alt rfl ?_ plan_stop
                  go_wp2_with fail
                  have hb6 := E0.out.2.alloc E0.out.2.size (.cells #[.int .i64 x1, .int .i64 x2, .int .i64 x3] 53)
                  have hc6 := cells_new (W := Y.alloc (.cells #[] 53)) (cs := [.int .i64 x1, .int .i64 x2, .int .i64 x3]) (t := 53) (B := Y.heap.size + 1) (by rw [World.size_alloc])
                  have E6 := Lib.hid (And.intro (OwnE.grown E0.out.1 (grownBy_alloc (Y.alloc (.cells #[] 53)) (.cells #[.int .i64 x1, .int .i64 x2, .int .i64 x3] 53)) (.inr (by simp [Value.ownBlock]))) (And.intro hb6 hc6))
                  clear hb6 hc6
                  refine tail_mk (HCZ.out _ E6.out.2.1) ?_
                  refine plan_alt rfl ?_ plan_stop
                  have hl4 : (([] : List (Int × Int × Int)).length + (l.take n).length) * 24 ≤ 140737488355328 := by rw [List.length_take]; simp; omega
                  have hm4 : ([] : List (Int × Int × Int)).length + (l.take n).length ≤ 1000000000000 := by rw [List.length_take]; simp; omega
                  have hz4 := E6.out.2.1.size
                  refine wp_appendSE (E := elP) (v := .slice (some ⟨Y.heap.size, 0, none⟩) 0 0) sPf rfl rfl _ _ rfl rfl rfl E6.out.1 (HSR.out _ E6.out.2.1).1 hl4 hm4 hz4 ?_
                  intro v4 w4 hown4 hgr4 hat4
                  rw [List.nil_append] at hown4
                  have H4 := Lib.hid (And.intro hown4 (And.intro (E6.out.2.1.grown hgr4 hz4 (fun q e9 => (OwnE.lt E6.out.1 q e9).1)) hgr4))
                  clear hown4 hgr4 hat4
                  go_wp2_with fail
                  refine tail_mk (HCZ.out _ H4.out.2.1) ?_
                  have HT := Lib.hid (show ∀ j y, [Value.int .i64 x1, .int .i64 x2, .int .i64 x3][j]? = some y → w4.cell? ⟨Y.heap.size + 1, j, none⟩ = some y from fun j y hj => H4.out.2.2.cell (E6.out.2.2 j y hj) (by simp [Value.ownBlock]))
                  refine plan_alt rfl ?_ plan_stop
                  have hln : (l.take n).length = n := by rw [List.length_take]; omega
                  have hlen1 : ((l.take n).length + 1) * 24 ≤ 140737488355328 := by omega
                  have hlen2 : (l.take n).length + 1 ≤ 1000000000000 := by omega
                  refine wp_appendE (E := elP) sPf rfl rfl _ _ rfl rfl (Y.heap.size + 1) rfl H4.out.1 (x1, x2, x3) HT.out hlen1 hlen2 H4.out.2.1.size ?_
                  intro v7 w7 hown7 hgr7 hat7
                  have H7 := Lib.hid (And.intro hown7 (H4.out.2.1.grown hgr7 H4.out.2.1.size (fun q e9 => (OwnE.lt H4.out.1 q e9).1)))
                  clear hown7 hgr7 hat7
                  go_wp2_with fail
                  refine tail_mk (HCZ.out _ H7.out.2) ?_
                  refine plan_alt rfl ?_ plan_stop
                  have hle1 : ((l.take n ++ [(x1, x2, x3)]).length + (l.drop n).length) * 24 ≤ 140737488355328 := by rw [List.length_append, List.length_drop, hln]; simp; omega
                  have hle2 : (l.take n ++ [(x1, x2, x3)]).length + (l.drop n).length ≤ 1000000000000 := by rw [List.length_append, List.length_drop, hln]; simp; omega
                  have hb7 := H7.out.2.size
                  refine wp_appendSE (E := elP) sPf rfl rfl _ _ rfl rfl rfl H7.out.1 (HSR.out _ H7.out.2).2 hle1 hle2 hb7 ?_
                  intro v8 w8 hown8 hgr8 hat8
                  obtain ⟨m8, hm8⟩ : ∃ m8, m8 = (l.take n ++ [(x1, x2, x3)] ++ l.drop n).length := ⟨_, rfl⟩
                  obtain ⟨s8, c8, rfl⟩ := hown8.shape hm8.symm
                  have H8 := Lib.hid (And.intro hown8 (And.intro (H7.out.2.grown hgr8 hb7 (fun q e9 => (OwnE.lt H7.out.1 q e9).1)) hm8))
                  clear hown8 hgr8 hat8 hm8
                  go_wp2_with fail
                  refine tail_mk (HCZ.out _ H8.out.2.1) ?_
                  repeat (
                    refine plan_take (v := ?_) rfl (Or.inl ⟨by rfl, ?_⟩) ?_
                    rotate_left
                    · (intro W hW; obtain ⟨q1⟩ := hW; go_simp; try with_reducible rfl)
                    simp only [Act.put, List.setIfInBounds_toArray, List.getElem_toArray, List.getElem_cons_zero, List.getElem_cons_succ, List.set_cons_succ, List.set_cons_zero])
                  refine plan_done ?_
                  go_wp2_with fail
                  go_ret
                  exact ⟨s8, c8, _, by rw [← H8.out.2.2]; rfl, by rw [← H8.out.2.2]; exact H8.out.1.mono9 HBY.out.2, HPA.out.1, HPA.out.2, bel_trans HBY.out.1 H8.out.2.1⟩
              · refine plan_alt rfl ?_ plan_stop
                go_wp2_with fail
                have hb6 := (Below.refl Y.heap.size Y).alloc (Nat.le_refl _) (.cells #[.int .i64 x1, .int .i64 x2, .int .i64 x3] 53)
                have hc6 := cells_new (W := Y) (cs := [.int .i64 x1, .int .i64 x2, .int .i64 x3]) (t := 53) rfl
                have E6 := Lib.hid (And.intro hb6 hc6)
                clear hb6 hc6
                refine tail_mk (HCZ.out _ E6.out.1) ?_
                refine plan_alt rfl ?_ plan_stop
                go_wp2_with fail
                have he7 := ownE_empty0 (E := elP) (w := Y.alloc (.cells #[.int .i64 x1, .int .i64 x2, .int .i64 x3] 53)) (base := Y.heap.size) (e := 53) (B := Y.heap.size + 1) (by rw [World.size_alloc]) (by rw [World.size_alloc]; omega)
                have hb7 := E6.out.1.alloc E6.out.1.size (.cells #[] 53)
                have hg7 := grownBy_alloc (Y.alloc (.cells #[.int .i64 x1, .int .i64 x2, .int .i64 x3] 53)) (.cells #[] 53)
                have E7 := Lib.hid (And.intro he7 (And.intro hb7 hg7))
                clear he7 hb7 hg7
                refine tail_mk (HCZ.out _ E7.out.2.1) ?_
                refine plan_alt rfl ?_ plan_stop
                have hl4 : (([] : List (Int × Int × Int)).length + (l.take n).length) * 24 ≤ 140737488355328 := by rw [List.length_take]; simp; omega
                have hm4 : ([] : List (Int × Int × Int)).length + (l.take n).length ≤ 1000000000000 := by rw [List.length_take]; simp; omega
                have hz4 := E7.out.2.1.size
                refine wp_appendSE (E := elP) (v := .slice (some ⟨Y.heap.size + 1, 0, none⟩) 0 0) sPf rfl rfl _ _ rfl rfl rfl E7.out.1 (HSR.out _ E7.out.2.1).1 hl4 hm4 hz4 ?_
                intro v4 w4 hown4 hgr4 hat4
                rw [List.nil_append] at hown4
                have H4 := Lib.hid (And.intro hown4 (And.intro (E7.out.2.1.grown hgr4 hz4 (fun q e9 => (OwnE.lt E7.out.1 q e9).1)) hgr4))
                clear hown4 hgr4 hat4
                go_wp2_with fail
                refine tail_mk (HCZ.out _ H4.out.2.1) ?_
                have HT := Lib.hid (show ∀ j y, [Value.int .i64 x1, .int .i64 x2, .int .i64 x3][j]? = some y → w4.cell? ⟨Y.heap.size, j, none⟩ = some y from fun j y hj => H4.out.2.2.cell (E7.out.2.2.cell (E6.out.2 j y hj) (by simp)) (by simp [Value.ownBlock]))
                refine plan_alt rfl ?_ plan_stop
                have hln : (l.take n).length = n := by rw [List.length_take]; omega
                have hlen1 : ((l.take n).length + 1) * 24 ≤ 140737488355328 := by omega
                have hlen2 : (l.take n).length + 1 ≤ 1000000000000 := by omega
                refine wp_appendE (E := elP) sPf rfl rfl _ _ rfl rfl Y.heap.size rfl H4.out.1 (x1, x2, x3) HT.out hlen1 hlen2 H4.out.2.1.size ?_
                intro v7 w7 hown7 hgr7 hat7
                have H7 := Lib.hid (And.intro hown7 (H4.out.2.1.grown hgr7 H4.out.2.1.size (fun q e9 => (OwnE.lt H4.out.1 q e9).1)))
                clear hown7 hgr7 hat7
                go_wp2_with fail
                refine tail_mk (HCZ.out _ H7.out.2) ?_
                refine plan_alt rfl ?_ plan_stop
                have hle1 : ((l.take n ++ [(x1, x2, x3)]).length + (l.drop n).length) * 24 ≤ 140737488355328 := by rw [List.length_append, List.length_drop, hln]; simp; omega
                have hle2 : (l.take n ++ [(x1, x2, x3)]).length + (l.drop n).length ≤ 1000000000000 := by rw [List.length_append, List.length_drop, hln]; simp; omega
                have hb7 := H7.out.2.size
                refine wp_appendSE (E := elP) sPf rfl rfl _ _ rfl rfl rfl H7.out.1 (HSR.out _ H7.out.2).2 hle1 hle2 hb7 ?_
                intro v8 w8 hown8 hgr8 hat8
                obtain ⟨m8, hm8⟩ : ∃ m8, m8 = (l.take n ++ [(x1, x2, x3)] ++ l.drop n).length := ⟨_, rfl⟩
                obtain ⟨s8, c8, rfl⟩ := hown8.shape hm8.symm
                have H8 := Lib.hid (And.intro hown8 (And.intro (H7.out.2.grown hgr8 hb7 (fun q e9 => (OwnE.lt H7.out.1 q e9).1)) hm8))
                clear hown8 hgr8 hat8 hm8
                go_wp2_with fail
                refine tail_mk (HCZ.out _ H8.out.2.1) ?_
                repeat (
                  refine plan_take (v := ?_) rfl (Or.inl ⟨by rfl, ?_⟩) ?_
                  rotate_left
                  · (intro W hW; obtain ⟨q1⟩ := hW; go_simp; try with_reducible rfl)
                  simp only [Act.put, List.setIfInBounds_toArray, List.getElem_toArray, List.getElem_cons_zero, List.getElem_cons_succ, List.set_cons_succ, List.set_cons_zero])
                refine plan_done ?_
                go_wp2_with fail
                go_ret
                exact ⟨s8, c8, _, by rw [← H8.out.2.2]; rfl, by rw [← H8.out.2.2]; exact H8.out.1.mono9 HBY.out.2, HPA.out.1, HPA.out.2, bel_trans HBY.out.1 H8.out.2.1⟩
            · have w9 : (y2 == x2) = false := by simpa using h9
              clear he h9
              go_quiet (fail)
              go_upto_region 6 with fail
              refine gen_code (fun Z => Below W1.heap.size W1 Z) (bel_trans HBZ.out (below_drewN (Below.refl _ _) _)) ?_
              intro Y0 hY0
              have hY := hY0.drew
              have hownY := OwnE.grown H1.out.1 (grownBy_below hY) (by cases (Value.slice a l.length c).ownBlock <;> simp)
              obtain ⟨u1, u2, s1, s2, hsrc⟩ := OwnE.cut sPf hownY n hn
              obtain ⟨Y, hYY⟩ : ∃ Y, Y = Y0.drew := ⟨_, rfl⟩
              rw [← hYY] at hY hownY
              have HCZ := Lib.hid (show ∀ Z, Below Y.heap.size Y Z → Z.cell? ⟨bx, 0, none⟩ = some (.int .i64 x1) ∧ Z.cell? ⟨bx, 1, none⟩ = some (.int .i64 x2) ∧ Z.cell? ⟨bx, 2, none⟩ = some (.int .i64 x3) from fun Z hZ => by
                have hb := bel_trans hY hZ
                exact ⟨(hb.cell (World.block_lt_of_cell? _ _ HX.out.1)).trans HX.out.1, (hb.cell (World.block_lt_of_cell? _ _ HX.out.2.1)).trans HX.out.2.1, (hb.cell (World.block_lt_of_cell? _ _ HX.out.2.2)).trans HX.out.2.2⟩)
              have HSR := Lib.hid (show ∀ Z, Below Y.heap.size Y Z → SrcE elP Z u1 (l.take n) ∧ SrcE elP Z u2 (l.drop n) from fun Z hZ => hsrc Z (OwnE.grown hownY (grownBy_below hZ) (by cases (Value.slice a l.length c).ownBlock <;> simp)))
              have HBY : Hid (Below W.heap.size W Y ∧ B ≤ Y.heap.size) := Lib.hid ⟨bel_trans H1.out.2 hY, by have := (bel_trans H1.out.2 hY).size; omega⟩
              have E0 : Hid (OwnE elP (Y.alloc (.cells #[] 53)) Y.heap.size 53 (.slice (some ⟨Y.heap.size, 0, none⟩) 0 0) [] ∧ Below Y.heap.size Y (Y.alloc (.cells #[] 53))) := Lib.hid ⟨ownE_empty0 rfl (Nat.le_refl _), (Below.refl _ _).alloc (Nat.le_refl _) _⟩
              have hcS := HCZ.out Y (Below.refl _ _)
              clear hY0 hY hownY hsrc
              refine wp_region_plan (.take 1 (.take 2 (.take 3 (.take 5 (.take 8 (.take 9 (.take 10 (.alt 0 (.alt 4 (.alt 6 (.alt 7 (.alt 11 (.take 12 .done) .stop) .stop) .stop) (.alt 6 (.alt 4 (.alt 7 (.alt 11 (.take 12 .done) .stop) .stop) .stop) .stop)) (.alt 6 (.alt 0 (.alt 4 (.alt 7 (.alt 11 (.take 12 .done) .stop) .stop) .stop) .stop) .stop)))))))))
                (fun w' => w'.cell? ⟨bx, 0, none⟩ = some (.int .i64 x1) ∧ w'.cell? ⟨bx, 1, none⟩ = some (.int .i64 x2) ∧ w'.cell? ⟨bx, 2, none⟩ = some (.int .i64 x3)) (by kernel_rfl) (by kernel_rfl) (by kernel_rfl) (by kernel_rfl) (by rw [← hYY]; exact hcS) ?_
              rw [← hYY]
              clear hYY hcS
              repeat (
                refine plan_take (v := ?_) rfl (Or.inl ⟨by rfl, ?_⟩) ?_
                rotate_left
                · (intro W hW; obtain ⟨q1, q2, q3⟩ := hW; go_simp; try with_reducible rfl)
                simp only [Act.put, List.setIfInBounds_toArray, List.getElem_toArray, List.getElem_cons_zero, List.getElem_cons_succ, List.set_cons_succ, List.set_cons_zero])
              refine plan_alt rfl ?_ ?_
              · go_wp2_with fail
                refine tail_mk (HCZ.out _ E0.out.2) ?_
                refine plan_alt rfl ?_ ?_
                · have hl4 : (([] : List (Int × Int × Int)).length + (l.take n).length) * 24 ≤ 140737488355328 := by rw [List.length_take]; simp; omega
                  have hm4 : ([] : List (Int × Int × Int)).length + (l.take n).length ≤ 1000000000000 := by rw [List.length_take]; simp; omega
                  have hz4 := E0.out.2.size
                  refine wp_appendSE (E := elP) (v := .slice (some ⟨Y.heap.size, 0, none⟩) 0 0) sPf rfl rfl _ _ rfl rfl rfl E0.out.1 (HSR.out _ E0.out.2).1 hl4 hm4 hz4 ?_
                  intro v4 w4 hown4 hgr4 hat4
                  rw [List.nil_append] at hown4
                  have H4 := Lib.hid (And.intro hown4 (And.intro (E0.out.2.grown hgr4 hz4 (fun q e9 => (OwnE.lt E0.out.1 q e9).1)) hgr4))
                  clear hown4 hgr4 hat4
                  go_wp2_with fail
                  refine tail_mk (HCZ.out _ H4.out.2.1) ?_
                  refine plan_alt rfl ?_ plan_stop
                  go_wp2_with fail
                  have hbl := H4.out.2.1.alloc H4.out.2.1.size (.cells #[.int .i64 x1, .int .i64 x2, .int .i64 x3] 53)
                  have how := OwnE.grown H4.out.1 (grownBy_alloc w4 (.cells #[.int .i64 x1, .int .i64 x2, .int .i64 x3] 53)) (by cases v4.ownBlock <;> simp)
                  have HT := Lib.hid (And.intro how (And.intro hbl (And.intro hbl.size (cells_new (W := w4) (cs := [.int .i64 x1, .int .i64 x2, .int .i64 x3]) (t := 53) rfl))))
                  clear hbl how
                  refine tail_mk (HCZ.out _ HT.out.2.1) ?_
                  refine plan_alt rfl ?_ plan_stop
                  have hln : (l.take n).length = n := by rw [List.length_take]; omega
                  have hlen1 : ((l.take n).length + 1) * 24 ≤ 140737488355328 := by omega
                  have hlen2 : (l.take n).length + 1 ≤ 1000000000000 := by omega
                  refine wp_appendE (E := elP) sPf rfl rfl _ _ rfl rfl w4.heap.size rfl HT.out.1 (x1, x2, x3) HT.out.2.2.2 hlen1 hlen2 HT.out.2.2.1 ?_
                  intro v7 w7 hown7 hgr7 hat7
                  have H7 := Lib.hid (And.intro hown7 (HT.out.2.1.grown hgr7 HT.out.2.2.1 (fun q e9 => (OwnE.lt HT.out.1 q e9).1)))
                  clear hown7 hgr7 hat7
                  go_wp2_with fail
                  refine tail_mk (HCZ.out _ H7.out.2) ?_
                  refine plan_alt rfl ?_ plan_stop
                  have hle1 : ((l.take n ++ [(x1, x2, x3)]).length + (l.drop n).length) * 24 ≤ 140737488355328 := by rw [List.length_append, List.length_drop, hln]; simp; omega
                  have hle2 : (l.take n ++ [(x1, x2, x3)]).length + (l.drop n).length ≤ 1000000000000 := by rw [List.length_append, List.length_drop, hln]; simp; omega
                  have hb7 := H7.out.2.size
                  refine wp_appendSE (E := elP) sPf rfl rfl _ _ rfl rfl rfl H7.out.1 (HSR.out _ H7.out.2).2 hle1 hle2 hb7 ?_
                  intro v8 w8 hown8 hgr8 hat8
                  obtain ⟨m8, hm8⟩ : ∃ m8, m8 = (l.take n ++ [(x1, x2, x3)] ++ l.drop n).length := ⟨_, rfl⟩
                  obtain ⟨s8, c8, rfl⟩ := hown8.shape hm8.symm
                  have H8 := Lib.hid (And.intro hown8 (And.intro (H7.out.2.grown hgr8 hb7 (fun q e9 => (OwnE.lt H7.out.1 q e9).1)) hm8))
                  clear hown8 hgr8 hat8 hm8
                  go_wp2_with fail
                  refine tail_mk (HCZ.out _ H8.out.2.1) ?_
                  repeat (
                    refine plan_take (v := ?_) rfl (Or.inl ⟨by rfl, ?_⟩) ?_
                    rotate_left
                    · (intro W hW; obtain ⟨q1⟩ := hW; go_simp; try with_reducible rfl)
                    simp only [Act.put, List.setIfInBounds_toArray, List.getElem_toArray, List.getElem_cons_zero, List.getElem_cons_succ, List.set_cons_succ, List.set_cons_zero])
                  refine plan_done ?_
                  go_wp2_with fail
                  go_ret
                  exact ⟨s8, c8, _, by rw [← H8.out.2.2]; rfl, by rw [← H8.out.2.2]; exact H8.out.1.mono9 HBY.out.2, HPA.out.1, HPA.out.2, bel_trans HBY.out.1 H8.out.2.1⟩
                · refine plan_alt rfl ?_ plan_stop
                  go_wp2_with fail
                  have hb6 := E0.out.2.alloc E0.out.2.size (.cells #[.int .i64 x1, .int .i64 x2, .int .i64 x3] 53)
                  have hc6 := cells_new (W := Y.alloc (.cells #[] 53)) (cs := [.int .i64 x1, .int .i64 x2, .int .i64 x3]) (t := 53) (B := Y.heap.size + 1) (by rw [World.size_alloc])
                  have E6 := Lib.hid (And.intro (OwnE.grown E0.out.1 (grownBy_alloc (Y.alloc (.cells #[] 53)) (.cells #[.int .i64 x1, .int .i64 x2, .int .i64 x3] 53)) (.inr (by simp [Value.ownBlock]))) (And.intro hb6 hc6))
                  clear hb6 hc6
                  refine tail_mk (HCZ.out _ E6.out.2.1) ?_
                  refine plan_alt rfl ?_ plan_stop
                  have hl4 : (([] : List (Int × Int × Int)).length + (l.take n).length) * 24 ≤ 140737488355328 := by rw [List.length_take]; simp; omega
                  have hm4 : ([] : List (Int × Int × Int)).length + (l.take n).length ≤ 1000000000000 := by rw [List.length_take]; simp; omega
                  have hz4 := E6.out.2.1.size
                  refine wp_appendSE (E := elP) (v := .slice (some ⟨Y.heap.size, 0, none⟩) 0 0) sPf rfl rfl _ _ rfl rfl rfl E6.out.1 (HSR.out _ E6.out.2.1).1 hl4 hm4 hz4 ?_
                  intro v4 w4 hown4 hgr4 hat4
                  rw [List.nil_append] at hown4
                  have H4 := Lib.hid (And.intro hown4 (And.intro (E6.out.2.1.grown hgr4 hz4 (fun q e9 => (OwnE.lt E6.out.1 q e9).1)) hgr4))
                  clear hown4 hgr4 hat4
                  go_wp2_with fail
                  refine tail_mk (HCZ.out _ H4.out.2.1) ?_
                  have HT := Lib.hid (show ∀ j y, [Value.int .i64 x1, .int .i64 x2, .int .i64 x3][j]? = some y → w4.cell? ⟨Y.heap.size + 1, j, none⟩ = some y from fun j y hj => H4.out.2.2.cell (E6.out.2.2 j y hj) (by simp [Value.ownBlock]))
                  refine plan_alt rfl ?_ plan_stop
                  have hln : (l.take n).length = n := by rw [List.length_take]; omega
                  have hlen1 : ((l.take n).length + 1) * 24 ≤ 140737488355328 := by omega
                  have hlen2 : (l.take n).length + 1 ≤ 1000000000000 := by omega
                  refine wp_appendE (E := elP) sPf rfl rfl _ _ rfl rfl (Y.heap.size + 1) rfl H4.out.1 (x1, x2, x3) HT.out hlen1 hlen2 H4.out.2.1.size ?_
                  intro v7 w7 hown7 hgr7 hat7
                  have H7 := Lib.hid (And.intro hown7 (H4.out.2.1.grown hgr7 H4.out.2.1.size (fun q e9 => (OwnE.lt H4.out.1 q e9).1)))
                  clear hown7 hgr7 hat7
                  go_wp2_with fail
                  refine tail_mk (HCZ.out _ H7.out.2) ?_
                  refine plan_alt rfl ?_ plan_stop
                  have hle1 : ((l.take n ++ [(x1, x2, x3)]).length + (l.drop n).length) * 24 ≤ 140737488355328 := by rw [List.length_append, List.length_drop, hln]; simp; omega
                  have hle2 : (l.take n ++ [(x1, x2, x3)]).length + (l.drop n).length ≤ 1000000000000 := by rw [List.length_append, List.length_drop, hln]; simp; omega
                  have hb7 := H7.out.2.size
                  refine wp_appendSE (E := elP) sPf rfl rfl _ _ rfl rfl rfl H7.out.1 (HSR.out _ H7.out.2).2 hle1 hle2 hb7 ?_
                  intro v8 w8 hown8 hgr8 hat8
                  obtain ⟨m8, hm8⟩ : ∃ m8, m8 = (l.take n ++ [(x1, x2, x3)] ++ l.drop n).length := ⟨_, rfl⟩
                  obtain ⟨s8, c8, rfl⟩ := hown8.shape hm8.symm
                  have H8 := Lib.hid (And.intro hown8 (And.intro (H7.out.2.grown hgr8 hb7 (fun q e9 => (OwnE.lt H7.out.1 q e9).1)) hm8))
                  clear hown8 hgr8 hat8 hm8
                  go_wp2_with fail
                  refine tail_mk (HCZ.out _ H8.out.2.1) ?_
                  repeat (
                    refine plan_take (v := ?_) rfl (Or.inl ⟨by rfl, ?_⟩) ?_
                    rotate_left
                    · (intro W hW; obtain ⟨q1⟩ := hW; go_simp; try with_reducible rfl)
                    simp only [Act.put, List.setIfInBounds_toArray, List.getElem_toArray, List.getElem_cons_zero, List.getElem_cons_succ, List.set_cons_succ, List.set_cons_zero])
                  refine plan_done ?_
                  go_wp2_with fail
                  go_ret
                  exact ⟨s8, c8, _, by rw [← H8.out.2.2]; rfl, by rw [← H8.out.2.2]; exact H8.out.1.mono9 HBY.out.2, HPA.out.1, HPA.out.2, bel_trans HBY.out.1 H8.out.2.1⟩
              · refine plan_alt rfl ?_ plan_stop
                go_wp2_with fail
                have hb6 := (Below.refl Y.heap.size Y).alloc (Nat.le_refl _) (.cells #[.int .i64 x1, .int .i64 x2, .int .i64 x3] 53)
                have hc6 := cells_new (W := Y) (cs := [.int .i64 x1, .int .i64 x2, .int .i64 x3]) (t := 53) rfl
                have E6 := Lib.hid (And.intro hb6 hc6)
                clear hb6 hc6
                refine tail_mk (HCZ.out _ E6.out.1) ?_
                refine plan_alt rfl ?_ plan_stop
                go_wp2_with fail
                have he7 := ownE_empty0 (E := elP) (w := Y.alloc (.cells #[.int .i64 x1, .int .i64 x2, .int .i64 x3] 53)) (base := Y.heap.size) (e := 53) (B := Y.heap.size + 1) (by rw [World.size_alloc]) (by rw [World.size_alloc]; omega)
                have hb7 := E6.out.1.alloc E6.out.1.size (.cells #[] 53)
                have hg7 := grownBy_alloc (Y.alloc (.cells #[.int .i64 x1, .int .i64 x2, .int .i64 x3] 53)) (.cells #[] 53)
                have E7 := Lib.hid (And.intro he7 (And.intro hb7 hg7))
                clear he7 hb7 hg7
                refine tail_mk (HCZ.out _ E7.out.2.1) ?_
                refine plan_alt rfl ?_ plan_stop
                have hl4 : (([] : List (Int × Int × Int)).length + (l.take n).length) * 24 ≤ 140737488355328 := by rw [List.length_take]; simp; omega
                have hm4 : ([] : List (Int × Int × Int)).length + (l.take n).length ≤ 1000000000000 := by rw [List.length_take]; simp; omega
                have hz4 := E7.out.2.1.size
                refine wp_appendSE (E := elP) (v := .slice (some ⟨Y.heap.size + 1, 0, none⟩) 0 0) sPf rfl rfl _ _ rfl rfl rfl E7.out.1 (HSR.out _ E7.out.2.1).1 hl4 hm4 hz4 ?_
                intro v4 w4 hown4 hgr4 hat4
                rw [List.nil_append] at hown4
                have H4 := Lib.hid (And.intro hown4 (And.intro (E7.out.2.1.grown hgr4 hz4 (fun q e9 => (OwnE.lt E7.out.1 q e9).1)) hgr4))
                clear hown4 hgr4 hat4
                go_wp2_with fail
                refine tail_mk (HCZ.out _ H4.out.2.1) ?_
                have HT := Lib.hid (show ∀ j y, [Value.int .i64 x1, .int .i64 x2, .int .i64 x3][j]? = some y → w4.cell? ⟨Y.heap.size, j, none⟩ = some y from fun j y hj => H4.out.2.2.cell (E7.out.2.2.cell (E6.out.2 j y hj) (by simp)) (by simp [Value.ownBlock]))
                refine plan_alt rfl ?_ plan_stop
                have hln : (l.take n).length = n := by rw [List.length_take]; omega
                have hlen1 : ((l.take n).length + 1) * 24 ≤ 140737488355328 := by omega
                have hlen2 : (l.take n).length + 1 ≤ 1000000000000 := by omega
                refine wp_appendE (E := elP) sPf rfl rfl _ _ rfl rfl Y.heap.size rfl H4.out.1 (x1, x2, x3) HT.out hlen1 hlen2 H4.out.2.1.size ?_
                intro v7 w7 hown7 hgr7 hat7
                have H7 := Lib.hid (And.intro hown7 (H4.out.2.1.grown hgr7 H4.out.2.1.size (fun q e9 => (OwnE.lt H4.out.1 q e9).1)))
                clear hown7 hgr7 hat7
                go_wp2_with fail
                refine tail_mk (HCZ.out _ H7.out.2) ?_
                refine plan_alt rfl ?_ plan_stop
                have hle1 : ((l.take n ++ [(x1, x2, x3)]).length + (l.drop n).length) * 24 ≤ 140737488355328 := by rw [List.length_append, List.length_drop, hln]; simp; omega
                have hle2 : (l.take n ++ [(x1, x2, x3)]).length + (l.drop n).length ≤ 1000000000000 := by rw [List.length_append, List.length_drop, hln]; simp; omega
                have hb7 := H7.out.2.size
                refine wp_appendSE (E := elP) sPf rfl rfl _ _ rfl rfl rfl H7.out.1 (HSR.out _ H7.out.2).2 hle1 hle2 hb7 ?_
                intro v8 w8 hown8 hgr8 hat8
                obtain ⟨m8, hm8⟩ : ∃ m8, m8 = (l.take n ++ [(x1, x2, x3)] ++ l.drop n).length := ⟨_, rfl⟩
                obtain ⟨s8, c8, rfl⟩ := hown8.shape hm8.symm
                have H8 := Lib.hid (And.intro hown8 (And.intro (H7.out.2.grown hgr8 hb7 (fun q e9 => (OwnE.lt H7.out.1 q e9).1)) hm8))
                clear hown8 hgr8 hat8 hm8
                go_wp2_with fail
                refine tail_mk (HCZ.out _ H8.out.2.1) ?_
                repeat (
                  refine plan_take (v := ?_) rfl (Or.inl ⟨by rfl, ?_⟩) ?_
                  rotate_left
                  · (intro W hW; obtain ⟨q1⟩ := hW; go_simp; try with_reducible rfl)
                  simp only [Act.put, List.setIfInBounds_toArray, List.getElem_toArray, List.getElem_cons_zero, List.getElem_cons_succ, List.set_cons_succ, List.set_cons_zero])
                refine plan_done ?_
                go_wp2_with fail
                go_ret
                exact ⟨s8, c8, _, by rw [← H8.out.2.2]; rfl, by rw [← H8.out.2.2]; exact H8.out.1.mono9 HBY.out.2, HPA.out.1, HPA.out.2, bel_trans HBY.out.1 H8.out.2.1⟩
            · have w9 : (y3 == x3) = false := by simpa using h9
              clear he h9
              go_quiet (fail)
              go_upto_region 6 with fail
              refine gen_code (fun Z => Below W1.heap.size W1 Z) (bel_trans HBZ.out (below_drewN (Below.refl _ _) _)) ?_
              intro Y0 hY0
              have hY := hY0.drew
              have hownY := OwnE.grown H1.out.1 (grownBy_below hY) (by cases (Value.slice a l.length c).ownBlock <;> simp)
              obtain ⟨u1, u2, s1, s2, hsrc⟩ := OwnE.cut sPf hownY n hn
              obtain ⟨Y, hYY⟩ : ∃ Y, Y = Y0.drew := ⟨_, rfl⟩
              rw [← hYY] at hY hownY
              have HCZ := Lib.hid (show ∀ Z, Below Y.heap.size Y Z → Z.cell? ⟨bx, 0, none⟩ = some (.int .i64 x1) ∧ Z.cell? ⟨bx, 1, none⟩ = some (.int .i64 x2) ∧ Z.cell? ⟨bx, 2, none⟩ = some (.int .i64 x3) from fun Z hZ => by
                have hb := bel_trans hY hZ
                exact ⟨(hb.cell (World.block_lt_of_cell? _ _ HX.out.1)).trans HX.out.1, (hb.cell (World.block_lt_of_cell? _ _ HX.out.2.1)).trans HX.out.2.1, (hb.cell (World.block_lt_of_cell? _ _ HX.out.2.2)).trans HX.out.2.2⟩)
              have HSR := Lib.hid (show ∀ Z, Below Y.heap.size Y Z → SrcE elP Z u1 (l.take n) ∧ SrcE elP Z u2 (l.drop n) from fun Z hZ => hsrc Z (OwnE.grown hownY (grownBy_below hZ) (by cases (Value.slice a l.length c).ownBlock <;> simp)))
              have HBY : Hid (Below W.heap.size W Y ∧ B ≤ Y.heap.size) := Lib.hid ⟨bel_trans H1.out.2 hY, by have := (bel_trans H1.out.2 hY).size; omega⟩
              have E0 : Hid (OwnE elP (Y.alloc (.cells #[] 53)) Y.heap.size 53 (.slice (some ⟨Y.heap.size, 0, none⟩) 0 0) [] ∧ Below Y.heap.size Y (Y.alloc (.cells #[] 53))) := Lib.hid ⟨ownE_empty0 rfl (Nat.le_refl _), (Below.refl _ _).alloc (Nat.le_refl _) _⟩
              have hcS := HCZ.out Y (Below.refl _ _)
              clear hY0 hY hownY hsrc
              refine wp_region_plan (.take 1 (.take 2 (.take 3 (.take 5 (.take 8 (.take 9 (.take 10 (.alt 0 (.alt 4 (.alt 6 (.alt 7 (.alt 11 (.take 12 .done) .stop) .stop) .stop) (.alt 6 (.alt 4 (.alt 7 (.alt 11 (.take 12 .done) .stop) .stop) .stop) .stop)) (.alt 6 (.alt 0 (.alt 4 (.alt 7 (.alt 11 (.take 12 .done) .stop) .stop) .stop) .stop) .stop)))))))))
                (fun w' => w'.cell? ⟨bx, 0, none⟩ = some (.int .i64 x1) ∧ w'.cell? ⟨bx, 1, none⟩ = some (.int .i64 x2) ∧ w'.cell? ⟨bx, 2, none⟩ = some (.int .i64 x3)) (by kernel_rfl) (by kernel_rfl) (by kernel_rfl) (by kernel_rfl) (by rw [← hYY]; exact hcS) ?_
              rw [← hYY]
              clear hYY hcS
              repeat (
                refine plan_take (v := ?_) rfl (Or.inl ⟨by rfl, ?_⟩) ?_
                rotate_left
                · (intro W hW; obtain ⟨q1, q2, q3⟩ := hW; go_simp; try with_reducible rfl)
                simp only [Act.put, List.setIfInBounds_toArray, List.getElem_toArray, List.getElem_cons_zero, List.getElem_cons_succ, List.set_cons_succ, List.set_cons_zero])
              refine plan_alt rfl ?_ ?_
              · go_wp2_with fail
                refine tail_mk (HCZ.out _ E0.out.2) ?_
                refine plan_alt rfl ?_ ?_
                · have hl4 : (([] : List (Int × Int × Int)).length + (l.take n).length) * 24 ≤ 140737488355328 := by rw [List.length_take]; simp; omega
                  have hm4 : ([] : List (Int × Int × Int)).length + (l.take n).length ≤ 1000000000000 := by rw [List.length_take]; simp; omega
                  have hz4 := E0.out.2.size
                  refine wp_appendSE (E := elP) (v := .slice (some ⟨Y.heap.size, 0, none⟩) 0 0) sPf rfl rfl _ _ rfl rfl rfl E0.out.1 (HSR.out _ E0.out.2).1 hl4 hm4 hz4 ?_
                  intro v4 w4 hown4 hgr4 hat4
                  rw [List.nil_append] at hown4
                  have H4 := Lib.hid (And.intro hown4 (And.intro (E0.out.2.grown hgr4 hz4 (fun q e9 => (OwnE.lt E0.out.1 q e9).1)) hgr4))
                  clear hown4 hgr4 hat4
                  go_wp2_with fail
                  refine tail_mk (HCZ.out _ H4.out.2.1) ?_
                  refine plan_alt rfl ?_ plan_stop
                  go_wp2_with fail
                  have hbl := H4.out.2.1.alloc H4.out.2.1.size (.cells #[.int .i64 x1, .int .i64 x2, .int .i64 x3] 53)
                  have how := OwnE.grown H4.out.1 (grownBy_alloc w4 (.cells #[.int .i64 x1, .int .i64 x2, .int .i64 x3] 53)) (by cases v4.ownBlock <;> simp)
                  have HT := Lib.hid (And.intro how (And.intro hbl (And.intro hbl.size (cells_new (W := w4) (cs := [.int .i64 x1, .int .i64 x2, .int .i64 x3]) (t := 53) rfl))))
                  clear hbl how
                  refine tail_mk (HCZ.out _ HT.out.2.1) ?_
                  refine plan_alt rfl ?_ plan_stop
                  have hln : (l.take n).length = n := by rw [List.length_take]; omega
                  have hlen1 : ((l.take n).length + 1) * 24 ≤ 140737488355328 := by omega
                  have hlen2 : (l.take n).length + 1 ≤ 1000000000000 := by omega
                  refine wp_appendE (E := elP) sPf rfl rfl _ _ rfl rfl w4.heap.size rfl HT.out.1 (x1, x2, x3) HT.out.2.2.2 hlen1 hlen2 HT.out.2.2.1 ?_
                  intro v7 w7 hown7 hgr7 hat7
                  have H7 := Lib.hid (And.intro hown7 (HT.out.2.1.grown hgr7 HT.out.2.2.1 (fun q e9 => (OwnE.lt HT.out.1 q e9).1)))
                  clear hown7 hgr7 hat7
                  go_wp2_with fail
                  refine tail_mk (HCZ.out _ H7.out.2) ?_
                  refine plan_alt rfl ?_ plan_stop
                  have hle1 : ((l.take n ++ [(x1, x2, x3)]).length + (l.drop n).length) * 24 ≤ 140737488355328 := by rw [List.length_append, List.length_drop, hln]; simp; omega
                  have hle2 : (l.take n ++ [(x1, x2, x3)]).length + (l.drop n).length ≤ 1000000000000 := by rw [List.length_append, List.length_drop, hln]; simp; omega
                  have hb7 := H7.out.2.size
                  refine wp_appendSE (E := elP) sPf rfl rfl _ _ rfl rfl rfl H7.out.1 (HSR.out _ H7.out.2).2 hle1 hle2 hb7 ?_
                  intro v8 w8 hown8 hgr8 hat8
                  obtain ⟨m8, hm8⟩ : ∃ m8, m8 = (l.take n ++ [(x1, x2, x3)] ++ l.drop n).length := ⟨_, rfl⟩
                  obtain ⟨s8, c8, rfl⟩ := hown8.shape hm8.symm
                  have H8 := Lib.hid (And.intro hown8 (And.intro (H7.out.2.grown hgr8 hb7 (fun q e9 => (OwnE.lt H7.out.1 q e9).1)) hm8))
                  clear hown8 hgr8 hat8 hm8
                  go_wp2_with fail
                  refine tail_mk (HCZ.out _ H8.out.2.1) ?_
                  repeat (
                    refine plan_take (v := ?_) rfl (Or.inl ⟨by rfl, ?_⟩) ?_
                    rotate_left
                    · (intro W hW; obtain ⟨q1⟩ := hW; go_simp; try with_reducible rfl)
                    simp only [Act.put, List.setIfInBounds_toArray, List.getElem_toArray, List.getElem_cons_zero, List.getElem_cons_succ, List.set_cons_succ, List.set_cons_zero])
                  refine plan_done ?_
                  go_wp2_with fail
                  go_ret
                  exact ⟨s8, c8, _, by rw [← H8.out.2.2]; rfl, by rw [← H8.out.2.2]; exact H8.out.1.mono9 HBY.out.2, HPA.out.1, HPA.out.2, bel_trans HBY.out.1 H8.out.2.1⟩
                · refine plan_alt rfl ?_ plan_stop
                  go_wp2_with fail
                  have hb6 := E0.out.2.alloc E0.out.2.size (.cells #[.int .i64 x1, .int .i64 x2, .int .i64 x3] 53)
                  have hc6 := cells_new (W := Y.alloc (.cells #[] 53)) (cs := [.int .i64 x1, .int .i64 x2, .int .i64 x3]) (t := 53) (B := Y.heap.size + 1) (by rw [World.size_alloc])
                  have E6 := Lib.hid (And.intro (OwnE.grown E0.out.1 (grownBy_alloc (Y.alloc (.cells #[] 53)) (.cells #[.int .i64 x1, .int .i64 x2, .int .i64 x3] 53)) (.inr (by simp [Value.ownBlock]))) (And.intro hb6 hc6))
                  clear hb6 hc6
                  refine tail_mk (HCZ.out _ E6.out.2.1) ?_
                  refine plan_alt rfl ?_ plan_stop
                  have hl4 : (([] : List (Int × Int × Int)).length + (l.take n).length) * 24 ≤ 140737488355328 := by rw [List.length_take]; simp; omega
                  have hm4 : ([] : List (Int × Int × Int)).length + (l.take n).length ≤ 1000000000000 := by rw [List.length_take]; simp; omega
                  have hz4 := E6.out.2.1.size
                  refine wp_appendSE (E := elP) (v := .slice (some ⟨Y.heap.size, 0, none⟩) 0 0) sPf rfl rfl _ _ rfl rfl rfl E6.out.1 (HSR.out _ E6.out.2.1).1 hl4 hm4 hz4 ?_
                  intro v4 w4 hown4 hgr4 hat4
                  rw [List.nil_append] at hown4
                  have H4 := Lib.hid (And.intro hown4 (And.intro (E6.out.2.1.grown hgr4 hz4 (fun q e9 => (OwnE.lt E6.out.1 q e9).1)) hgr4))
                  clear hown4 hgr4 hat4
                  go_wp2_with fail
                  refine tail_mk (HCZ.out _ H4.out.2.1) ?_
                  have HT := Lib.hid (show ∀ j y, [Value.int .i64 x1, .int .i64 x2, .int .i64 x3][j]? = some y → w4.cell? ⟨Y.heap.size + 1, j, none⟩ = some y from fun j y hj => H4.out.2.2.cell (E6.out.2.2 j y hj) (by simp [Value.ownBlock]))
                  refine plan_alt rfl ?_ plan_stop
                  have hln : (l.take n).length = n := by rw [List.length_take]; omega
                  have hlen1 : ((l.take n).length + 1) * 24 ≤ 140737488355328 := by omega
                  have hlen2 : (l.take n).length + 1 ≤ 1000000000000 := by omega
                  refine wp_appendE (E := elP) sPf rfl rfl _ _ rfl rfl (Y.heap.size + 1) rfl H4.out.1 (x1, x2, x3) HT.out hlen1 hlen2 H4.out.2.1.size ?_
                  intro v7 w7 hown7 hgr7 hat7
                  have H7 := Lib.hid (And.intro hown7 (H4.out.2.1.grown hgr7 H4.out.2.1.size (fun q e9 => (OwnE.lt H4.out.1 q e9).1)))
                  clear hown7 hgr7 hat7
                  go_wp2_with fail
                  refine tail_mk (HCZ.out _ H7.out.2) ?_
                  refine plan_alt rfl ?_ plan_stop
                  have hle1 : ((l.take n ++ [(x1, x2, x3)]).length + (l.drop n).length) * 24 ≤ 140737488355328 := by rw [List.length_append, List.length_drop, hln]; simp; omega
                  have hle2 : (l.take n ++ [(x1, x2, x3)]).length + (l.drop n).length ≤ 1000000000000 := by rw [List.length_append, List.length_drop, hln]; simp; omega
                  have hb7 := H7.out.2.size
                  refine wp_appendSE (E := elP) sPf rfl rfl _ _ rfl rfl rfl H7.out.1 (HSR.out _ H7.out.2).2 hle1 hle2 hb7 ?_
                  intro v8 w8 hown8 hgr8 hat8
                  obtain ⟨m8, hm8⟩ : ∃ m8, m8 = (l.take n ++ [(x1, x2, x3)] ++ l.drop n).length := ⟨_, rfl⟩
                  obtain ⟨s8, c8, rfl⟩ := hown8.shape hm8.symm
                  have H8 := Lib.hid (And.intro hown8 (And.intro (H7.out.2.grown hgr8 hb7 (fun q e9 => (OwnE.lt H7.out.1 q e9).1)) hm8))
                  clear hown8 hgr8 hat8 hm8
                  go_wp2_with fail
                  refine tail_mk (HCZ.out _ H8.out.2.1) ?_
                  repeat (
                    refine plan_take (v := ?_) rfl (Or.inl ⟨by rfl, ?_⟩) ?_
                    rotate_left
                    · (intro W hW; obtain ⟨q1⟩ := hW; go_simp; try with_reducible rfl)
                    simp only [Act.put, List.setIfInBounds_toArray, List.getElem_toArray, List.getElem_cons_zero, List.getElem_cons_succ, List.set_cons_succ, List.set_cons_zero])
                  refine plan_done ?_
                  go_wp2_with fail
                  go_ret
                  exact ⟨s8, c8, _, by rw [← H8.out.2.2]; rfl, by rw [← H8.out.2.2]; exact H8.out.1.mono9 HBY.out.2, HPA.out.1, HPA.out.2, bel_trans HBY.out.1 H8.out.2.1⟩
              · refine plan_alt rfl ?_ plan_stop
                go_wp2_with fail
                have hb6 := (Below.refl Y.heap.size Y).alloc (Nat.le_refl _) (.cells #[.int .i64 x1, .int .i64 x2, .int .i64 x3] 53)
                have hc6 := cells_new (W := Y) (cs := [.int .i64 x1, .int .i64 x2, .int .i64 x3]) (t := 53) rfl
                have E6 := Lib.hid (And.intro hb6 hc6)
                clear hb6 hc6
                refine tail_mk (HCZ.out _ E6.out.1) ?_
                refine plan_alt rfl ?_ plan_stop
                go_wp2_with fail
                have he7 := ownE_empty0 (E := elP) (w := Y.alloc (.cells #[.int .i64 x1, .int .i64 x2, .int .i64 x3] 53)) (base := Y.heap.size) (e := 53) (B := Y.heap.size + 1) (by rw [World.size_alloc]) (by rw [World.size_alloc]; omega)
                have hb7 := E6.out.1.alloc E6.out.1.size (.cells #[] 53)
                have hg7 := grownBy_alloc (Y.alloc (.cells #[.int .i64 x1, .int .i64 x2, .int .i64 x3] 53)) (.cells #[] 53)
                have E7 := Lib.hid (And.intro he7 (And.intro hb7 hg7))
                clear he7 hb7 hg7
                refine tail_mk (HCZ.out _ E7.out.2.1) ?_
                refine plan_alt rfl ?_ plan_stop
                have hl4 : (([] : List (Int × Int × Int)).length + (l.take n).length) * 24 ≤ 140737488355328 := by rw [List.length_take]; simp; omega
                have hm4 : ([] : List (Int × Int × Int)).length + (l.take n).length ≤ 1000000000000 := by rw [List.length_take]; simp; omega
                have hz4 := E7.out.2.1.size
                refine wp_appendSE (E := elP) (v := .slice (some ⟨Y.heap.size + 1, 0, none⟩) 0 0) sPf rfl rfl _ _ rfl rfl rfl E7.out.1 (HSR.out _ E7.out.2.1).1 hl4 hm4 hz4 ?_
                intro v4 w4 hown4 hgr4 hat4
                rw [List.nil_append] at hown4
                have H4 := Lib.hid (And.intro hown4 (And.intro (E7.out.2.1.grown hgr4 hz4 (fun q e9 => (OwnE.lt E7.out.1 q e9).1)) hgr4))
                clear hown4 hgr4 hat4
                go_wp2_with fail
                refine tail_mk (HCZ.out _ H4.out.2.1) ?_
                have HT := Lib.hid (show ∀ j y, [Value.int .i64 x1, .int .i64 x2, .int .i64 x3][j]? = some y → w4.cell? ⟨Y.heap.size, j, none⟩ = some y from fun j y hj => H4.out.2.2.cell (E7.out.2.2.cell (E6.out.2 j y hj) (by simp)) (by simp [Value.ownBlock]))
                refine plan_alt rfl ?_ plan_stop
                have hln : (l.take n).length = n := by rw [List.length_take]; omega
                have hlen1 : ((l.take n).length + 1) * 24 ≤ 140737488355328 := by omega
                have hlen2 : (l.take n).length + 1 ≤ 1000000000000 := by omega
                refine wp_appendE (E := elP) sPf rfl rfl _ _ rfl rfl Y.heap.size rfl H4.out.1 (x1, x2, x3) HT.out hlen1 hlen2 H4.out.2.1.size ?_
                intro v7 w7 hown7 hgr7 hat7
                have H7 := Lib.hid (And.intro hown7 (H4.out.2.1.grown hgr7 H4.out.2.1.size (fun q e9 => (OwnE.lt H4.out.1 q e9).1)))
                clear hown7 hgr7 hat7
                go_wp2_with fail
                refine tail_mk (HCZ.out _ H7.out.2) ?_
                refine plan_alt rfl ?_ plan_stop
                have hle1 : ((l.take n ++ [(x1, x2, x3)]).length + (l.drop n).length) * 24 ≤ 140737488355328 := by rw [List.length_append, List.length_drop, hln]; simp; omega
                have hle2 : (l.take n ++ [(x1, x2, x3)]).length + (l.drop n).length ≤ 1000000000000 := by rw [List.length_append, List.length_drop, hln]; simp; omega
                have hb7 := H7.out.2.size
                refine wp_appendSE (E := elP) sPf rfl rfl _ _ rfl rfl rfl H7.out.1 (HSR.out _ H7.out.2).2 hle1 hle2 hb7 ?_
                intro v8 w8 hown8 hgr8 hat8
                obtain ⟨m8, hm8⟩ : ∃ m8, m8 = (l.take n ++ [(x1, x2, x3)] ++ l.drop n).length := ⟨_, rfl⟩
                obtain ⟨s8, c8, rfl⟩ := hown8.shape hm8.symm
                have H8 := Lib.hid (And.intro hown8 (And.intro (H7.out.2.grown hgr8 hb7 (fun q e9 => (OwnE.lt H7.out.1 q e9).1)) hm8))
                clear hown8 hgr8 hat8 hm8
                go_wp2_with fail
                refine tail_mk (HCZ.out _ H8.out.2.1) ?_
                repeat (
                  refine plan_take (v := ?_) rfl (Or.inl ⟨by rfl, ?_⟩) ?_
                  rotate_left
                  · (intro W hW; obtain ⟨q1⟩ := hW; go_simp; try with_reducible rfl)
                  simp only [Act.put, List.setIfInBounds_toArray, List.getElem_toArray, List.getElem_cons_zero, List.getElem_cons_succ, List.set_cons_succ, List.set_cons_zero])
                refine plan_done ?_
                go_wp2_with fail
                go_ret
                exact ⟨s8, c8, _, by rw [← H8.out.2.2]; rfl, by rw [← H8.out.2.2]; exact H8.out.1.mono9 HBY.out.2, HPA.out.1, HPA.out.2, bel_trans HBY.out.1 H8.out.2.1⟩
        · have HJ : Hid (∀ j, j < n + 1 → lt3 (nth l j) (x1, x2, x3)) := Lib.hid fun j hj => by
            by_cases e : j = n
            · subst e; rw [← HY.out]; exact of_decide_eq_true HB.out.symm
            · exact HL.out.2 j (by omega)
          go_wp2_with fail
          go_roundw
          case rel => exact ⟨n + 1, by omega, by go_num, bel_trans HL.out.1 H3.out, HJ.out⟩
          case measure => simp [intOf]; omega
      · refine plan_alt rfl ?_ plan_stop
        go_wp2_with fail
        refine tail_mk (HSS.out _ (HV.out.alloc HV.out.size _)) ?_
        refine plan_alt rfl ?_ plan_stop
        go_wp2_with fail
        refine tail_mk (HSS.out _ ((HV.out.alloc HV.out.size _).alloc (le_alloc _ HV.out.size) _)) ?_
        refine plan_alt rfl ?_ plan_stop
        have hti := two_ints V (x1, x2, x3) (y1, y2, y3) 3 3
        have HTI := Lib.hid hti
        have HBF := Lib.hid (before_any _ _ [y1, y2, y3] [x1, x2, x3] _ HTI.out.2 HTI.out.1 rfl)
        clear hti
        go_wp2_with fail
        refine HBF.out.mono ?_
        rintro e V3 ⟨rfl, q3⟩
        rw [bfB3 (y1, y2, y3) (x1, x2, x3)]
        have H3 := Lib.hid (((HV.out.alloc HV.out.size _).alloc (le_alloc _ HV.out.size) _).trans (q3.below _) : Below wr.heap.size wr V3)
        clear q3 HBF HTI
        obtain ⟨b, hb⟩ : ∃ b, b = decide (lt3 (y1, y2, y3) (x1, x2, x3)) := ⟨_, rfl⟩
        rw [← hb]
        have HB := Lib.hid hb
        clear hb
        go_wp2_with fail
        refine tail_mk (HSS.out _ H3.out) ?_
        repeat (
          refine plan_take (v := ?_) rfl (Or.inl ⟨by rfl, ?_⟩) ?_
          rotate_left
          · (intro W hW; obtain ⟨q1⟩ := hW; go_simp; try with_reducible rfl)
          simp only [Act.put, List.setIfInBounds_toArray, List.getElem_toArray, List.getElem_cons_zero, List.getElem_cons_succ, List.set_cons_succ, List.set_cons_zero])
        refine plan_done ?_
        cases b
        · go_wp2_with fail
          obtain ⟨⟨o1, o2, o3⟩, o4, o5, o6⟩ := HSS.out V3 H3.out
          have hxy : ¬ lt3 (y1, y2, y3) (x1, x2, x3) := of_decide_eq_false HB.out.symm
          have HBZ := Lib.hid (bel_trans HL.out.1 H3.out)
          by_cases he : (y1, y2, y3) = ((x1, x2, x3) : Int × Int × Int)
          · have HMX : Hid ((x1, x2, x3) ∈ l) := Lib.hid (by rw [← he, HY.out]; exact nth_mem _ _ hnl)
            simp only [Prod.mk.injEq] at he
            obtain ⟨rfl, rfl, rfl⟩ := he
            clear hxy
            go_quiet (fail)
            have HQ9 := Lib.hid (fun q : Nat => bel_trans HBZ.out (below_drewN (Below.refl V3.heap.size V3) q))
            go_wp2_with fail
            go_ret
            exact ⟨a, c, l, rfl, OwnE.grown H1.out.1 (grownBy_below (HQ9.out _)) (by cases (Value.slice a l.length c).ownBlock <;> simp), HS.out, fun y => ⟨.inl, fun h9 => h9.elim id (fun h9 => by rw [h9]; exact HMX.out)⟩, bel_trans H1.out.2 (HQ9.out _)⟩
          · have hn9 : lt3 (x1, x2, x3) (y1, y2, y3) := by
              rcases sto3.tri (y1, y2, y3) (x1, x2, x3) with h9 | h9 | h9
              · exact absurd h9 hxy
              · exact absurd h9 he
              · exact h9
            have HPA := Lib.hid (put_asc sto3 HS.out hn HL.out.2 (fun _ => by rw [← HY.out]; exact hn9))
            simp only [Prod.mk.injEq] at he
            clear hxy hn9
            rcases (by omega : y1 ≠ x1 ∨ (x1 = y1 ∧ y2 ≠ x2) ∨ (x1 = y1 ∧ x2 = y2 ∧ y3 ≠ x3)) with h9 | ⟨rfl, h9⟩ | ⟨rfl, rfl, h9⟩
            · have w9 : (y1 == x1) = false := by simpa using h9
              clear he h9
              go_quiet (fail)
              go_upto_region 6 with fail
              refine gen_code (fun Z => Below W1.heap.size W1 Z) (bel_trans HBZ.out (below_drewN (Below.refl _ _) _)) ?_
              intro Y0 hY0
              have hY := hY0.drew
              have hownY := OwnE.grown H1.out.1 (grownBy_below hY) (by cases (Value.slice a l.length c).ownBlock <;> simp)
              obtain ⟨u1, u2, s1, s2, hsrc⟩ := OwnE.cut sPf hownY n hn
              obtain ⟨Y, hYY⟩ : ∃ Y, Y = Y0.drew := ⟨_, rfl⟩
              rw [← hYY] at hY hownY
              have HCZ := Lib.hid (show ∀ Z, Below Y.heap.size Y Z → Z.cell? ⟨bx, 0, none⟩ = some (.int .i64 x1) ∧ Z.cell? ⟨bx, 1, none⟩ = some (.int .i64 x2) ∧ Z.cell? ⟨bx, 2, none⟩ = some (.int .i64 x3) from fun Z hZ => by
                have hb := bel_trans hY hZ
                exact ⟨(hb.cell (World.block_lt_of_cell? _ _ HX.out.1)).trans HX.out.1, (hb.cell (World.block_lt_of_cell? _ _ HX.out.2.1)).trans HX.out.2.1, (hb.cell (World.block_lt_of_cell? _ _ HX.out.2.2)).trans HX.out.2.2⟩)
              have HSR := Lib.hid (show ∀ Z, Below Y.heap.size Y Z → SrcE elP Z u1 (l.take n) ∧ SrcE elP Z u2 (l.drop n) from fun Z hZ => hsrc Z (OwnE.grown hownY (grownBy_below hZ) (by cases (Value.slice a l.length c).ownBlock <;> simp)))
              have HBY : Hid (Below W.heap.size W Y ∧ B ≤ Y.heap.size) := Lib.hid ⟨bel_trans H1.out.2 hY, by have := (bel_trans H1.out.2 hY).size; omega⟩
              have E0 : Hid (OwnE elP (Y.alloc (.cells #[] 53)) Y.heap.size 53 (.slice (some ⟨Y.heap.size, 0, none⟩) 0 0) [] ∧ Below Y.heap.size Y (Y.alloc (.cells #[] 53))) := Lib.hid ⟨ownE_empty0 rfl (Nat.le_refl _), (Below.refl _ _).alloc (Nat.le_refl _) _⟩
              have hcS := HCZ.out Y (Below.refl _ _)
              clear hY0 hY hownY hsrc
              refine wp_region_plan (.take 1 (.take 2 (.take 3 (.take 5 (.take 8 (.take 9 (.take 10 (.alt 0 (.alt 4 (.alt 6 (.alt 7 (.alt 11 (.take 12 .done) .stop) .stop) .stop) (.alt 6 (.alt 4 (.alt 7 (.alt 11 (.take 12 .done) .stop) .stop) .stop) .stop)) (.alt 6 (.alt 0 (.alt 4 (.alt 7 (.alt 11 (.take 12 .done) .stop) .stop) .stop) .stop) .stop)))))))))
                (fun w' => w'.cell? ⟨bx, 0, none⟩ = some (.int .i64 x1) ∧ w'.cell? ⟨bx, 1, none⟩ = some (.int .i64 x2) ∧ w'.cell? ⟨bx, 2, none⟩ = some (.int .i64 x3)) (by kernel_rfl) (by kernel_rfl) (by kernel_rfl) (by kernel_rfl) (by rw [← hYY]; exact hcS) ?_
              rw [← hYY]
              clear hYY hcS
              repeat (
                refine plan_take (v := ?_) rfl (Or.inl ⟨by rfl, ?_⟩) ?_
                rotate_left
                · (intro W hW; obtain ⟨q1, q2, q3⟩ := hW; go_simp; try with_reducible rfl)
                simp only [Act.put, List.setIfInBounds_toArray, List.getElem_toArray, List.getElem_cons_zero, List.getElem_cons_succ, List.set_cons_succ, List.set_cons_zero])
              refine plan_alt rfl ?_ ?_
              · go_wp2_with fail
                refine tail_mk (HCZ.out _ E0.out.2) ?_
                refine plan_alt rfl ?_ ?_
                · have hl4 : (([] : List (Int × Int × Int)).length + (l.take n).length) * 24 ≤ 140737488355328 := by rw [List.length_take]; simp; omega
                  have hm4 : ([] : List (Int × Int × Int)).length + (l.take n).length ≤ 1000000000000 := by rw [List.length_take]; simp; omega
                  have hz4 := E0.out.2.size
                  refine wp_appendSE (E := elP) (v := .slice (some ⟨Y.heap.size, 0, none⟩) 0 0) sPf rfl rfl _ _ rfl rfl rfl E0.out.1 (HSR.out _ E0.out.2).1 hl4 hm4 hz4 ?_
                  intro v4 w4 hown4 hgr4 hat4
                  rw [List.nil_append] at hown4
                  have H4 := Lib.hid (And.intro hown4 (And.intro (E0.out.2.grown hgr4 hz4 (fun q e9 => (OwnE.lt E0.out.1 q e9).1)) hgr4))
                  clear hown4 hgr4 hat4
                  go_wp2_with fail
                  refine tail_mk (HCZ.out _ H4.out.2.1) ?_
                  refine plan_alt rfl ?_ plan_stop
                  go_wp2_with fail
                  have hbl := H4.out.2.1.alloc H4.out.2.1.size (.cells #[.int .i64 x1, .int .i64 x2, .int .i64 x3] 53)
                  have how := OwnE.grown H4.out.1 (grownBy_alloc w4 (.cells #[.int .i64 x1, .int .i64 x2, .int .i64 x3] 53)) (by cases v4.ownBlock <;> simp)
                  have HT := Lib.hid (And.intro how (And.intro hbl (And.intro hbl.size (cells_new (W := w4) (cs := [.int .i64 x1, .int .i64 x2, .int .i64 x3]) (t := 53) rfl))))
                  clear hbl how
                  refine tail_mk (HCZ.out _ HT.out.2.1) ?_
                  refine plan_alt rfl ?_ plan_stop
                  have hln : (l.take n).length = n := by rw [List.length_take]; omega
                  have hlen1 : ((l.take n).length + 1) * 24 ≤ 140737488355328 := by omega
                  have hlen2 : (l.take n).length + 1 ≤ 1000000000000 := by omega
                  refine wp_appendE (E := elP) sPf rfl rfl _ _ rfl rfl w4.heap.size rfl HT.out.1 (x1, x2, x3) HT.out.2.2.2 hlen1 hlen2 HT.out.2.2.1 ?_
                  intro v7 w7 hown7 hgr7 hat7
                  have H7 := Lib.hid (And.intro hown7 (HT.out.2.1.grown hgr7 HT.out.2.2.1 (fun q e9 => (OwnE.lt HT.out.1 q e9).1)))
                  clear hown7 hgr7 hat7
                  go_wp2_with fail
                  refine tail_mk (HCZ.out _ H7.out.2) ?_
                  refine plan_alt rfl ?_ plan_stop
                  have hle1 : ((l.take n ++ [(x1, x2, x3)]).length + (l.drop n).length) * 24 ≤ 140737488355328 := by rw [List.length_append, List.length_drop, hln]; simp; omega
                  have hle2 : (l.take n ++ [(x1, x2, x3)]).length + (l.drop n).length ≤ 1000000000000 := by rw [List.length_append, List.length_drop, hln]; simp; omega
                  have hb7 := H7.out.2.size
                  refine wp_appendSE (E := elP) sPf rfl rfl _ _ rfl rfl rfl H7.out.1 (HSR.out _ H7.out.2).2 hle1 hle2 hb7 ?_
                  intro v8 w8 hown8 hgr8 hat8
                  obtain ⟨m8, hm8⟩ : ∃ m8, m8 = (l.take n ++ [(x1, x2, x3)] ++ l.drop n).length := ⟨_, rfl⟩
                  obtain ⟨s8, c8, rfl⟩ := hown8.shape hm8.symm
                  have H8 := Lib.hid (And.intro hown8 (And.intro (H7.out.2.grown hgr8 hb7 (fun q e9 => (OwnE.lt H7.out.1 q e9).1)) hm8))
                  clear hown8 hgr8 hat8 hm8
                  go_wp2_with fail
                  refine tail_mk (HCZ.out _ H8.out.2.1) ?_
                  repeat (
                    refine plan_take (v := ?_) rfl (Or.inl ⟨by rfl, ?_⟩) ?_
                    rotate_left
                    · (intro W hW; obtain ⟨q1⟩ := hW; go_simp; try with_reducible rfl)
                    simp only [Act.put, List.setIfInBounds_toArray, List.getElem_toArray, List.getElem_cons_zero, List.getElem_cons_succ, List.set_cons_succ, List.set_cons_zero])
                  refine plan_done ?_
                  go_wp2_with fail
                  go_ret
                  exact ⟨s8, c8, _, by rw [← H8.out.2.2]; rfl, by rw [← H8.out.2.2]; exact H8.out.1.mono9 HBY.out.2, HPA.out.1, HPA.out.2, bel_trans HBY.out.1 H8.out.2.1⟩
                · refine plan_alt rfl ?_ plan_stop
                  go_wp2_with fail
                  have hb6 := E0.out.2.alloc E0.out.2.size (.cells #[.int .i64 x1, .int .i64 x2, .int .i64 x3] 53)
                  have hc6 := cells_new (W := Y.alloc (.cells #[] 53)) (cs := [.int .i64 x1, .int .i64 x2, .int .i64 x3]) (t := 53) (B := Y.heap.size + 1) (by rw [World.size_alloc])
                  have E6 := Lib.hid (And.intro (OwnE.grown E0.out.1 (grownBy_alloc (Y.alloc (.cells #[] 53)) (.cells #[.int .i64 x1, .int .i64 x2, .int .i64 x3] 53)) (.inr (by simp [Value.ownBlock]))) (And.intro hb6 hc6))
                  clear hb6 hc6
                  refine tail_mk (HCZ.out _ E6.out.2.1) ?_
                  refine plan_alt rfl ?_ plan_stop
                  have hl4 : (([] : List (Int × Int × Int)).length + (l.take n).length) * 24 ≤ 140737488355328 := by rw [List.length_take]; simp; omega
                  have hm4 : ([] : List (Int × Int × Int)).length + (l.take n).length ≤ 1000000000000 := by rw [List.length_take]; simp; omega
                  have hz4 := E6.out.2.1.size
                  refine wp_appendSE (E := elP) (v := .slice (some ⟨Y.heap.size, 0, none⟩) 0 0) sPf rfl rfl _ _ rfl rfl rfl E6.out.1 (HSR.out _ E6.out.2.1).1 hl4 hm4 hz4 ?_
                  intro v4 w4 hown4 hgr4 hat4
                  rw [List.nil_append] at hown4
                  have H4 := Lib.hid (And.intro hown4 (And.intro (E6.out.2.1.grown hgr4 hz4 (fun q e9 => (OwnE.lt E6.out.1 q e9).1)) hgr4))
                  clear hown4 hgr4 hat4
                  go_wp2_with fail
                  refine tail_mk (HCZ.out _ H4.out.2.1) ?_
                  have HT := Lib.hid (show ∀ j y, [Value.int .i64 x1, .int .i64 x2, .int .i64 x3][j]? = some y → w4.cell? ⟨Y.heap.size + 1, j, none⟩ = some y from fun j y hj => H4.out.2.2.cell (E6.out.2.2 j y hj) (by simp [Value.ownBlock]))
                  refine plan_alt rfl ?_ plan_stop
                  have hln : (l.take n).length = n := by rw [List.length_take]; omega
                  have hlen1 : ((l.take n).length + 1) * 24 ≤ 140737488355328 := by omega
                  have hlen2 : (l.take n).length + 1 ≤ 1000000000000 := by omega
                  refine wp_appendE (E := elP) sPf rfl rfl _ _ rfl rfl (Y.heap.size + 1) rfl H4.out.1 (x1, x2, x3) HT.out hlen1 hlen2 H4.out.2.1.size ?_
                  intro v7 w7 hown7 hgr7 hat7
                  have H7 := Lib.hid (And.intro hown7 (H4.out.2.1.grown hgr7 H4.out.2.1.size (fun q e9 => (OwnE.lt H4.out.1 q e9).1)))
                  clear hown7 hgr7 hat7
                  go_wp2_with fail
                  refine tail_mk (HCZ.out _ H7.out.2) ?_
                  refine plan_alt rfl ?_ plan_stop
                  have hle1 : ((l.take n ++ [(x1, x2, x3)]).length + (l.drop n).length) * 24 ≤ 140737488355328 := by rw [List.length_append, List.length_drop, hln]; simp; omega
                  have hle2 : (l.take n ++ [(x1, x2, x3)]).length + (l.drop n).length ≤ 1000000000000 := by rw [List.length_append, List.length_drop, hln]; simp; omega
                  have hb7 := H7.out.2.size
                  refine wp_appendSE (E := elP) sPf rfl rfl _ _ rfl rfl rfl H7.out.1 (HSR.out _ H7.out.2).2 hle1 hle2 hb7 ?_
                  intro v8 w8 hown8 hgr8 hat8
                  obtain ⟨m8, hm8⟩ : ∃ m8, m8 = (l.take n ++ [(x1, x2, x3)] ++ l.drop n).length := ⟨_, rfl⟩
                  obtain ⟨s8, c8, rfl⟩ := hown8.shape hm8.symm
                  have H8 := Lib.hid (And.intro hown8 (And.intro (H7.out.2.grown hgr8 hb7 (fun q e9 => (OwnE.lt H7.out.1 q e9).1)) hm8))
                  clear hown8 hgr8 hat8 hm8
                  go_wp2_with fail
                  refine tail_mk (HCZ.out _ H8.out.2.1) ?_
                  repeat (
                    refine plan_take (v := ?_) rfl (Or.inl ⟨by rfl, ?_⟩) ?_
                    rotate_left
                    · (intro W hW; obtain ⟨q1⟩ := hW; go_simp; try with_reducible rfl)
                    simp only [Act.put, List.setIfInBounds_toArray, List.getElem_toArray, List.getElem_cons_zero, List.getElem_cons_succ, List.set_cons_succ, List.set_cons_zero])
                  refine plan_done ?_
                  go_wp2_with fail
                  go_ret
                  exact ⟨s8, c8, _, by rw [← H8.out.2.2]; rfl, by rw [← H8.out.2.2]; exact H8.out.1.mono9 HBY.out.2, HPA.out.1, HPA.out.2, bel_trans HBY.out.1 H8.out.2.1⟩
              · refine plan_alt rfl ?_ plan_stop
                go_wp2_with fail
                have hb6 := (Below.refl Y.heap.size Y).alloc (Nat.le_refl _) (.cells #[.int .i64 x1, .int .i64 x2, .int .i64 x3] 53)
                have hc6 := cells_new (W := Y) (cs := [.int .i64 x1, .int .i64 x2, .int .i64 x3]) (t := 53) rfl
                have E6 := Lib.hid (And.intro hb6 hc6)
                clear hb6 hc6
                refine tail_mk (HCZ.out _ E6.out.1) ?_
                refine plan_alt rfl ?_ plan_stop
                go_wp2_with fail
                have he7 := ownE_empty0 (E := elP) (w := Y.alloc (.cells #[.int .i64 x1, .int .i64 x2, .int .i64 x3] 53)) (base := Y.heap.size) (e := 53) (B := Y.heap.size + 1) (by rw [World.size_alloc]) (by rw [World.size_alloc]; omega)
                have hb7 := E6.out.1.alloc E6.out.1.size (.cells #[] 53)
                have hg7 := grownBy_alloc (Y.alloc (.cells #[.int .i64 x1, .int .i64 x2, .int .i64 x3] 53)) (.cells #[] 53)
                have E7 := Lib.hid (And.intro he7 (And.intro hb7 hg7))
                clear he7 hb7 hg7
                refine tail_mk (HCZ.out _ E7.out.2.1) ?_
                refine plan_alt rfl ?_ plan_stop
                have hl4 : (([] : List (Int × Int × Int)).length + (l.take n).length) * 24 ≤ 140737488355328 := by rw [List.length_take]; simp; omega
                have hm4 : ([] : List (Int × Int × Int)).length + (l.take n).length ≤ 1000000000000 := by rw [List.length_take]; simp; omega
                have hz4 := E7.out.2.1.size
                refine wp_appendSE (E := elP) (v := .slice (some ⟨Y.heap.size + 1, 0, none⟩) 0 0) sPf rfl rfl _ _ rfl rfl rfl E7.out.1 (HSR.out _ E7.out.2.1).1 hl4 hm4 hz4 ?_
                intro v4 w4 hown4 hgr4 hat4
                rw [List.nil_append] at hown4
                have H4 := Lib.hid (And.intro hown4 (And.intro (E7.out.2.1.grown hgr4 hz4 (fun q e9 => (OwnE.lt E7.out.1 q e9).1)) hgr4))
                clear hown4 hgr4 hat4
                go_wp2_with fail
                refine tail_mk (HCZ.out _ H4.out.2.1) ?_
                have HT := Lib.hid (show ∀ j y, [Value.int .i64 x1, .int .i64 x2, .int .i64 x3][j]? = some y → w4.cell? ⟨Y.heap.size, j, none⟩ = some y from fun j y hj => H4.out.2.2.cell (E7.out.2.2.cell (E6.out.2 j y hj) (by simp)) (by simp [Value.ownBlock]))
                refine plan_alt rfl ?_ plan_stop
                have hln : (l.take n).length = n := by rw [List.length_take]; omega
                have hlen1 : ((l.take n).length + 1) * 24 ≤ 140737488355328 := by omega
                have hlen2 : (l.take n).length + 1 ≤ 1000000000000 := by omega
                refine wp_appendE (E := elP) sPf rfl rfl _ _ rfl rfl Y.heap.size rfl H4.out.1 (x1, x2, x3) HT.out hlen1 hlen2 H4.out.2.1.size ?_
                intro v7 w7 hown7 hgr7 hat7
                have H7 := Lib.hid (And.intro hown7 (H4.out.2.1.grown hgr7 H4.out.2.1.size (fun q e9 => (OwnE.lt H4.out.1 q e9).1)))
                clear hown7 hgr7 hat7
                go_wp2_with fail
                refine tail_mk (HCZ.out _ H7.out.2) ?_
                refine plan_alt rfl ?_ plan_stop
                have hle1 : ((l.take n ++ [(x1, x2, x3)]).length + (l.drop n).length) * 24 ≤ 140737488355328 := by rw [List.length_append, List.length_drop, hln]; simp; omega
                have hle2 : (l.take n ++ [(x1, x2, x3)]).length + (l.drop n).length ≤ 1000000000000 := by rw [List.length_append, List.length_drop, hln]; simp; omega
                have hb7 := H7.out.2.size
                refine wp_appendSE (E := elP) sPf rfl rfl _ _ rfl rfl rfl H7.out.1 (HSR.out _ H7.out.2).2 hle1 hle2 hb7 ?_
                intro v8 w8 hown8 hgr8 hat8
                obtain ⟨m8, hm8⟩ : ∃ m8, m8 = (l.take n ++ [(x1, x2, x3)] ++ l.drop n).length := ⟨_, rfl⟩
                obtain ⟨s8, c8, rfl⟩ := hown8.shape hm8.symm
                have H8 := Lib.hid (And.intro hown8 (And.intro (H7.out.2.grown hgr8 hb7 (fun q e9 => (OwnE.lt H7.out.1 q e9).1)) hm8))
                clear hown8 hgr8 hat8 hm8
                go_wp2_with fail
                refine tail_mk (HCZ.out _ H8.out.2.1) ?_
                repeat (
                  refine plan_take (v := ?_) rfl (Or.inl ⟨by rfl, ?_⟩) ?_
                  rotate_left
                  · (intro W hW; obtain ⟨q1⟩ := hW; go_simp; try with_reducible rfl)
                  simp only [Act.put, List.setIfInBounds_toArray, List.getElem_toArray, List.getElem_cons_zero, List.getElem_cons_succ, List.set_cons_succ, List.set_cons_zero])
                refine plan_done ?_
                go_wp2_with fail
                go_ret
                exact ⟨s8, c8, _, by rw [← H8.out.2.2]; rfl, by rw [← H8.out.2.2]; exact H8.out.1.mono9 HBY.out.2, HPA.out.1, HPA.out.2, bel_trans HBY.out.1 H8.out.2.1⟩
            · have w9 : (y2 == x2) = false := by simpa using h9
              clear he h9
              go_quiet (fail)
              go_upto_region 6 with fail
              refine gen_code (fun Z => Below W1.heap.size W1 Z) (bel_trans HBZ.out (below_drewN (Below.refl _ _) _)) ?_
              intro Y0 hY0
              have hY := hY0.drew
              have hownY := OwnE.grown H1.out.1 (grownBy_below hY) (by cases (Value.slice a l.length c).ownBlock <;> simp)
              obtain ⟨u1, u2, s1, s2, hsrc⟩ := OwnE.cut sPf hownY n hn
              obtain ⟨Y, hYY⟩ : ∃ Y, Y = Y0.drew := ⟨_, rfl⟩
              rw [← hYY] at hY hownY
              have HCZ := Lib.hid (show ∀ Z, Below Y.heap.size Y Z → Z.cell? ⟨bx, 0, none⟩ = some (.int .i64 x1) ∧ Z.cell? ⟨bx, 1, none⟩ = some (.int .i64 x2) ∧ Z.cell? ⟨bx, 2, none⟩ = some (.int .i64 x3) from fun Z hZ => by
                have hb := bel_trans hY hZ
                exact ⟨(hb.cell (World.block_lt_of_cell? _ _ HX.out.1)).trans HX.out.1, (hb.cell (World.block_lt_of_cell? _ _ HX.out.2.1)).trans HX.out.2.1, (hb.cell (World.block_lt_of_cell? _ _ HX.out.2.2)).trans HX.out.2.2⟩)
              have HSR := Lib.hid (show ∀ Z, Below Y.heap.size Y Z → SrcE elP Z u1 (l.take n) ∧ SrcE elP Z u2 (l.drop n) from fun Z hZ => hsrc Z (OwnE.grown hownY (grownBy_below hZ) (by cases (Value.slice a l.length c).ownBlock <;> simp)))
              have HBY : Hid (Below W.heap.size W Y ∧ B ≤ Y.heap.size) := Lib.hid ⟨bel_trans H1.out.2 hY, by have := (bel_trans H1.out.2 hY).size; omega⟩
              have E0 : Hid (OwnE elP (Y.alloc (.cells #[] 53)) Y.heap.size 53 (.slice (some ⟨Y.heap.size, 0, none⟩) 0 0) [] ∧ Below Y.heap.size Y (Y.alloc (.cells #[] 53))) := Lib.hid ⟨ownE_empty0 rfl (Nat.le_refl _), (Below.refl _ _).alloc (Nat.le_refl _) _⟩
              have hcS := HCZ.out Y (Below.refl _ _)
              clear hY0 hY hownY hsrc
              refine wp_region_plan (.take 1 (.take 2 (.take 3 (.take 5 (.take 8 (.take 9 (.take 10 (.alt 0 (.alt 4 (.alt 6 (.alt 7 (.alt 11 (.take 12 .done) .stop) .stop) .stop) (.alt 6 (.alt 4 (.alt 7 (.alt 11 (.take 12 .done) .stop) .stop) .stop) .stop)) (.alt 6 (.alt 0 (.alt 4 (.alt 7 (.alt 11 (.take 12 .done) .stop) .stop) .stop) .stop) .stop)))))))))
                (fun w' => w'.cell? ⟨bx, 0, none⟩ = some (.int .i64 x1) ∧ w'.cell? ⟨bx, 1, none⟩ = some (.int .i64 x2) ∧ w'.cell? ⟨bx, 2, none⟩ = some (.int .i64 x3)) (by kernel_rfl) (by kernel_rfl) (by kernel_rfl) (by kernel_rfl) (by rw [← hYY]; exact hcS) ?_
              rw [← hYY]
              clear hYY hcS
              repeat (
                refine plan_take (v := ?_) rfl (Or.inl ⟨by rfl, ?_⟩) ?_
                rotate_left
                · (intro W hW; obtain ⟨q1, q2, q3⟩ := hW; go_simp; try with_reducible rfl)
                simp only [Act.put, List.setIfInBounds_toArray, List.getElem_toArray, List.getElem_cons_zero, List.getElem_cons_succ, List.set_cons_succ, List.set_cons_zero])
              refine plan_alt rfl ?_ ?_
              · go_wp2_with fail
                refine tail_mk (HCZ.out _ E0.out.2) ?_
                refine plan_alt rfl ?_ ?_
                · have hl4 : (([] : List (Int × Int × Int)).length + (l.take n).length) * 24 ≤ 140737488355328 := by rw [List.length_take]; simp; omega
                  have hm4 : ([] : List (Int × Int × Int)).length + (l.take n).length ≤ 1000000000000 := by rw [List.length_take]; simp; omega
                  have hz4 := E0.out.2.size
                  refine wp_appendSE (E := elP) (v := .slice (some ⟨Y.heap.size, 0, none⟩) 0 0) sPf rfl rfl _ _ rfl rfl rfl E0.out.1 (HSR.out _ E0.out.2).1 hl4 hm4 hz4 ?_
                  intro v4 w4 hown4 hgr4 hat4
                  rw [List.nil_append] at hown4
                  have H4 := Lib.hid (And.intro hown4 (And.intro (E0.out.2.grown hgr4 hz4 (fun q e9 => (OwnE.lt E0.out.1 q e9).1)) hgr4))
                  clear hown4 hgr4 hat4
                  go_wp2_with fail
                  refine tail_mk (HCZ.out _ H4.out.2.1) ?_
                  refine plan_alt rfl ?_ plan_stop
                  go_wp2_with fail
                  have hbl := H4.out.2.1.alloc H4.out.2.1.size (.cells #[.int .i64 x1, .int .i64 x2, .int .i64 x3] 53)
                  have how := OwnE.grown H4.out.1 (grownBy_alloc w4 (.cells #[.int .i64 x1, .int .i64 x2, .int .i64 x3] 53)) (by cases v4.ownBlock <;> simp)
                  have HT := Lib.hid (And.intro how (And.intro hbl (And.intro hbl.size (cells_new (W := w4) (cs := [.int .i64 x1, .int .i64 x2, .int .i64 x3]) (t := 53) rfl))))
                  clear hbl how
                  refine tail_mk (HCZ.out _ HT.out.2.1) ?_
                  refine plan_alt rfl ?_ plan_stop
                  have hln : (l.take n).length = n := by rw [List.length_take]; omega
                  have hlen1 : ((l.take n).length + 1) * 24 ≤ 140737488355328 := by omega
                  have hlen2 : (l.take n).length + 1 ≤ 1000000000000 := by omega
                  refine wp_appendE (E := elP) sPf rfl rfl _ _ rfl rfl w4.heap.size rfl HT.out.1 (x1, x2, x3) HT.out.2.2.2 hlen1 hlen2 HT.out.2.2.1 ?_
                  intro v7 w7 hown7 hgr7 hat7
                  have H7 := Lib.hid (And.intro hown7 (HT.out.2.1.grown hgr7 HT.out.2.2.1 (fun q e9 => (OwnE.lt HT.out.1 q e9).1)))
                  clear hown7 hgr7 hat7
                  go_wp2_with fail
                  refine tail_mk (HCZ.out _ H7.out.2) ?_
                  refine plan_alt rfl ?_ plan_stop
                  have hle1 : ((l.take n ++ [(x1, x2, x3)]).length + (l.drop n).length) * 24 ≤ 140737488355328 := by rw [List.length_append, List.length_drop, hln]; simp; omega
                  have hle2 : (l.take n ++ [(x1, x2, x3)]).length + (l.drop n).length ≤ 1000000000000 := by rw [List.length_append, List.length_drop, hln]; simp; omega
                  have hb7 := H7.out.2.size
                  refine wp_appendSE (E := elP) sPf rfl rfl _ _ rfl rfl rfl H7.out.1 (HSR.out _ H7.out.2).2 hle1 hle2 hb7 ?_
                  intro v8 w8 hown8 hgr8 hat8
                  obtain ⟨m8, hm8⟩ : ∃ m8, m8 = (l.take n ++ [(x1, x2, x3)] ++ l.drop n).length := ⟨_, rfl⟩
                  obtain ⟨s8, c8, rfl⟩ := hown8.shape hm8.symm
                  have H8 := Lib.hid (And.intro hown8 (And.intro (H7.out.2.grown hgr8 hb7 (fun q e9 => (OwnE.lt H7.out.1 q e9).1)) hm8))
                  clear hown8 hgr8 hat8 hm8
                  go_wp2_with fail
                  refine tail_mk (HCZ.out _ H8.out.2.1) ?_
                  repeat (
                    refine plan_take (v := ?_) rfl (Or.inl ⟨by rfl, ?_⟩) ?_
                    rotate_left
                    · (intro W hW; obtain ⟨q1⟩ := hW; go_simp; try with_reducible rfl)
                    simp only [Act.put, List.setIfInBounds_toArray, List.getElem_toArray, List.getElem_cons_zero, List.getElem_cons_succ, List.set_cons_succ, List.set_cons_zero])
                  refine plan_done ?_
                  go_wp2_with fail
                  go_ret
                  exact ⟨s8, c8, _, by rw [← H8.out.2.2]; rfl, by rw [← H8.out.2.2]; exact H8.out.1.mono9 HBY.out.2, HPA.out.1, HPA.out.2, bel_trans HBY.out.1 H8.out.2.1⟩
                · refine plan_alt rfl ?_ plan_stop
                  go_wp2_with fail
                  have hb6 := E0.out.2.alloc E0.out.2.size (.cells #[.int .i64 x1, .int .i64 x2, .int .i64 x3] 53)
                  have hc6 := cells_new (W := Y.alloc (.cells #[] 53)) (cs := [.int .i64 x1, .int .i64 x2, .int .i64 x3]) (t := 53) (B := Y.heap.size + 1) (by rw [World.size_alloc])
                  have E6 := Lib.hid (And.intro (OwnE.grown E0.out.1 (grownBy_alloc (Y.alloc (.cells #[] 53)) (.cells #[.int .i64 x1, .int .i64 x2, .int .i64 x3] 53)) (.inr (by simp [Value.ownBlock]))) (And.intro hb6 hc6))
                  clear hb6 hc6
                  refine tail_mk (HCZ.out _ E6.out.2.1) ?_
                  refine plan_alt rfl ?_ plan_stop
                  have hl4 : (([] : List (Int × Int × Int)).length + (l.take n).length) * 24 ≤ 140737488355328 := by rw [List.length_take]; simp; omega
                  have hm4 : ([] : List (Int × Int × Int)).length + (l.take n).length ≤ 1000000000000 := by rw [List.length_take]; simp; omega
                  have hz4 := E6.out.2.1.size
                  refine wp_appendSE (E := elP) (v := .slice (some ⟨Y.heap.size, 0, none⟩) 0 0) sPf rfl rfl _ _ rfl rfl rfl E6.out.1 (HSR.out _ E6.out.2.1).1 hl4 hm4 hz4 ?_
                  intro v4 w4 hown4 hgr4 hat4
                  rw [List.nil_append] at hown4
                  have H4 := Lib.hid (And.intro hown4 (And.intro (E6.out.2.1.grown hgr4 hz4 (fun q e9 => (OwnE.lt E6.out.1 q e9).1)) hgr4))
                  clear hown4 hgr4 hat4
                  go_wp2_with fail
                  refine tail_mk (HCZ.out _ H4.out.2.1) ?_
                  have HT := Lib.hid (show ∀ j y, [Value.int .i64 x1, .int .i64 x2, .int .i64 x3][j]? = some y → w4.cell? ⟨Y.heap.size + 1, j, none⟩ = some y from fun j y hj => H4.out.2.2.cell (E6.out.2.2 j y hj) (by simp [Value.ownBlock]))
                  refine plan_alt rfl ?_ plan_stop
                  have hln : (l.take n).length = n := by rw [List.length_take]; omega
                  have hlen1 : ((l.take n).length + 1) * 24 ≤ 140737488355328 := by omega
                  have hlen2 : (l.take n).length + 1 ≤ 1000000000000 := by omega
                  refine wp_appendE (E := elP) sPf rfl rfl _ _ rfl rfl (Y.heap.size + 1) rfl H4.out.1 (x1, x2, x3) HT.out hlen1 hlen2 H4.out.2.1.size ?_
                  intro v7 w7 hown7 hgr7 hat7
                  have H7 := Lib.hid (And.intro hown7 (H4.out.2.1.grown hgr7 H4.out.2.1.size (fun q e9 => (OwnE.lt H4.out.1 q e9).1)))
                  clear hown7 hgr7 hat7
                  go_wp2_with fail
                  refine tail_mk (HCZ.out _ H7.out.2) ?_
                  refine plan_alt rfl ?_ plan_stop
                  have hle1 : ((l.take n ++ [(x1, x2, x3)]).length + (l.drop n).length) * 24 ≤ 140737488355328 := by rw [List.length_append, List.length_drop, hln]; simp; omega
                  have hle2 : (l.take n ++ [(x1, x2, x3)]).length + (l.drop n).length ≤ 1000000000000 := by rw [List.length_append, List.length_drop, hln]; simp; omega
                  have hb7 := H7.out.2.size
                  refine wp_appendSE (E := elP) sPf rfl rfl _ _ rfl rfl rfl H7.out.1 (HSR.out _ H7.out.2).2 hle1 hle2 hb7 ?_
                  intro v8 w8 hown8 hgr8 hat8
                  obtain ⟨m8, hm8⟩ : ∃ m8, m8 = (l.take n ++ [(x1, x2, x3)] ++ l.drop n).length := ⟨_, rfl⟩
                  obtain ⟨s8, c8, rfl⟩ := hown8.shape hm8.symm
                  have H8 := Lib.hid (And.intro hown8 (And.intro (H7.out.2.grown hgr8 hb7 (fun q e9 => (OwnE.lt H7.out.1 q e9).1)) hm8))
                  clear hown8 hgr8 hat8 hm8
                  go_wp2_with fail
                  refine tail_mk (HCZ.out _ H8.out.2.1) ?_
                  repeat (
                    refine plan_take (v := ?_) rfl (Or.inl ⟨by rfl, ?_⟩) ?_
                    rotate_left
                    · (intro W hW; obtain ⟨q1⟩ := hW; go_simp; try with_reducible rfl)
                    simp only [Act.put, List.setIfInBounds_toArray, List.getElem_toArray, List.getElem_cons_zero, List.getElem_cons_succ, List.set_cons_succ, List.set_cons_zero])
                  refine plan_done ?_
                  go_wp2_with fail
                  go_ret
                  exact ⟨s8, c8, _, by rw [← H8.out.2.2]; rfl, by rw [← H8.out.2.2]; exact H8.out.1.mono9 HBY.out.2, HPA.out.1, HPA.out.2, bel_trans HBY.out.1 H8.out.2.1⟩
              · refine plan_alt rfl ?_ plan_stop
                go_wp2_with fail
                have hb6 := (Below.refl Y.heap.size Y).alloc (Nat.le_refl _) (.cells #[.int .i64 x1, .int .i64 x2, .int .i64 x3] 53)
                have hc6 := cells_new (W := Y) (cs := [.int .i64 x1, .int .i64 x2, .int .i64 x3]) (t := 53) rfl
                have E6 := Lib.hid (And.intro hb6 hc6)
                clear hb6 hc6
                refine tail_mk (HCZ.out _ E6.out.1) ?_
                refine plan_alt rfl ?_ plan_stop
                go_wp2_with fail
                have he7 := ownE_empty0 (E := elP) (w := Y.alloc (.cells #[.int .i64 x1, .int .i64 x2, .int .i64 x3] 53)) (base := Y.heap.size) (e := 53) (B := Y.heap.size + 1) (by rw [World.size_alloc]) (by rw [World.size_alloc]; omega)
                have hb7 := E6.out.1.alloc E6.out.1.size (.cells #[] 53)
                have hg7 := grownBy_alloc (Y.alloc (.cells #[.int .i64 x1, .int .i64 x2, .int .i64 x3] 53)) (.cells #[] 53)
                have E7 := Lib.hid (And.intro he7 (And.intro hb7 hg7))
                clear he7 hb7 hg7
                refine tail_mk (HCZ.out _ E7.out.2.1) ?_
                refine plan_alt rfl ?_ plan_stop
                have hl4 : (([] : List (Int × Int × Int)).length + (l.take n).length) * 24 ≤ 140737488355328 := by rw [List.length_take]; simp; omega
                have hm4 : ([] : List (Int × Int × Int)).length + (l.take n).length ≤ 1000000000000 := by rw [List.length_take]; simp; omega
                have hz4 := E7.out.2.1.size
                refine wp_appendSE (E := elP) (v := .slice (some ⟨Y.heap.size + 1, 0, none⟩) 0 0) sPf rfl rfl _ _ rfl rfl rfl E7.out.1 (HSR.out _ E7.out.2.1).1 hl4 hm4 hz4 ?_
                intro v4 w4 hown4 hgr4 hat4
                rw [List.nil_append] at hown4
                have H4 := Lib.hid (And.intro hown4 (And.intro (E7.out.2.1.grown hgr4 hz4 (fun q e9 => (OwnE.lt E7.out.1 q e9).1)) hgr4))
                clear hown4 hgr4 hat4
                go_wp2_with fail
                refine tail_mk (HCZ.out _ H4.out.2.1) ?_
                have HT := Lib.hid (show ∀ j y, [Value.int .i64 x1, .int .i64 x2, .int .i64 x3][j]? = some y → w4.cell? ⟨Y.heap.size, j, none⟩ = some y from fun j y hj => H4.out.2.2.cell (E7.out.2.2.cell (E6.out.2 j y hj) (by simp)) (by simp [Value.ownBlock]))
                refine plan_alt rfl ?_ plan_stop
                have hln : (l.take n).length = n := by rw [List.length_take]; omega
                have hlen1 : ((l.take n).length + 1) * 24 ≤ 140737488355328 := by omega
                have hlen2 : (l.take n).length + 1 ≤ 1000000000000 := by omega
                refine wp_appendE (E := elP) sPf rfl rfl _ _ rfl rfl Y.heap.size rfl H4.out.1 (x1, x2, x3) HT.out hlen1 hlen2 H4.out.2.1.size ?_
                intro v7 w7 hown7 hgr7 hat7
                have H7 := Lib.hid (And.intro hown7 (H4.out.2.1.grown hgr7 H4.out.2.1.size (fun q e9 => (OwnE.lt H4.out.1 q e9).1)))
                clear hown7 hgr7 hat7
                go_wp2_with fail
                refine tail_mk (HCZ.out _ H7.out.2) ?_
                refine plan_alt rfl ?_ plan_stop
                have hle1 : ((l.take n ++ [(x1, x2, x3)]).length + (l.drop n).length) * 24 ≤ 140737488355328 := by rw [List.length_append, List.length_drop, hln]; simp; omega
                have hle2 : (l.take n ++ [(x1, x2, x3)]).length + (l.drop n).length ≤ 1000000000000 := by rw [List.length_append, List.length_drop, hln]; simp; omega
                have hb7 := H7.out.2.size
                refine wp_appendSE (E := elP) sPf rfl rfl _ _ rfl rfl rfl H7.out.1 (HSR.out _ H7.out.2).2 hle1 hle2 hb7 ?_
                intro v8 w8 hown8 hgr8 hat8
                obtain ⟨m8, hm8⟩ : ∃ m8, m8 = (l.take n ++ [(x1, x2, x3)] ++ l.drop n).length := ⟨_, rfl⟩
                obtain ⟨s8, c8, rfl⟩ := hown8.shape hm8.symm
                have H8 := Lib.hid (And.intro hown8 (And.intro (H7.out.2.grown hgr8 hb7 (fun q e9 => (OwnE.lt H7.out.1 q e9).1)) hm8))
                clear hown8 hgr8 hat8 hm8
                go_wp2_with fail
                refine tail_mk (HCZ.out _ H8.out.2.1) ?_
                repeat (
                  refine plan_take (v := ?_) rfl (Or.inl ⟨by rfl, ?_⟩) ?_
                  rotate_left
                  · (intro W hW; obtain ⟨q1⟩ := hW; go_simp; try with_reducible rfl)
                  simp only [Act.put, List.setIfInBounds_toArray, List.getElem_toArray, List.getElem_cons_zero, List.getElem_cons_succ, List.set_cons_succ, List.set_cons_zero])
                refine plan_done ?_
                go_wp2_with fail
                go_ret
                exact ⟨s8, c8, _, by rw [← H8.out.2.2]; rfl, by rw [← H8.out.2.2]; exact H8.out.1.mono9 HBY.out.2, HPA.out.1, HPA.out.2, bel_trans HBY.out.1 H8.out.2.1⟩
            · have w9 : (y3 == x3) = false := by simpa using h9
              clear he h9
              go_quiet (fail)
              go_upto_region 6 with fail
              refine gen_code (fun Z => Below W1.heap.size W1 Z) (bel_trans HBZ.out (below_drewN (Below.refl _ _) _)) ?_
              intro Y0 hY0
              have hY := hY0.drew
              have hownY := OwnE.grown H1.out.1 (grownBy_below hY) (by cases (Value.slice a l.length c).ownBlock <;> simp)
              obtain ⟨u1, u2, s1, s2, hsrc⟩ := OwnE.cut sPf hownY n hn
              obtain ⟨Y, hYY⟩ : ∃ Y, Y = Y0.drew := ⟨_, rfl⟩
              rw [← hYY] at hY hownY
              have HCZ := Lib.hid (show ∀ Z, Below Y.heap.size Y Z → Z.cell? ⟨bx, 0, none⟩ = some (.int .i64 x1) ∧ Z.cell? ⟨bx, 1, none⟩ = some (.int .i64 x2) ∧ Z.cell? ⟨bx, 2, none⟩ = some (.int .i64 x3) from fun Z hZ => by
                have hb := bel_trans hY hZ
                exact ⟨(hb.cell (World.block_lt_of_cell? _ _ HX.out.1)).trans HX.out.1, (hb.cell (World.block_lt_of_cell? _ _ HX.out.2.1)).trans HX.out.2.1, (hb.cell (World.block_lt_of_cell? _ _ HX.out.2.2)).trans HX.out.2.2⟩)
              have HSR := Lib.hid (show ∀ Z, Below Y.heap.size Y Z → SrcE elP Z u1 (l.take n) ∧ SrcE elP Z u2 (l.drop n) from fun Z hZ => hsrc Z (OwnE.grown hownY (grownBy_below hZ) (by cases (Value.slice a l.length c).ownBlock <;> simp)))
              have HBY : Hid (Below W.heap.size W Y ∧ B ≤ Y.heap.size) := Lib.hid ⟨bel_trans H1.out.2 hY, by have := (bel_trans H1.out.2 hY).size; omega⟩
              have E0 : Hid (OwnE elP (Y.alloc (.cells #[] 53)) Y.heap.size 53 (.slice (some ⟨Y.heap.size, 0, none⟩) 0 0) [] ∧ Below Y.heap.size Y (Y.alloc (.cells #[] 53))) := Lib.hid ⟨ownE_empty0 rfl (Nat.le_refl _), (Below.refl _ _).alloc (Nat.le_refl _) _⟩
              have hcS := HCZ.out Y (Below.refl _ _)
              clear hY0 hY hownY hsrc
              refine wp_region_plan (.take 1 (.take 2 (.take 3 (.take 5 (.take 8 (.take 9 (.take 10 (.alt 0 (.alt 4 (.alt 6 (.alt 7 (.alt 11 (.take 12 .done) .stop) .stop) .stop) (.alt 6 (.alt 4 (.alt 7 (.alt 11 (.take 12 .done) .stop) .stop) .stop) .stop)) (.alt 6 (.alt 0 (.alt 4 (.alt 7 (.alt 11 (.take 12 .done) .stop) .stop) .stop) .stop) .stop)))))))))
                (fun w' => w'.cell? ⟨bx, 0, none⟩ = some (.int .i64 x1) ∧ w'.cell? ⟨bx, 1, none⟩ = some (.int .i64 x2) ∧ w'.cell? ⟨bx, 2, none⟩ = some (.int .i64 x3)) (by kernel_rfl) (by kernel_rfl) (by kernel_rfl) (by kernel_rfl) (by rw [← hYY]; exact hcS) ?_
              rw [← hYY]
              clear hYY hcS
              repeat (
                refine plan_take (v := ?_) rfl (Or.inl ⟨by rfl, ?_⟩) ?_
                rotate_left
                · (intro W hW; obtain ⟨q1, q2, q3⟩ := hW; go_simp; try with_reducible rfl)
                simp only [Act.put, List.setIfInBounds_toArray, List.getElem_toArray, List.getElem_cons_zero, List.getElem_cons_succ, List.set_cons_succ, List.set_cons_zero])
              refine plan_alt rfl ?_ ?_
              · go_wp2_with fail
                refine tail_mk (HCZ.out _ E0.out.2) ?_
                refine plan_alt rfl ?_ ?_
                · have hl4 : (([] : List (Int × Int × Int)).length + (l.take n).length) * 24 ≤ 140737488355328 := by rw [List.length_take]; simp; omega
                  have hm4 : ([] : List (Int × Int × Int)).length + (l.take n).length ≤ 1000000000000 := by rw [List.length_take]; simp; omega
                  have hz4 := E0.out.2.size
                  refine wp_appendSE (E := elP) (v := .slice (some ⟨Y.heap.size, 0, none⟩) 0 0) sPf rfl rfl _ _ rfl rfl rfl E0.out.1 (HSR.out _ E0.out.2).1 hl4 hm4 hz4 ?_
                  intro v4 w4 hown4 hgr4 hat4
                  rw [List.nil_append] at hown4
                  have H4 := Lib.hid (And.intro hown4 (And.intro (E0.out.2.grown hgr4 hz4 (fun q e9 => (OwnE.lt E0.out.1 q e9).1)) hgr4))
                  clear hown4 hgr4 hat4
                  go_wp2_with fail
                  refine tail_mk (HCZ.out _ H4.out.2.1) ?_
                  refine plan_alt rfl ?_ plan_stop
                  go_wp2_with fail
                  have hbl := H4.out.2.1.alloc H4.out.2.1.size (.cells #[.int .i64 x1, .int .i64 x2, .int .i64 x3] 53)
                  have how := OwnE.grown H4.out.1 (grownBy_alloc w4 (.cells #[.int .i64 x1, .int .i64 x2, .int .i64 x3] 53)) (by cases v4.ownBlock <;> simp)
                  have HT := Lib.hid (And.intro how (And.intro hbl (And.intro hbl.size (cells_new (W := w4) (cs := [.int .i64 x1, .int .i64 x2, .int .i64 x3]) (t := 53) rfl))))
                  clear hbl how
                  refine tail_mk (HCZ.out _ HT.out.2.1) ?_
                  refine plan_alt rfl ?_ plan_stop
                  have hln : (l.take n).length = n := by rw [List.length_take]; omega
                  have hlen1 : ((l.take n).length + 1) * 24 ≤ 140737488355328 := by omega
                  have hlen2 : (l.take n).length + 1 ≤ 1000000000000 := by omega
                  refine wp_appendE (E := elP) sPf rfl rfl _ _ rfl rfl w4.heap.size rfl HT.out.1 (x1, x2, x3) HT.out.2.2.2 hlen1 hlen2 HT.out.2.2.1 ?_
                  intro v7 w7 hown7 hgr7 hat7
                  have H7 := Lib.hid (And.intro hown7 (HT.out.2.1.grown hgr7 HT.out.2.2.1 (fun q e9 => (OwnE.lt HT.out.1 q e9).1)))
                  clear hown7 hgr7 hat7
                  go_wp2_with fail
                  refine tail_mk (HCZ.out _ H7.out.2) ?_
                  refine plan_alt rfl ?_ plan_stop
                  have hle1 : ((l.take n ++ [(x1, x2, x3)]).length + (l.drop n).length) * 24 ≤ 140737488355328 := by rw [List.length_append, List.length_drop, hln]; simp; omega
                  have hle2 : (l.take n ++ [(x1, x2, x3)]).length + (l.drop n).length ≤ 1000000000000 := by rw [List.length_append, List.length_drop, hln]; simp; omega
                  have hb7 := H7.out.2.size
                  refine wp_appendSE (E := elP) sPf rfl rfl _ _ rfl rfl rfl H7.out.1 (HSR.out _ H7.out.2).2 hle1 hle2 hb7 ?_
                  intro v8 w8 hown8 hgr8 hat8
                  obtain ⟨m8, hm8⟩ : ∃ m8, m8 = (l.take n ++ [(x1, x2, x3)] ++ l.drop n).length := ⟨_, rfl⟩
                  obtain ⟨s8, c8, rfl⟩ := hown8.shape hm8.symm
                  have H8 := Lib.hid (And.intro hown8 (And.intro (H7.out.2.grown hgr8 hb7 (fun q e9 => (OwnE.lt H7.out.1 q e9).1)) hm8))
                  clear hown8 hgr8 hat8 hm8
                  go_wp2_with fail
                  refine tail_mk (HCZ.out _ H8.out.2.1) ?_
                  repeat (
                    refine plan_take (v := ?_) rfl (Or.inl ⟨by rfl, ?_⟩) ?_
                    rotate_left
                    · (intro W hW; obtain ⟨q1⟩ := hW; go_simp; try with_reducible rfl)
                    simp only [Act.put, List.setIfInBounds_toArray, List.getElem_toArray, List.getElem_cons_zero, List.getElem_cons_succ, List.set_cons_succ, List.set_cons_zero])
                  refine plan_done ?_
                  go_wp2_with fail
                  go_ret
                  exact ⟨s8, c8, _, by rw [← H8.out.2.2]; rfl, by rw [← H8.out.2.2]; exact H8.out.1.mono9 HBY.out.2, HPA.out.1, HPA.out.2, bel_trans HBY.out.1 H8.out.2.1⟩
                · refine plan_alt rfl ?_ plan_stop
                  go_wp2_with fail
                  have hb6 := E0.out.2.alloc E0.out.2.size (.cells #[.int .i64 x1, .int .i64 x2, .int .i64 x3] 53)
                  have hc6 := cells_new (W := Y.alloc (.cells #[] 53)) (cs := [.int .i64 x1, .int .i64 x2, .int .i64 x3]) (t := 53) (B := Y.heap.size + 1) (by rw [World.size_alloc])
                  have E6 := Lib.hid (And.intro (OwnE.grown E0.out.1 (grownBy_alloc (Y.alloc (.cells #[] 53)) (.cells #[.int .i64 x1, .int .i64 x2, .int .i64 x3] 53)) (.inr (by simp [Value.ownBlock]))) (And.intro hb6 hc6))
                  clear hb6 hc6
                  refine tail_mk (HCZ.out _ E6.out.2.1) ?_
                  refine plan_alt rfl ?_ plan_stop
                  have hl4 : (([] : List (Int × Int × Int)).length + (l.take n).length) * 24 ≤ 140737488355328 := by rw [List.length_take]; simp; omega
                  have hm4 : ([] : List (Int × Int × Int)).length + (l.take n).length ≤ 1000000000000 := by rw [List.length_take]; simp; omega
                  have hz4 := E6.out.2.1.size
                  refine wp_appendSE (E := elP) (v := .slice (some ⟨Y.heap.size, 0, none⟩) 0 0) sPf rfl rfl _ _ rfl rfl rfl E6.out.1 (HSR.out _ E6.out.2.1).1 hl4 hm4 hz4 ?_
                  intro v4 w4 hown4 hgr4 hat4
                  rw [List.nil_append] at hown4
                  have H4 := Lib.hid (And.intro hown4 (And.intro (E6.out.2.1.grown hgr4 hz4 (fun q e9 => (OwnE.lt E6.out.1 q e9).1)) hgr4))
                  clear hown4 hgr4 hat4
                  go_wp2_with fail
                  refine tail_mk (HCZ.out _ H4.out.2.1) ?_
                  have HT := Lib.hid (show ∀ j y, [Value.int .i64 x1, .int .i64 x2, .int .i64 x3][j]? = some y → w4.cell? ⟨Y.heap.size + 1, j, none⟩ = some y from fun j y hj => H4.out.2.2.cell (E6.out.2.2 j y hj) (by simp [Value.ownBlock]))
                  refine plan_alt rfl ?_ plan_stop
                  have hln : (l.take n).length = n := by rw [List.length_take]; omega
                  have hlen1 : ((l.take n).length + 1) * 24 ≤ 140737488355328 := by omega
                  have hlen2 : (l.take n).length + 1 ≤ 1000000000000 := by omega
                  refine wp_appendE (E := elP) sPf rfl rfl _ _ rfl rfl (Y.heap.size + 1) rfl H4.out.1 (x1, x2, x3) HT.out hlen1 hlen2 H4.out.2.1.size ?_
                  intro v7 w7 hown7 hgr7 hat7
                  have H7 := Lib.hid (And.intro hown7 (H4.out.2.1.grown hgr7 H4.out.2.1.size (fun q e9 => (OwnE.lt H4.out.1 q e9).1)))
                  clear hown7 hgr7 hat7
                  go_wp2_with fail
                  refine tail_mk (HCZ.out _ H7.out.2) ?_
                  refine plan_alt rfl ?_ plan_stop
                  have hle1 : ((l.take n ++ [(x1, x2, x3)]).length + (l.drop n).length) * 24 ≤ 140737488355328 := by rw [List.length_append, List.length_drop, hln]; simp; omega
                  have hle2 : (l.take n ++ [(x1, x2, x3)]).length + (l.drop n).length ≤ 1000000000000 := by rw [List.length_append, List.length_drop, hln]; simp; omega
                  have hb7 := H7.out.2.size
                  refine wp_appendSE (E := elP) sPf rfl rfl _ _ rfl rfl rfl H7.out.1 (HSR.out _ H7.out.2).2 hle1 hle2 hb7 ?_
                  intro v8 w8 hown8 hgr8 hat8
                  obtain ⟨m8, hm8⟩ : ∃ m8, m8 = (l.take n ++ [(x1, x2, x3)] ++ l.drop n).length := ⟨_, rfl⟩
                  obtain ⟨s8, c8, rfl⟩ := hown8.shape hm8.symm
                  have H8 := Lib.hid (And.intro hown8 (And.intro (H7.out.2.grown hgr8 hb7 (fun q e9 => (OwnE.lt H7.out.1 q e9).1)) hm8))
                  clear hown8 hgr8 hat8 hm8
                  go_wp2_with fail
                  refine tail_mk (HCZ.out _ H8.out.2.1) ?_
                  repeat (
                    refine plan_take (v := ?_) rfl (Or.inl ⟨by rfl, ?_⟩) ?_
                    rotate_left
                    · (intro W hW; obtain ⟨q1⟩ := hW; go_simp; try with_reducible rfl)
                    simp only [Act.put, List.setIfInBounds_toArray, List.getElem_toArray, List.getElem_cons_zero, List.getElem_cons_succ, List.set_cons_succ, List.set_cons_zero])
                  refine plan_done ?_
                  go_wp2_with fail
                  go_ret
                  exact ⟨s8, c8, _, by rw [← H8.out.2.2]; rfl, by rw [← H8.out.2.2]; exact H8.out.1.mono9 HBY.out.2, HPA.out.1, HPA.out.2, bel_trans HBY.out.1 H8.out.2.1⟩
              · refine plan_alt rfl ?_ plan_stop
                go_wp2_with fail
                have hb6 := (Below.refl Y.heap.size Y).alloc (Nat.le_refl _) (.cells #[.int .i64 x1, .int .i64 x2, .int .i64 x3] 53)
                have hc6 := cells_new (W := Y) (cs := [.int .i64 x1, .int .i64 x2, .int .i64 x3]) (t := 53) rfl
                have E6 := Lib.hid (And.intro hb6 hc6)
                clear hb6 hc6
                refine tail_mk (HCZ.out _ E6.out.1) ?_
                refine plan_alt rfl ?_ plan_stop
                go_wp2_with fail
                have he7 := ownE_empty0 (E := elP) (w := Y.alloc (.cells #[.int .i64 x1, .int .i64 x2, .int .i64 x3] 53)) (base := Y.heap.size) (e := 53) (B := Y.heap.size + 1) (by rw [World.size_alloc]) (by rw [World.size_alloc]; omega)
                have hb7 := E6.out.1.alloc E6.out.1.size (.cells #[] 53)
                have hg7 := grownBy_alloc (Y.alloc (.cells #[.int .i64 x1, .int .i64 x2, .int .i64 x3] 53)) (.cells #[] 53)
                have E7 := Lib.hid (And.intro he7 (And.intro hb7 hg7))
                clear he7 hb7 hg7
                refine tail_mk (HCZ.out _ E7.out.2.1) ?_
                refine plan_alt rfl ?_ plan_stop
                have hl4 : (([] : List (Int × Int × Int)).length + (l.take n).length) * 24 ≤ 140737488355328 := by rw [List.length_take]; simp; omega
                have hm4 : ([] : List (Int × Int × Int)).length + (l.take n).length ≤ 1000000000000 := by rw [List.length_take]; simp; omega
                have hz4 := E7.out.2.1.size
                refine wp_appendSE (E := elP) (v := .slice (some ⟨Y.heap.size + 1, 0, none⟩) 0 0) sPf rfl rfl _ _ rfl rfl rfl E7.out.1 (HSR.out _ E7.out.2.1).1 hl4 hm4 hz4 ?_
                intro v4 w4 hown4 hgr4 hat4
                rw [List.nil_append] at hown4
                have H4 := Lib.hid (And.intro hown4 (And.intro (E7.out.2.1.grown hgr4 hz4 (fun q e9 => (OwnE.lt E7.out.1 q e9).1)) hgr4))
                clear hown4 hgr4 hat4
                go_wp2_with fail
                refine tail_mk (HCZ.out _ H4.out.2.1) ?_
                have HT := Lib.hid (show ∀ j y, [Value.int .i64 x1, .int .i64 x2, .int .i64 x3][j]? = some y → w4.cell? ⟨Y.heap.size, j, none⟩ = some y from fun j y hj => H4.out.2.2.cell (E7.out.2.2.cell (E6.out.2 j y hj) (by simp)) (by simp [Value.ownBlock]))
                refine plan_alt rfl ?_ plan_stop
                have hln : (l.take n).length = n := by rw [List.length_take]; omega
                have hlen1 : ((l.take n).length + 1) * 24 ≤ 140737488355328 := by omega
                have hlen2 : (l.take n).length + 1 ≤ 1000000000000 := by omega
                refine wp_appendE (E := elP) sPf rfl rfl _ _ rfl rfl Y.heap.size rfl H4.out.1 (x1, x2, x3) HT.out hlen1 hlen2 H4.out.2.1.size ?_
                intro v7 w7 hown7 hgr7 hat7
                have H7 := Lib.hid (And.intro hown7 (H4.out.2.1.grown hgr7 H4.out.2.1.size (fun q e9 => (OwnE.lt H4.out.1 q e9).1)))
                clear hown7 hgr7 hat7
                go_wp2_with fail
                refine tail_mk (HCZ.out _ H7.out.2) ?_
                refine plan_alt rfl ?_ plan_stop
                have hle1 : ((l.take n ++ [(x1, x2, x3)]).length + (l.drop n).length) * 24 ≤ 140737488355328 := by rw [List.length_append, List.length_drop, hln]; simp; omega
                have hle2 : (l.take n ++ [(x1, x2, x3)]).length + (l.drop n).length ≤ 1000000000000 := by rw [List.length_append, List.length_drop, hln]; simp; omega
                have hb7 := H7.out.2.size
                refine wp_appendSE (E := elP) sPf rfl rfl _ _ rfl rfl rfl H7.out.1 (HSR.out _ H7.out.2).2 hle1 hle2 hb7 ?_
                intro v8 w8 hown8 hgr8 hat8
                obtain ⟨m8, hm8⟩ : ∃ m8, m8 = (l.take n ++ [(x1, x2, x3)] ++ l.drop n).length := ⟨_, rfl⟩
                obtain ⟨s8, c8, rfl⟩ := hown8.shape hm8.symm
                have H8 := Lib.hid (And.intro hown8 (And.intro (H7.out.2.grown hgr8 hb7 (fun q e9 => (OwnE.lt H7.out.1 q e9).1)) hm8))
                clear hown8 hgr8 hat8 hm8
                go_wp2_with fail
                refine tail_mk (HCZ.out _ H8.out.2.1) ?_
                repeat (
                  refine plan_take (v := ?_) rfl (Or.inl ⟨by rfl, ?_⟩) ?_
                  rotate_left
                  · (intro W hW; obtain ⟨q1⟩ := hW; go_simp; try with_reducible rfl)
                  simp only [Act.put, List.setIfInBounds_toArray, List.getElem_toArray, List.getElem_cons_zero, List.getElem_cons_succ, List.set_cons_succ, List.set_cons_zero])
                refine plan_done ?_
                go_wp2_with fail
                go_ret
                exact ⟨s8, c8, _, by rw [← H8.out.2.2]; rfl, by rw [← H8.out.2.2]; exact H8.out.1.mono9 HBY.out.2, HPA.out.1, HPA.out.2, bel_trans HBY.out.1 H8.out.2.1⟩
        · have HJ : Hid (∀ j, j < n + 1 → lt3 (nth l j) (x1, x2, x3)) := Lib.hid fun j hj => by
            by_cases e : j = n
            · subst e; rw [← HY.out]; exact of_decide_eq_true HB.out.symm
            · exact HL.out.2 j (by omega)
          go_wp2_with fail
          go_roundw
          case rel => exact ⟨n + 1, by omega, by go_num, bel_trans HL.out.1 H3.out, HJ.out⟩
          case measure => simp [intOf]; omega
    · have hnli : ¬ (n : Int) < (l.length : Int) := by omega
      have HPA := Lib.hid (put_asc sto3 HS.out hn HL.out.2 (fun h9 => absurd h9 hnl))
      have HBZ := Lib.hid (fun q : Nat => bel_trans HL.out.1 (below_drewN (Below.refl wr.heap.size wr) q))
      go_upto_region 2 with fail
      go_quiet (fail)
      go_wp2_with fail
      go_quiet (fail)
      go_upto_region 6 with fail
      refine gen_code (fun Z => Below W1.heap.size W1 Z) (bel_trans (HBZ.out _) (below_drewN (Below.refl _ _) _)) ?_
      intro Y0 hY0
      have hY := hY0.drew
      have hownY := OwnE.grown H1.out.1 (grownBy_below hY) (by cases (Value.slice a l.length c).ownBlock <;> simp)
      obtain ⟨u1, u2, s1, s2, hsrc⟩ := OwnE.cut sPf hownY n hn
      obtain ⟨Y, hYY⟩ : ∃ Y, Y = Y0.drew := ⟨_, rfl⟩
      rw [← hYY] at hY hownY
      have HCZ := Lib.hid (show ∀ Z, Below Y.heap.size Y Z → Z.cell? ⟨bx, 0, none⟩ = some (.int .i64 x1) ∧ Z.cell? ⟨bx, 1, none⟩ = some (.int .i64 x2) ∧ Z.cell? ⟨bx, 2, none⟩ = some (.int .i64 x3) from fun Z hZ => by
        have hb := bel_trans hY hZ
        exact ⟨(hb.cell (World.block_lt_of_cell? _ _ HX.out.1)).trans HX.out.1, (hb.cell (World.block_lt_of_cell? _ _ HX.out.2.1)).trans HX.out.2.1, (hb.cell (World.block_lt_of_cell? _ _ HX.out.2.2)).trans HX.out.2.2⟩)
      have HSR := Lib.hid (show ∀ Z, Below Y.heap.size Y Z → SrcE elP Z u1 (l.take n) ∧ SrcE elP Z u2 (l.drop n) from fun Z hZ => hsrc Z (OwnE.grown hownY (grownBy_below hZ) (by cases (Value.slice a l.length c).ownBlock <;> simp)))
      have HBY : Hid (Below W.heap.size W Y ∧ B ≤ Y.heap.size) := Lib.hid ⟨bel_trans H1.out.2 hY, by have := (bel_trans H1.out.2 hY).size; omega⟩
      have E0 : Hid (OwnE elP (Y.alloc (.cells #[] 53)) Y.heap.size 53 (.slice (some ⟨Y.heap.size, 0, none⟩) 0 0) [] ∧ Below Y.heap.size Y (Y.alloc (.cells #[] 53))) := Lib.hid ⟨ownE_empty0 rfl (Nat.le_refl _), (Below.refl _ _).alloc (Nat.le_refl _) _⟩
      have hcS := HCZ.out Y (Below.refl _ _)
      clear hY0 hY hownY hsrc
      refine wp_region_plan (.take 1 (.take 2 (.take 3 (.take 5 (.take 8 (.take 9 (.take 10 (.alt 0 (.alt 4 (.alt 6 (.alt 7 (.alt 11 (.take 12 .done) .stop) .stop) .stop) (.alt 6 (.alt 4 (.alt 7 (.alt 11 (.take 12 .done) .stop) .stop) .stop) .stop)) (.alt 6 (.alt 0 (.alt 4 (.alt 7 (.alt 11 (.take 12 .done) .stop) .stop) .stop) .stop) .stop)))))))))
        (fun w' => w'.cell? ⟨bx, 0, none⟩ = some (.int .i64 x1) ∧ w'.cell? ⟨bx, 1, none⟩ = some (.int .i64 x2) ∧ w'.cell? ⟨bx, 2, none⟩ = some (.int .i64 x3)) (by kernel_rfl) (by kernel_rfl) (by kernel_rfl) (by kernel_rfl) (by rw [← hYY]; exact hcS) ?_
      rw [← hYY]
      clear hYY hcS
      repeat (
        refine plan_take (v := ?_) rfl (Or.inl ⟨by rfl, ?_⟩) ?_
        rotate_left
        · (intro W hW; obtain ⟨q1, q2, q3⟩ := hW; go_simp; try with_reducible rfl)
        simp only [Act.put, List.setIfInBounds_toArray, List.getElem_toArray, List.getElem_cons_zero, List.getElem_cons_succ, List.set_cons_succ, List.set_cons_zero])
      refine plan_alt rfl ?_ ?_
      · go_wp2_with fail
        refine tail_mk (HCZ.out _ E0.out.2) ?_
        refine plan_alt rfl ?_ ?_
        · have hl4 : (([] : List (Int × Int × Int)).length + (l.take n).length) * 24 ≤ 140737488355328 := by rw [List.length_take]; simp; omega
          have hm4 : ([] : List (Int × Int × Int)).length + (l.take n).length ≤ 1000000000000 := by rw [List.length_take]; simp; omega
          have hz4 := E0.out.2.size
          refine wp_appendSE (E := elP) (v := .slice (some ⟨Y.heap.size, 0, none⟩) 0 0) sPf rfl rfl _ _ rfl rfl rfl E0.out.1 (HSR.out _ E0.out.2).1 hl4 hm4 hz4 ?_
          intro v4 w4 hown4 hgr4 hat4
          rw [List.nil_append] at hown4
          have H4 := Lib.hid (And.intro hown4 (And.intro (E0.out.2.grown hgr4 hz4 (fun q e9 => (OwnE.lt E0.out.1 q e9).1)) hgr4))
          clear hown4 hgr4 hat4
          go_wp2_with fail
          refine tail_mk (HCZ.out _ H4.out.2.1) ?_
          refine plan_alt rfl ?_ plan_stop
          go_wp2_with fail
          have hbl := H4.out.2.1.alloc H4.out.2.1.size (.cells #[.int .i64 x1, .int .i64 x2, .int .i64 x3] 53)
          have how := OwnE.grown H4.out.1 (grownBy_alloc w4 (.cells #[.int .i64 x1, .int .i64 x2, .int .i64 x3] 53)) (by cases v4.ownBlock <;> simp)
          have HT := Lib.hid (And.intro how (And.intro hbl (And.intro hbl.size (cells_new (W := w4) (cs := [.int .i64 x1, .int .i64 x2, .int .i64 x3]) (t := 53) rfl))))
          clear hbl how
          refine tail_mk (HCZ.out _ HT.out.2.1) ?_
          refine plan_alt rfl ?_ plan_stop
          have hln : (l.take n).length = n := by rw [List.length_take]; omega
          have hlen1 : ((l.take n).length + 1) * 24 ≤ 140737488355328 := by omega
          have hlen2 : (l.take n).length + 1 ≤ 1000000000000 := by omega
          refine wp_appendE (E := elP) sPf rfl rfl _ _ rfl rfl w4.heap.size rfl HT.out.1 (x1, x2, x3) HT.out.2.2.2 hlen1 hlen2 HT.out.2.2.1 ?_
          intro v7 w7 hown7 hgr7 hat7
          have H7 := Lib.hid (And.intro hown7 (HT.out.2.1.grown hgr7 HT.out.2.2.1 (fun q e9 => (OwnE.lt HT.out.1 q e9).1)))
          clear hown7 hgr7 hat7
          go_wp2_with fail
          refine tail_mk (HCZ.out _ H7.out.2) ?_
          refine plan_alt rfl ?_ plan_stop
          have hle1 : ((l.take n ++ [(x1, x2, x3)]).length + (l.drop n).length) * 24 ≤ 140737488355328 := by rw [List.length_append, List.length_drop, hln]; simp; omega
          have hle2 : (l.take n ++ [(x1, x2, x3)]).length + (l.drop n).length ≤ 1000000000000 := by rw [List.length_append, List.length_drop, hln]; simp; omega
          have hb7 := H7.out.2.size
          refine wp_appendSE (E := elP) sPf rfl rfl _ _ rfl rfl rfl H7.out.1 (HSR.out _ H7.out.2).2 hle1 hle2 hb7 ?_
          intro v8 w8 hown8 hgr8 hat8
          obtain ⟨m8, hm8⟩ : ∃ m8, m8 = (l.take n ++ [(x1, x2, x3)] ++ l.drop n).length := ⟨_, rfl⟩
          obtain ⟨s8, c8, rfl⟩ := hown8.shape hm8.symm
          have H8 := Lib.hid (And.intro hown8 (And.intro (H7.out.2.grown hgr8 hb7 (fun q e9 => (OwnE.lt H7.out.1 q e9).1)) hm8))
          clear hown8 hgr8 hat8 hm8
          go_wp2_with fail
          refine tail_mk (HCZ.out _ H8.out.2.1) ?_
          repeat (
            refine plan_take (v := ?_) rfl (Or.inl ⟨by rfl, ?_⟩) ?_
            rotate_left
            · (intro W hW; obtain ⟨q1⟩ := hW; go_simp; try with_reducible rfl)
            simp only [Act.put, List.setIfInBounds_toArray, List.getElem_toArray, List.getElem_cons_zero, List.getElem_cons_succ, List.set_cons_succ, List.set_cons_zero])
          refine plan_done ?_
          go_wp2_with fail
          go_ret
          exact ⟨s8, c8, _, by rw [← H8.out.2.2]; rfl, by rw [← H8.out.2.2]; exact H8.out.1.mono9 HBY.out.2, HPA.out.1, HPA.out.2, bel_trans HBY.out.1 H8.out.2.1⟩
        · refine plan_alt rfl ?_ plan_stop
          go_wp2_with fail
          have hb6 := E0.out.2.alloc E0.out.2.size (.cells #[.int .i64 x1, .int .i64 x2, .int .i64 x3] 53)
          have hc6 := cells_new (W := Y.alloc (.cells #[] 53)) (cs := [.int .i64 x1, .int .i64 x2, .int .i64 x3]) (t := 53) (B := Y.heap.size + 1) (by rw [World.size_alloc])
          have E6 := Lib.hid (And.intro (OwnE.grown E0.out.1 (grownBy_alloc (Y.alloc (.cells #[] 53)) (.cells #[.int .i64 x1, .int .i64 x2, .int .i64 x3] 53)) (.inr (by simp [Value.ownBlock]))) (And.intro hb6 hc6))
          clear hb6 hc6
          refine tail_mk (HCZ.out _ E6.out.2.1) ?_
          refine plan_alt rfl ?_ plan_stop
          have hl4 : (([] : List (Int × Int × Int)).length + (l.take n).length) * 24 ≤ 140737488355328 := by rw [List.length_take]; simp; omega
          have hm4 : ([] : List (Int × Int × Int)).length + (l.take n).length ≤ 1000000000000 := by rw [List.length_take]; simp; omega
          have hz4 := E6.out.2.1.size
          refine wp_appendSE (E := elP) (v := .slice (some ⟨Y.heap.size, 0, none⟩) 0 0) sPf rfl rfl _ _ rfl rfl rfl E6.out.1 (HSR.out _ E6.out.2.1).1 hl4 hm4 hz4 ?_
          intro v4 w4 hown4 hgr4 hat4
          rw [List.nil_append] at hown4
          have H4 := Lib.hid (And.intro hown4 (And.intro (E6.out.2.1.grown hgr4 hz4 (fun q e9 => (OwnE.lt E6.out.1 q e9).1)) hgr4))
          clear hown4 hgr4 hat4
          go_wp2_with fail
          refine tail_mk (HCZ.out _ H4.out.2.1) ?_
          have HT := Lib.hid (show ∀ j y, [Value.int .i64 x1, .int .i64 x2, .int .i64 x3][j]? = some y → w4.cell? ⟨Y.heap.size + 1, j, none⟩ = some y from fun j y hj => H4.out.2.2.cell (E6.out.2.2 j y hj) (by simp [Value.ownBlock]))
          refine plan_alt rfl ?_ plan_stop
          have hln : (l.take n).length = n := by rw [List.length_take]; omega
          have hlen1 : ((l.take n).length + 1) * 24 ≤ 140737488355328 := by omega
          have hlen2 : (l.take n).length + 1 ≤ 1000000000000 := by omega
          refine wp_appendE (E := elP) sPf rfl rfl _ _ rfl rfl (Y.heap.size + 1) rfl H4.out.1 (x1, x2, x3) HT.out hlen1 hlen2 H4.out.2.1.size ?_
          intro v7 w7 hown7 hgr7 hat7
          have H7 := Lib.hid (And.intro hown7 (H4.out.2.1.grown hgr7 H4.out.2.1.size (fun q e9 => (OwnE.lt H4.out.1 q e9).1)))
          clear hown7 hgr7 hat7
          go_wp2_with fail
          refine tail_mk (HCZ.out _ H7.out.2) ?_
          refine plan_alt rfl ?_ plan_stop
          have hle1 : ((l.take n ++ [(x1, x2, x3)]).length + (l.drop n).length) * 24 ≤ 140737488355328 := by rw [List.length_append, List.length_drop, hln]; simp; omega
          have hle2 : (l.take n ++ [(x1, x2, x3)]).length + (l.drop n).length ≤ 1000000000000 := by rw [List.length_append, List.length_drop, hln]; simp; omega
          have hb7 := H7.out.2.size
          refine wp_appendSE (E := elP) sPf rfl rfl _ _ rfl rfl rfl H7.out.1 (HSR.out _ H7.out.2).2 hle1 hle2 hb7 ?_
          intro v8 w8 hown8 hgr8 hat8
          obtain ⟨m8, hm8⟩ : ∃ m8, m8 = (l.take n ++ [(x1, x2, x3)] ++ l.drop n).length := ⟨_, rfl⟩
          obtain ⟨s8, c8, rfl⟩ := hown8.shape hm8.symm
          have H8 := Lib.hid (And.intro hown8 (And.intro (H7.out.2.grown hgr8 hb7 (fun q e9 => (OwnE.lt H7.out.1 q e9).1)) hm8))
          clear hown8 hgr8 hat8 hm8
          go_wp2_with fail
          refine tail_mk (HCZ.out _ H8.out.2.1) ?_
          repeat (
            refine plan_take (v := ?_) rfl (Or.inl ⟨by rfl, ?_⟩) ?_
            rotate_left
            · (intro W hW; obtain ⟨q1⟩ := hW; go_simp; try with_reducible rfl)
            simp only [Act.put, List.setIfInBounds_toArray, List.getElem_toArray, List.getElem_cons_zero, List.getElem_cons_succ, List.set_cons_succ, List.set_cons_zero])
          refine plan_done ?_
          go_wp2_with fail
          go_ret
          exact ⟨s8, c8, _, by rw [← H8.out.2.2]; rfl, by rw [← H8.out.2.2]; exact H8.out.1.mono9 HBY.out.2, HPA.out.1, HPA.out.2, bel_trans HBY.out.1 H8.out.2.1⟩
      · refine plan_alt rfl ?_ plan_stop
        go_wp2_with fail
        have hb6 := (Below.refl Y.heap.size Y).alloc (Nat.le_refl _) (.cells #[.int .i64 x1, .int .i64 x2, .int .i64 x3] 53)
        have hc6 := cells_new (W := Y) (cs := [.int .i64 x1, .int .i64 x2, .int .i64 x3]) (t := 53) rfl
        have E6 := Lib.hid (And.intro hb6 hc6)
        clear hb6 hc6
        refine tail_mk (HCZ.out _ E6.out.1) ?_
        refine plan_alt rfl ?_ plan_stop
        go_wp2_with fail
        have he7 := ownE_empty0 (E := elP) (w := Y.alloc (.cells #[.int .i64 x1, .int .i64 x2, .int .i64 x3] 53)) (base := Y.heap.size) (e := 53) (B := Y.heap.size + 1) (by rw [World.size_alloc]) (by rw [World.size_alloc]; omega)
        have hb7 := E6.out.1.alloc E6.out.1.size (.cells #[] 53)
        have hg7 := grownBy_alloc (Y.alloc (.cells #[.int .i64 x1, .int .i64 x2, .int .i64 x3] 53)) (.cells #[] 53)
        have E7 := Lib.hid (And.intro he7 (And.intro hb7 hg7))
        clear he7 hb7 hg7
        refine tail_mk (HCZ.out _ E7.out.2.1) ?_
        refine plan_alt rfl ?_ plan_stop
        have hl4 : (([] : List (Int × Int × Int)).length + (l.take n).length) * 24 ≤ 140737488355328 := by rw [List.length_take]; simp; omega
        have hm4 : ([] : List (Int × Int × Int)).length + (l.take n).length ≤ 1000000000000 := by rw [List.length_take]; simp; omega
        have hz4 := E7.out.2.1.size
        refine wp_appendSE (E := elP) (v := .slice (some ⟨Y.heap.size + 1, 0, none⟩) 0 0) sPf rfl rfl _ _ rfl rfl rfl E7.out.1 (HSR.out _ E7.out.2.1).1 hl4 hm4 hz4 ?_
        intro v4 w4 hown4 hgr4 hat4
        rw [List.nil_append] at hown4
        have H4 := Lib.hid (And.intro hown4 (And.intro (E7.out.2.1.grown hgr4 hz4 (fun q e9 => (OwnE.lt E7.out.1 q e9).1)) hgr4))
        clear hown4 hgr4 hat4
        go_wp2_with fail
        refine tail_mk (HCZ.out _ H4.out.2.1) ?_
        have HT := Lib.hid (show ∀ j y, [Value.int .i64 x1, .int .i64 x2, .int .i64 x3][j]? = some y → w4.cell? ⟨Y.heap.size, j, none⟩ = some y from fun j y hj => H4.out.2.2.cell (E7.out.2.2.cell (E6.out.2 j y hj) (by simp)) (by simp [Value.ownBlock]))
        refine plan_alt rfl ?_ plan_stop
        have hln : (l.take n).length = n := by rw [List.length_take]; omega
        have hlen1 : ((l.take n).length + 1) * 24 ≤ 140737488355328 := by omega
        have hlen2 : (l.take n).length + 1 ≤ 1000000000000 := by omega
        refine wp_appendE (E := elP) sPf rfl rfl _ _ rfl rfl Y.heap.size rfl H4.out.1 (x1, x2, x3) HT.out hlen1 hlen2 H4.out.2.1.size ?_
        intro v7 w7 hown7 hgr7 hat7
        have H7 := Lib.hid (And.intro hown7 (H4.out.2.1.grown hgr7 H4.out.2.1.size (fun q e9 => (OwnE.lt H4.out.1 q e9).1)))
        clear hown7 hgr7 hat7
        go_wp2_with fail
        refine tail_mk (HCZ.out _ H7.out.2) ?_
        refine plan_alt rfl ?_ plan_stop
        have hle1 : ((l.take n ++ [(x1, x2, x3)]).length + (l.drop n).length) * 24 ≤ 140737488355328 := by rw [List.length_append, List.length_drop, hln]; simp; omega
        have hle2 : (l.take n ++ [(x1, x2, x3)]).length + (l.drop n).length ≤ 1000000000000 := by rw [List.length_append, List.length_drop, hln]; simp; omega
        have hb7 := H7.out.2.size
        refine wp_appendSE (E := elP) sPf rfl rfl _ _ rfl rfl rfl H7.out.1 (HSR.out _ H7.out.2).2 hle1 hle2 hb7 ?_
        intro v8 w8 hown8 hgr8 hat8
        obtain ⟨m8, hm8⟩ : ∃ m8, m8 = (l.take n ++ [(x1, x2, x3)] ++ l.drop n).length := ⟨_, rfl⟩
        obtain ⟨s8, c8, rfl⟩ := hown8.shape hm8.symm
        have H8 := Lib.hid (And.intro hown8 (And.intro (H7.out.2.grown hgr8 hb7 (fun q e9 => (OwnE.lt H7.out.1 q e9).1)) hm8))
        clear hown8 hgr8 hat8 hm8
        go_wp2_with fail
        refine tail_mk (HCZ.out _ H8.out.2.1) ?_
        repeat (
          refine plan_take (v := ?_) rfl (Or.inl ⟨by rfl, ?_⟩) ?_
          rotate_left
          · (intro W hW; obtain ⟨q1⟩ := hW; go_simp; try with_reducible rfl)
          simp only [Act.put, List.setIfInBounds_toArray, List.getElem_toArray, List.getElem_cons_zero, List.getElem_cons_succ, List.set_cons_succ, List.set_cons_zero])
        refine plan_done ?_
        go_wp2_with fail
        go_ret
        exact ⟨s8, c8, _, by rw [← H8.out.2.2]; rfl, by rw [← H8.out.2.2]; exact H8.out.1.mono9 HBY.out.2, HPA.out.1, HPA.out.2, bel_trans HBY.out.1 H8.out.2.1⟩
end Go.Proofs.Ytnklnklkblgnfaa
