/- Contract of the reference's putInt. -/
import Derived.Test.YtnklnklkblgnfaaOby
namespace Go.Obs
open Go.Dfl (nth nth_eq)
/-- An element put at the end, the part from n on moved one place on, the element put at n. -/
theorem ins_eq {α : Type} (l : List α) (x : α) (n : Nat) (hn : n ≤ l.length) : ((l ++ [x]).take (n + 1) ++ ((l ++ [x]).drop n).take ((l ++ [x]).length - (n + 1))).take n ++ [x] ++ ((l ++ [x]).take (n + 1) ++ ((l ++ [x]).drop n).take ((l ++ [x]).length - (n + 1))).drop (n + 1) = l.take n ++ [x] ++ l.drop n := by
  have h1 : ((l ++ [x]).take (n + 1)).length = n + 1 := by simp; omega
  congr 1
  · congr 1
    rw [List.take_append_of_le_length (by omega), List.take_take, Nat.min_eq_left (by omega), List.take_append_of_le_length hn]
  · rw [List.drop_append_of_le_length (by omega), List.drop_of_length_le (by omega), List.nil_append, List.drop_append_of_le_length hn, List.take_append_of_le_length (by simp), List.take_of_length_le (by simp)]
end Go.Obs
namespace Go.Proofs.Ytnklnklkblgnfaa
open Go.RowKit Go.Dfl Go.Gra Go.Obs Go.Sort Go.Maps
theorem wpList_copyR {P : Program} (w : World) {ops : Array Oper} {rest : List Oper} {o : Oper} {a : Act} {Q : Exit → Act → World → Prop} (hgd : o.guard = none) (d s : Operand) (t t' : TypeId)
    (ho : o.op = .call { callee := .builtin .copy, args := #[d, s], argTypes := #[t, t'] }) (v u : Value) (hd : a.eval d = v) (hs : a.eval s = u) {v' : Value} {w' : World}
    (hr : (Builtin.copy_ #[t, t'] o.type #[v, u]).run P w = .ok v' w') (h : wpList P ops Q rest (a.put o.dst v') w') : wpList P ops Q (o :: rest) a w :=
  wpList_plain hgd fun K hK => by
    unfold Oper.wp execOp
    simp only [ho, resolve, invoke, builtin, Sem.run_bind, Sem.run_pure, Result.andThen_ok, List.map_toArray, List.map_cons, List.map_nil, hd, hs, hr]
    exact hK _ _ h
theorem grow_on {W Z Z' : World} {row row' : Option Nat} (h : W.grownBy Z row) (h' : Z.grownBy Z' row') (hr : row' = row ∨ ∀ q, row' = some q → W.heap.size ≤ q) : W.grownBy Z' row :=
  ⟨h'.os.trans h.os, h'.tape.trans h.tape, h'.output.trans h.output, Nat.le_trans h.size h'.size, fun k hk hne => (h'.block k (Nat.lt_of_lt_of_le hk h.size) (by
    rcases hr with rfl | hr
    · exact hne
    · intro e; have := hr k e.symm; omega)).trans (h.block k hk hne)⟩
theorem grow_none {W Z : World} (h : W.grownBy Z none) (row : Option Nat) : W.grownBy Z row := ⟨h.os, h.tape, h.output, h.size, fun k hk _ => h.block k hk (by simp)⟩
theorem szN : (Try.prog.info? 32).map (·.size) = some elN.sz := by
  obtain ⟨i, hi, -, hs, -⟩ := sNf.info
  rw [hi]; exact congrArg some hs
def PutNR (B : Nat) (v : Value) (l : List (Int × Int × Int × Int)) (x : Int × Int × Int × Int) (W : World) (e : Ending) (W' : World) : Prop := ∃ a c l', e = .returned (.slice a l'.length c) ∧ OwnE elN W' B 32 (.slice a l'.length c) l' ∧ l'.Pairwise lt4 ∧ (∀ y, y ∈ l' ↔ y ∈ l ∨ y = x) ∧ W.grownBy W' v.ownBlock ∧ ((Value.slice a l'.length c).ownBlock = v.ownBlock ∨ ∀ q, (Value.slice a l'.length c).ownBlock = some q → W.heap.size ≤ q)
set_option maxHeartbeats 3200000 in
set_option maxRecDepth 100000 in
theorem putInt_any (B : Nat) (a : Option Addr) (c : Nat) (l : List (Int × Int × Int × Int)) (x : Int × Int × Int × Int) (W : World) (h : OwnE elN W B 32 (.slice a l.length c) l) (hs : l.Pairwise lt4) (hl : l.length ≤ 2000000) (hB : B ≤ W.heap.size) :
    Calls Try.prog 25 #[.slice a l.length c, nv x] W (PutNR B (.slice a l.length c) l x W) := by
  obtain ⟨x1, x2, x3, x4⟩ := x
  have hal := (Below.refl W.heap.size W).alloc (Nat.le_refl _) (.cells #[.int .i64 x1, .int .i64 x2, .int .i64 x3, .int .i64 x4] 32)
  have hbx := cells_new (W := W) (cs := [.int .i64 x1, .int .i64 x2, .int .i64 x3, .int .i64 x4]) (t := 32) rfl
  have hown := h.grown (grownBy_alloc W (.cells #[.int .i64 x1, .int .i64 x2, .int .i64 x3, .int .i64 x4] 32)) (by cases (Value.slice a l.length c).ownBlock <;> simp)
  have HS := Lib.hid (And.intro hs h.lt)
  clear h hs
  go_enter Try.func25, Try.ntmps25
  go_upto_region 1 with fail
  refine gen_code (fun Z => OwnE elN Z B 32 (.slice a l.length c) l ∧ Below W.heap.size W Z ∧ Z.cell? ⟨W.heap.size, 0, none⟩ = some (.int .i64 x1) ∧ Z.cell? ⟨W.heap.size, 1, none⟩ = some (.int .i64 x2) ∧ Z.cell? ⟨W.heap.size, 2, none⟩ = some (.int .i64 x3) ∧ Z.cell? ⟨W.heap.size, 3, none⟩ = some (.int .i64 x4)) ⟨hown, hal, hbx 0 _ rfl, hbx 1 _ rfl, hbx 2 _ rfl, hbx 3 _ rfl⟩ ?_
  intro W1 hz
  obtain ⟨bx, hbx9⟩ : ∃ bx, bx = W.heap.size := ⟨_, rfl⟩
  rw [← hbx9] at hz ⊢
  have HW := Lib.hid hbx9
  obtain ⟨r1, r2⟩ := OwnE.read hz.1 sNf
  have H1 := Lib.hid (And.intro hz.1 (show Below W.heap.size W W1 by rw [← hbx9]; exact hz.2.1))
  have HX := Lib.hid hz.2.2
  have HR := Lib.hid (And.intro r1 r2)
  clear hal hbx hown hz hbx9 r1 r2
  have HCX := Lib.hid (show ∀ Z, Below W1.heap.size W1 Z → Z.cell? ⟨bx, 0, none⟩ = some (.int .i64 x1) ∧ Z.cell? ⟨bx, 1, none⟩ = some (.int .i64 x2) ∧ Z.cell? ⟨bx, 2, none⟩ = some (.int .i64 x3) ∧ Z.cell? ⟨bx, 3, none⟩ = some (.int .i64 x4) from fun Z hZ =>
    ⟨(hZ.cell (World.block_lt_of_cell? _ _ HX.out.1)).trans HX.out.1, (hZ.cell (World.block_lt_of_cell? _ _ HX.out.2.1)).trans HX.out.2.1, (hZ.cell (World.block_lt_of_cell? _ _ HX.out.2.2.1)).trans HX.out.2.2.1, (hZ.cell (World.block_lt_of_cell? _ _ HX.out.2.2.2)).trans HX.out.2.2.2⟩)
  have HCY := Lib.hid (show ∀ n, n < l.length → ∀ Z, Below W1.heap.size W1 Z → Z.cell? ⟨blk a, ofs a + n * 4, none⟩ = some (.int .i64 (nth l n).1) ∧ Z.cell? ⟨blk a, ofs a + n * 4 + 1, none⟩ = some (.int .i64 (nth l n).2.1) ∧ Z.cell? ⟨blk a, ofs a + n * 4 + 2, none⟩ = some (.int .i64 (nth l n).2.2.1) ∧ Z.cell? ⟨blk a, ofs a + n * 4 + 3, none⟩ = some (.int .i64 (nth l n).2.2.2) from fun n hn Z hZ => by
    obtain ⟨hbl, hcl⟩ := HR.out.2 n hn
    exact ⟨(hZ.cell (p := ⟨blk a, ofs a + n * 4, none⟩) hbl).trans (hcl 0 _ rfl), (hZ.cell (p := ⟨blk a, ofs a + n * 4 + 1, none⟩) hbl).trans (hcl 1 _ rfl), (hZ.cell (p := ⟨blk a, ofs a + n * 4 + 2, none⟩) hbl).trans (hcl 2 _ rfl), (hZ.cell (p := ⟨blk a, ofs a + n * 4 + 3, none⟩) hbl).trans (hcl 3 _ rfl)⟩)
  go_wp2_with fail
  go_loopw [5, 6, 7] (fun lo hi _ wr => ∃ p q : Nat, p ≤ q ∧ q ≤ l.length ∧ lo = .int .i64 p ∧ hi = .int .i64 q ∧ Hid (Below W1.heap.size W1 wr ∧ (∀ j, j < p → lt4 (nth l j) (x1, x2, x3, x4)) ∧ ∀ j, q ≤ j → j < l.length → ¬ lt4 (nth l j) (x1, x2, x3, x4))) (fun lo hi _ _ => (intOf hi).toNat - (intOf lo).toNat)
  case atStart => exact ⟨0, l.length, by omega, by omega, rfl, rfl, Below.refl _ _, fun j hj => by omega, fun j h1 h2 => by omega⟩
  case round =>
    obtain ⟨p, q, hpq, hq, rfl, rfl, hh⟩ := hrel
    have HL := Lib.hid hh.out
    clear hh
    by_cases hlt : p < q
    · have hmid : (p + q) / 2 < l.length := by omega
      obtain ⟨m, hm⟩ : ∃ m, m = (p + q) / 2 := ⟨_, rfl⟩
      have hi2 := HR.out.1 (((p : Int) + q) / 2) (by omega) (by omega)
      rw [show (((p : Int) + q) / 2).toNat = m by omega, show elN.sz = 4 from rfl] at hi2
      obtain ⟨y, hy⟩ : ∃ y, y = nth l m := ⟨_, rfl⟩
      have hcy := HCY.out m (by omega)
      rw [← hy] at hcy
      obtain ⟨y1, y2, y3, y4⟩ := y
      have HSS := Lib.hid (show ∀ Z, Below wr.heap.size wr Z → (Z.cell? ⟨bx, 0, none⟩ = some (.int .i64 x1) ∧ Z.cell? ⟨bx, 1, none⟩ = some (.int .i64 x2) ∧ Z.cell? ⟨bx, 2, none⟩ = some (.int .i64 x3) ∧ Z.cell? ⟨bx, 3, none⟩ = some (.int .i64 x4)) ∧ Z.cell? ⟨blk a, ofs a + m * 4, none⟩ = some (.int .i64 y1) ∧ Z.cell? ⟨blk a, ofs a + m * 4 + 1, none⟩ = some (.int .i64 y2) ∧ Z.cell? ⟨blk a, ofs a + m * 4 + 2, none⟩ = some (.int .i64 y3) ∧ Z.cell? ⟨blk a, ofs a + m * 4 + 3, none⟩ = some (.int .i64 y4) from fun Z hZ => ⟨HCX.out Z (bel_trans HL.out.1 hZ), hcy Z (bel_trans HL.out.1 hZ)⟩)
      have HY := Lib.hid (And.intro hy hm)
      clear hcy hy hm
      go_upto_region 4 with fail
      have hdr : Below wr.heap.size wr wr.drew := (Below.refl _ _).drew
      refine wp_region_plan (.take 0 (.take 1 (.take 2 (.take 3 (.take 4 (.alt 5 .done .stop))))))
        (fun w' => (w'.cell? ⟨bx, 0, none⟩ = some (.int .i64 x1) ∧ w'.cell? ⟨bx, 1, none⟩ = some (.int .i64 x2) ∧ w'.cell? ⟨bx, 2, none⟩ = some (.int .i64 x3) ∧ w'.cell? ⟨bx, 3, none⟩ = some (.int .i64 x4)) ∧ w'.cell? ⟨blk a, ofs a + m * 4, none⟩ = some (.int .i64 y1) ∧ w'.cell? ⟨blk a, ofs a + m * 4 + 1, none⟩ = some (.int .i64 y2) ∧ w'.cell? ⟨blk a, ofs a + m * 4 + 2, none⟩ = some (.int .i64 y3) ∧ w'.cell? ⟨blk a, ofs a + m * 4 + 3, none⟩ = some (.int .i64 y4)) (by kernel_rfl) (by kernel_rfl) (by kernel_rfl) (by kernel_rfl) (HSS.out _ hdr) ?_
      have HD := Lib.hid hdr
      clear hdr
      generalize wr.drew = V at *
      repeat (
        refine plan_take (v := ?_) rfl (Or.inl ⟨by rfl, ?_⟩) ?_
        rotate_left
        · (intro W hW; obtain ⟨⟨q1, q2, q3, q9⟩, q4, q5, q6, q7⟩ := hW; go_simp; try with_reducible rfl)
        simp only [Act.put, List.setIfInBounds_toArray, List.getElem_toArray, List.getElem_cons_zero, List.getElem_cons_succ, List.set_cons_succ, List.set_cons_zero])
      refine plan_alt rfl ?_ plan_stop
      have HP := Lib.hid (lessInt_any (y1, y2, y3, y4) (x1, x2, x3, x4) V)
      go_wp2_with fail
      refine HP.out.mono ?_
      rintro e V5 ⟨rfl, hb5⟩
      have H5 := Lib.hid (bel_trans HD.out hb5)
      obtain ⟨b, hb⟩ : ∃ b, b = decide (lt4 (y1, y2, y3, y4) (x1, x2, x3, x4)) := ⟨_, rfl⟩
      rw [← hb]
      have HB := Lib.hid hb
      clear hb hb5 HP
      go_wp2_with fail
      refine tail_mk (HSS.out _ H5.out) ?_
      refine plan_done ?_
      cases b
      · have hny : ¬ lt4 (y1, y2, y3, y4) (x1, x2, x3, x4) := of_decide_eq_false HB.out.symm
        have HJ : Hid (∀ j, m ≤ j → j < l.length → ¬ lt4 (nth l j) (x1, x2, x3, x4)) := Lib.hid fun j hj hjl => by
          by_cases e : j = m
          · rw [e, ← HY.out.1]; exact hny
          · have h9 := List.pairwise_iff_getElem.1 HS.out.1 m j (by have := HY.out.2; omega) hjl (by omega)
            rw [← nth_eq l m (by have := HY.out.2; omega), ← nth_eq l j hjl, ← HY.out.1] at h9
            exact fun h8 => hny (sto4.trans h9 h8)
        clear hny
        go_wp2_with fail
        go_roundw
        case rel => exact ⟨p, m, by have := HY.out.2; omega, by have := HY.out.2; omega, rfl, by have := HY.out.2; go_num, bel_trans HL.out.1 H5.out, HL.out.2.1, HJ.out⟩
        case measure => simp [intOf]; omega
      · have hny : lt4 (y1, y2, y3, y4) (x1, x2, x3, x4) := of_decide_eq_true HB.out.symm
        have HJ : Hid (∀ j, j < m + 1 → lt4 (nth l j) (x1, x2, x3, x4)) := Lib.hid fun j hj => by
          by_cases e : j = m
          · rw [e, ← HY.out.1]; exact hny
          · have h9 := List.pairwise_iff_getElem.1 HS.out.1 j m (by have := HY.out.2; omega) (by have := HY.out.2; omega) (by omega)
            rw [← nth_eq l m (by have := HY.out.2; omega), ← nth_eq l j (by have := HY.out.2; omega), ← HY.out.1] at h9
            exact sto4.trans h9 hny
        clear hny
        go_wp2_with fail
        go_roundw
        case rel => exact ⟨m + 1, q, by have := HY.out.2; omega, hq, by have := HY.out.2; go_num, rfl, bel_trans HL.out.1 H5.out, HJ.out, HL.out.2.2⟩
        case measure => simp [intOf]; omega
    · obtain rfl : p = q := by omega
      clear hlt hpq
      by_cases hnl : p < l.length
      · have hnli : (p : Int) < (l.length : Int) := by omega
        obtain ⟨y, hy⟩ : ∃ y, y = nth l p := ⟨_, rfl⟩
        have hi2 := HR.out.1 (p : Int) (by omega) (by omega)
        rw [Int.toNat_natCast, show elN.sz = 4 from rfl] at hi2
        have hcy := HCY.out p hnl wr HL.out.1
        rw [← hy] at hcy
        have hcx := HCX.out wr HL.out.1
        obtain ⟨y1, y2, y3, y4⟩ := y
        obtain ⟨o1, o2, o3, o4⟩ := hcy
        obtain ⟨c0, c1, c2, c3⟩ := hcx
        have HY := Lib.hid hy
        have HBZ := Lib.hid (fun q : Nat => bel_trans HL.out.1 (below_drewN (Below.refl wr.heap.size wr) q))
        clear hy
        by_cases he : (y1, y2, y3, y4) = ((x1, x2, x3, x4) : Int × Int × Int × Int)
        · have HMX : Hid ((x1, x2, x3, x4) ∈ l) := Lib.hid (by rw [← he, HY.out]; exact nth_mem _ _ hnl)
          simp only [Prod.mk.injEq] at he
          obtain ⟨rfl, rfl, rfl, rfl⟩ := he
          go_wp2_with fail
          go_quiet (fail)
          go_wp2_with fail
          go_ret
          exact ⟨a, c, l, rfl, OwnE.grown H1.out.1 (grownBy_below (HBZ.out _)) (by cases (Value.slice a l.length c).ownBlock <;> simp), HS.out.1, fun y => ⟨.inl, fun h9 => h9.elim id (fun h9 => by rw [h9]; exact HMX.out)⟩, grow_none (grownBy_below (bel_trans H1.out.2 (HBZ.out _))) _, .inl rfl⟩
        · have hn9 : lt4 (x1, x2, x3, x4) (y1, y2, y3, y4) := by
            rcases sto4.tri (y1, y2, y3, y4) (x1, x2, x3, x4) with h9 | h9 | h9
            · rw [HY.out] at h9; exact absurd h9 (HL.out.2.2 p (Nat.le_refl _) hnl)
            · exact absurd h9 he
            · exact h9
          have HPA := Lib.hid (put_asc sto4 HS.out.1 hq HL.out.2.1 (fun _ => by rw [← HY.out]; exact hn9))
          simp only [Prod.mk.injEq] at he
          clear hn9
          rcases (by omega : y1 ≠ x1 ∨ (x1 = y1 ∧ y2 ≠ x2) ∨ (x1 = y1 ∧ x2 = y2 ∧ y3 ≠ x3) ∨ (x1 = y1 ∧ x2 = y2 ∧ x3 = y3 ∧ y4 ≠ x4)) with h9 | ⟨rfl, h9⟩ | ⟨rfl, rfl, h9⟩ | ⟨rfl, rfl, rfl, h9⟩
          · have w9 : (y1 == x1) = false := by simpa using h9
            clear he h9
            go_wp2_with fail
            go_quiet (fail)
            clear o1 o2 o3 o4 c0 c1 c2 c3 hi2
            go_upto_region 9 with fail
            refine gen_code (fun Z => Below W1.heap.size W1 Z) (HBZ.out _) ?_
            intro Z hZ
            obtain ⟨c0, c1, c2, c3⟩ := HCX.out Z hZ
            have hoZ := OwnE.grown H1.out.1 (grownBy_below hZ) (by cases (Value.slice a l.length c).ownBlock <;> simp)
            have hBZ : B ≤ (Z.alloc (.cells #[.int .i64 x1, .int .i64 x2, .int .i64 x3, .int .i64 x4] 32)).heap.size := by have := H1.out.2.size; have := hZ.size; rw [World.size_alloc]; omega
            have HO9 := Lib.hid (OwnE.grown hoZ (grownBy_alloc Z (.cells #[.int .i64 x1, .int .i64 x2, .int .i64 x3, .int .i64 x4] 32)) (by cases (Value.slice a l.length c).ownBlock <;> simp))
            have hga := grow_none (grownBy_below (bel_trans H1.out.2 (hZ.alloc hZ.size (.cells #[.int .i64 x1, .int .i64 x2, .int .i64 x3, .int .i64 x4] 32)))) (Value.slice a l.length c).ownBlock
            have hcx := HCX.out _ (hZ.alloc hZ.size (.cells #[.int .i64 x1, .int .i64 x2, .int .i64 x3, .int .i64 x4] 32))
            have HG := Lib.hid (And.intro hga hcx)
            have hlen1 : (l.length + 1) * 32 ≤ 140737488355328 := by omega
            have hlen2 : l.length + 1 ≤ 1000000000000 := by omega
            have HBX : Hid (bx < Z.heap.size ∧ bx = W.heap.size) := Lib.hid ⟨World.block_lt_of_cell? _ _ c0, HW.out⟩
            clear hoZ hga hcx hZ
            go_wp2_with (at_builtin; refine wp_appendE (E := elN) sNf rfl rfl _ _ rfl (v := .slice a l.length c) (l := l) (base := B) rfl Z.heap.size rfl HO9.out (x1, x2, x3, x4) (cells_new (W := Z) (cs := [.int .i64 x1, .int .i64 x2, .int .i64 x3, .int .i64 x4]) (t := 32) rfl) hlen1 hlen2 hBZ ?_; intro v9 w9 hown hgr hat; obtain ⟨m9, hm9⟩ : ∃ m9, m9 = (l ++ [(x1, x2, x3, x4)]).length := ⟨_, rfl⟩; obtain ⟨s9, c9, rfl⟩ := hown.shape hm9.symm; have H9 := Lib.hid (And.intro hown (And.intro hgr (And.intro hat hm9))); clear hown hgr hat hm9)
            have hr0 : some bx ≠ (Value.slice a l.length c).ownBlock := fun e9 => by have := (HS.out.2 bx e9.symm).2; have := HBX.out.2; omega
            have hr1 : (Value.slice s9 m9 c9).ownBlock = (Value.slice a l.length c).ownBlock ∨ ∀ q, (Value.slice s9 m9 c9).ownBlock = some q → W.heap.size ≤ q := H9.out.2.2.1.imp id (fun e9 q e8 => by rw [e9] at e8; have h8 := Option.some.inj e8; rw [World.size_alloc] at h8; have := HBX.out; omega)
            have hr2 : some bx ≠ (Value.slice s9 m9 c9).ownBlock := by
              rcases H9.out.2.2.1 with e9 | e9
              · rw [e9]; exact hr0
              · rw [e9]; intro e8; have h8 := Option.some.inj e8; rw [World.size_alloc] at h8; have := HBX.out.1; omega
            have hm9 : m9 = l.length + 1 := by rw [H9.out.2.2.2]; simp
            obtain ⟨S, hS⟩ : ∃ S, S = (l ++ [(x1, x2, x3, x4)]).take (p + 1) ++ ((l ++ [(x1, x2, x3, x4)]).drop p).take ((l ++ [(x1, x2, x3, x4)]).length - (p + 1)) := ⟨_, rfl⟩
            have hSl : S.length = m9 := by rw [hS, hm9]; simp; omega
            obtain ⟨d, s, hd, hsl, hcp⟩ := OwnE.shift sNf H9.out.1 p (by simp; omega)
            have HCP := Lib.hid hcp
            have HQ := Lib.hid (And.intro hr1 (And.intro hr2 (And.intro hm9 (And.intro hS hSl))))
            have hgV := grow_on (grow_on HG.out.1 H9.out.2.1 (.inl rfl)) (grownBy_below (show Below w9.heap.size w9 w9.drew from (Below.refl _ _).drew)) (.inr (by simp))
            have hoV := OwnE.grown H9.out.1 (grownBy_below (show Below w9.heap.size w9 w9.drew from (Below.refl _ _).drew)) (by cases (Value.slice s9 m9 c9).ownBlock <;> simp)
            have hcV : w9.drew.cell? ⟨bx, 0, none⟩ = some (.int .i64 x1) ∧ w9.drew.cell? ⟨bx, 1, none⟩ = some (.int .i64 x2) ∧ w9.drew.cell? ⟨bx, 2, none⟩ = some (.int .i64 x3) ∧ w9.drew.cell? ⟨bx, 3, none⟩ = some (.int .i64 x4) := ⟨H9.out.2.1.cell HG.out.2.1 hr0, H9.out.2.1.cell HG.out.2.2.1 hr0, H9.out.2.1.cell HG.out.2.2.2.1 hr0, H9.out.2.1.cell HG.out.2.2.2.2 hr0⟩
            have HV := Lib.hid (And.intro hgV (And.intro hoV hcV))
            have hw10 : IntKind.i64.wrap ((p : Int) + 1) = (p : Int) + 1 := by rw [IntKind.wrap_i64]; omega
            clear hcp hr0 hr1 hr2 hm9 hSl hS hgV hoV hcV c0 c1 c2 c3
            refine wp_region_plan (.take 0 (.take 1 (.take 2 (.take 3 (.take 4 (.take 5 (.take 6 (.alt 7 .done .stop)))))))) (fun _ => True) (by kernel_rfl) (by kernel_rfl) (by kernel_rfl) (by kernel_rfl) trivial ?_
            generalize w9.drew = V at *
            repeat (
              refine plan_take (v := ?_) rfl (Or.inl ⟨by rfl, ?_⟩) ?_
              rotate_left
              · (intro W hW; obtain ⟨q1⟩ := hW; go_simp; try with_reducible rfl)
              simp only [Act.put, List.setIfInBounds_toArray, List.getElem_toArray, List.getElem_cons_zero, List.getElem_cons_succ, List.set_cons_succ, List.set_cons_zero])
            refine plan_alt rfl ?_ plan_stop
            obtain ⟨V2, hrun, ho2, hg2⟩ := HCP.out V 3 HV.out.2.1
            refine wpList_copyR V rfl _ _ _ _ rfl d s rfl rfl hrun ?_
            have ho3 : OwnE elN V2 B 32 (.slice s9 S.length c9) S := by rw [HQ.out.2.2.2.2, HQ.out.2.2.2.1]; exact ho2
            have H10 := Lib.hid (And.intro ho3 hg2)
            clear hrun ho2 ho3 hg2 HCP
            go_wp2_with fail
            refine tail_mk trivial ?_
            refine plan_done ?_
            have j1 := (OwnE.read H10.out.1 sNf).1 (p : Int) (by omega) (by have := HQ.out.2.2; omega)
            rw [HQ.out.2.2.2.2, Int.toNat_natCast, show elN.sz = 4 from rfl] at j1
            have c0 := H10.out.2.cell HV.out.2.2.1 HQ.out.2.1
            have c1 := H10.out.2.cell HV.out.2.2.2.1 HQ.out.2.1
            have c2 := H10.out.2.cell HV.out.2.2.2.2.1 HQ.out.2.1
            have c3 := H10.out.2.cell HV.out.2.2.2.2.2 HQ.out.2.1
            have hpS : p < S.length := by have := HQ.out.2.2; omega
            go_wp2_with (refine wpList_storeE (E := elN) rfl _ _ rfl szN H10.out.1 p hpS (x1, x2, x3, x4) rfl rfl ?_; intro w11 hown hgr; have H11 := Lib.hid (And.intro hown hgr); clear hown hgr)
            go_ret
            have h11 := H11.out.1
            rw [HQ.out.2.2.2.2] at h11
            rw [HQ.out.2.2.2.1, ins_eq l _ p hq] at h11
            have hlen : (l.take p ++ [(x1, x2, x3, x4)] ++ l.drop p).length = m9 := by rw [HQ.out.2.2.1]; simp; omega
            refine ⟨s9, c9, _, by rw [hlen]; rfl, by rw [hlen]; exact h11, HPA.out.1, HPA.out.2, grow_on (grow_on HV.out.1 H10.out.2 HQ.out.1) H11.out.2 (by rw [HQ.out.2.2.2.2]; exact HQ.out.1), by rw [hlen]; exact HQ.out.1⟩
          · have w9 : (y2 == x2) = false := by simpa using h9
            clear he h9
            go_wp2_with fail
            go_quiet (fail)
            clear o1 o2 o3 o4 c0 c1 c2 c3 hi2
            go_upto_region 9 with fail
            refine gen_code (fun Z => Below W1.heap.size W1 Z) (HBZ.out _) ?_
            intro Z hZ
            obtain ⟨c0, c1, c2, c3⟩ := HCX.out Z hZ
            have hoZ := OwnE.grown H1.out.1 (grownBy_below hZ) (by cases (Value.slice a l.length c).ownBlock <;> simp)
            have hBZ : B ≤ (Z.alloc (.cells #[.int .i64 x1, .int .i64 x2, .int .i64 x3, .int .i64 x4] 32)).heap.size := by have := H1.out.2.size; have := hZ.size; rw [World.size_alloc]; omega
            have HO9 := Lib.hid (OwnE.grown hoZ (grownBy_alloc Z (.cells #[.int .i64 x1, .int .i64 x2, .int .i64 x3, .int .i64 x4] 32)) (by cases (Value.slice a l.length c).ownBlock <;> simp))
            have hga := grow_none (grownBy_below (bel_trans H1.out.2 (hZ.alloc hZ.size (.cells #[.int .i64 x1, .int .i64 x2, .int .i64 x3, .int .i64 x4] 32)))) (Value.slice a l.length c).ownBlock
            have hcx := HCX.out _ (hZ.alloc hZ.size (.cells #[.int .i64 x1, .int .i64 x2, .int .i64 x3, .int .i64 x4] 32))
            have HG := Lib.hid (And.intro hga hcx)
            have hlen1 : (l.length + 1) * 32 ≤ 140737488355328 := by omega
            have hlen2 : l.length + 1 ≤ 1000000000000 := by omega
            have HBX : Hid (bx < Z.heap.size ∧ bx = W.heap.size) := Lib.hid ⟨World.block_lt_of_cell? _ _ c0, HW.out⟩
            clear hoZ hga hcx hZ
            go_wp2_with (at_builtin; refine wp_appendE (E := elN) sNf rfl rfl _ _ rfl (v := .slice a l.length c) (l := l) (base := B) rfl Z.heap.size rfl HO9.out (x1, x2, x3, x4) (cells_new (W := Z) (cs := [.int .i64 x1, .int .i64 x2, .int .i64 x3, .int .i64 x4]) (t := 32) rfl) hlen1 hlen2 hBZ ?_; intro v9 w9 hown hgr hat; obtain ⟨m9, hm9⟩ : ∃ m9, m9 = (l ++ [(x1, x2, x3, x4)]).length := ⟨_, rfl⟩; obtain ⟨s9, c9, rfl⟩ := hown.shape hm9.symm; have H9 := Lib.hid (And.intro hown (And.intro hgr (And.intro hat hm9))); clear hown hgr hat hm9)
            have hr0 : some bx ≠ (Value.slice a l.length c).ownBlock := fun e9 => by have := (HS.out.2 bx e9.symm).2; have := HBX.out.2; omega
            have hr1 : (Value.slice s9 m9 c9).ownBlock = (Value.slice a l.length c).ownBlock ∨ ∀ q, (Value.slice s9 m9 c9).ownBlock = some q → W.heap.size ≤ q := H9.out.2.2.1.imp id (fun e9 q e8 => by rw [e9] at e8; have h8 := Option.some.inj e8; rw [World.size_alloc] at h8; have := HBX.out; omega)
            have hr2 : some bx ≠ (Value.slice s9 m9 c9).ownBlock := by
              rcases H9.out.2.2.1 with e9 | e9
              · rw [e9]; exact hr0
              · rw [e9]; intro e8; have h8 := Option.some.inj e8; rw [World.size_alloc] at h8; have := HBX.out.1; omega
            have hm9 : m9 = l.length + 1 := by rw [H9.out.2.2.2]; simp
            obtain ⟨S, hS⟩ : ∃ S, S = (l ++ [(x1, x2, x3, x4)]).take (p + 1) ++ ((l ++ [(x1, x2, x3, x4)]).drop p).take ((l ++ [(x1, x2, x3, x4)]).length - (p + 1)) := ⟨_, rfl⟩
            have hSl : S.length = m9 := by rw [hS, hm9]; simp; omega
            obtain ⟨d, s, hd, hsl, hcp⟩ := OwnE.shift sNf H9.out.1 p (by simp; omega)
            have HCP := Lib.hid hcp
            have HQ := Lib.hid (And.intro hr1 (And.intro hr2 (And.intro hm9 (And.intro hS hSl))))
            have hgV := grow_on (grow_on HG.out.1 H9.out.2.1 (.inl rfl)) (grownBy_below (show Below w9.heap.size w9 w9.drew from (Below.refl _ _).drew)) (.inr (by simp))
            have hoV := OwnE.grown H9.out.1 (grownBy_below (show Below w9.heap.size w9 w9.drew from (Below.refl _ _).drew)) (by cases (Value.slice s9 m9 c9).ownBlock <;> simp)
            have hcV : w9.drew.cell? ⟨bx, 0, none⟩ = some (.int .i64 x1) ∧ w9.drew.cell? ⟨bx, 1, none⟩ = some (.int .i64 x2) ∧ w9.drew.cell? ⟨bx, 2, none⟩ = some (.int .i64 x3) ∧ w9.drew.cell? ⟨bx, 3, none⟩ = some (.int .i64 x4) := ⟨H9.out.2.1.cell HG.out.2.1 hr0, H9.out.2.1.cell HG.out.2.2.1 hr0, H9.out.2.1.cell HG.out.2.2.2.1 hr0, H9.out.2.1.cell HG.out.2.2.2.2 hr0⟩
            have HV := Lib.hid (And.intro hgV (And.intro hoV hcV))
            have hw10 : IntKind.i64.wrap ((p : Int) + 1) = (p : Int) + 1 := by rw [IntKind.wrap_i64]; omega
            clear hcp hr0 hr1 hr2 hm9 hSl hS hgV hoV hcV c0 c1 c2 c3
            refine wp_region_plan (.take 0 (.take 1 (.take 2 (.take 3 (.take 4 (.take 5 (.take 6 (.alt 7 .done .stop)))))))) (fun _ => True) (by kernel_rfl) (by kernel_rfl) (by kernel_rfl) (by kernel_rfl) trivial ?_
            generalize w9.drew = V at *
            repeat (
              refine plan_take (v := ?_) rfl (Or.inl ⟨by rfl, ?_⟩) ?_
              rotate_left
              · (intro W hW; obtain ⟨q1⟩ := hW; go_simp; try with_reducible rfl)
              simp only [Act.put, List.setIfInBounds_toArray, List.getElem_toArray, List.getElem_cons_zero, List.getElem_cons_succ, List.set_cons_succ, List.set_cons_zero])
            refine plan_alt rfl ?_ plan_stop
            obtain ⟨V2, hrun, ho2, hg2⟩ := HCP.out V 3 HV.out.2.1
            refine wpList_copyR V rfl _ _ _ _ rfl d s rfl rfl hrun ?_
            have ho3 : OwnE elN V2 B 32 (.slice s9 S.length c9) S := by rw [HQ.out.2.2.2.2, HQ.out.2.2.2.1]; exact ho2
            have H10 := Lib.hid (And.intro ho3 hg2)
            clear hrun ho2 ho3 hg2 HCP
            go_wp2_with fail
            refine tail_mk trivial ?_
            refine plan_done ?_
            have j1 := (OwnE.read H10.out.1 sNf).1 (p : Int) (by omega) (by have := HQ.out.2.2; omega)
            rw [HQ.out.2.2.2.2, Int.toNat_natCast, show elN.sz = 4 from rfl] at j1
            have c0 := H10.out.2.cell HV.out.2.2.1 HQ.out.2.1
            have c1 := H10.out.2.cell HV.out.2.2.2.1 HQ.out.2.1
            have c2 := H10.out.2.cell HV.out.2.2.2.2.1 HQ.out.2.1
            have c3 := H10.out.2.cell HV.out.2.2.2.2.2 HQ.out.2.1
            have hpS : p < S.length := by have := HQ.out.2.2; omega
            go_wp2_with (refine wpList_storeE (E := elN) rfl _ _ rfl szN H10.out.1 p hpS (x1, x2, x3, x4) rfl rfl ?_; intro w11 hown hgr; have H11 := Lib.hid (And.intro hown hgr); clear hown hgr)
            go_ret
            have h11 := H11.out.1
            rw [HQ.out.2.2.2.2] at h11
            rw [HQ.out.2.2.2.1, ins_eq l _ p hq] at h11
            have hlen : (l.take p ++ [(x1, x2, x3, x4)] ++ l.drop p).length = m9 := by rw [HQ.out.2.2.1]; simp; omega
            refine ⟨s9, c9, _, by rw [hlen]; rfl, by rw [hlen]; exact h11, HPA.out.1, HPA.out.2, grow_on (grow_on HV.out.1 H10.out.2 HQ.out.1) H11.out.2 (by rw [HQ.out.2.2.2.2]; exact HQ.out.1), by rw [hlen]; exact HQ.out.1⟩
          · have w9 : (y3 == x3) = false := by simpa using h9
            clear he h9
            go_wp2_with fail
            go_quiet (fail)
            clear o1 o2 o3 o4 c0 c1 c2 c3 hi2
            go_upto_region 9 with fail
            refine gen_code (fun Z => Below W1.heap.size W1 Z) (HBZ.out _) ?_
            intro Z hZ
            obtain ⟨c0, c1, c2, c3⟩ := HCX.out Z hZ
            have hoZ := OwnE.grown H1.out.1 (grownBy_below hZ) (by cases (Value.slice a l.length c).ownBlock <;> simp)
            have hBZ : B ≤ (Z.alloc (.cells #[.int .i64 x1, .int .i64 x2, .int .i64 x3, .int .i64 x4] 32)).heap.size := by have := H1.out.2.size; have := hZ.size; rw [World.size_alloc]; omega
            have HO9 := Lib.hid (OwnE.grown hoZ (grownBy_alloc Z (.cells #[.int .i64 x1, .int .i64 x2, .int .i64 x3, .int .i64 x4] 32)) (by cases (Value.slice a l.length c).ownBlock <;> simp))
            have hga := grow_none (grownBy_below (bel_trans H1.out.2 (hZ.alloc hZ.size (.cells #[.int .i64 x1, .int .i64 x2, .int .i64 x3, .int .i64 x4] 32)))) (Value.slice a l.length c).ownBlock
            have hcx := HCX.out _ (hZ.alloc hZ.size (.cells #[.int .i64 x1, .int .i64 x2, .int .i64 x3, .int .i64 x4] 32))
            have HG := Lib.hid (And.intro hga hcx)
            have hlen1 : (l.length + 1) * 32 ≤ 140737488355328 := by omega
            have hlen2 : l.length + 1 ≤ 1000000000000 := by omega
            have HBX : Hid (bx < Z.heap.size ∧ bx = W.heap.size) := Lib.hid ⟨World.block_lt_of_cell? _ _ c0, HW.out⟩
            clear hoZ hga hcx hZ
            go_wp2_with (at_builtin; refine wp_appendE (E := elN) sNf rfl rfl _ _ rfl (v := .slice a l.length c) (l := l) (base := B) rfl Z.heap.size rfl HO9.out (x1, x2, x3, x4) (cells_new (W := Z) (cs := [.int .i64 x1, .int .i64 x2, .int .i64 x3, .int .i64 x4]) (t := 32) rfl) hlen1 hlen2 hBZ ?_; intro v9 w9 hown hgr hat; obtain ⟨m9, hm9⟩ : ∃ m9, m9 = (l ++ [(x1, x2, x3, x4)]).length := ⟨_, rfl⟩; obtain ⟨s9, c9, rfl⟩ := hown.shape hm9.symm; have H9 := Lib.hid (And.intro hown (And.intro hgr (And.intro hat hm9))); clear hown hgr hat hm9)
            have hr0 : some bx ≠ (Value.slice a l.length c).ownBlock := fun e9 => by have := (HS.out.2 bx e9.symm).2; have := HBX.out.2; omega
            have hr1 : (Value.slice s9 m9 c9).ownBlock = (Value.slice a l.length c).ownBlock ∨ ∀ q, (Value.slice s9 m9 c9).ownBlock = some q → W.heap.size ≤ q := H9.out.2.2.1.imp id (fun e9 q e8 => by rw [e9] at e8; have h8 := Option.some.inj e8; rw [World.size_alloc] at h8; have := HBX.out; omega)
            have hr2 : some bx ≠ (Value.slice s9 m9 c9).ownBlock := by
              rcases H9.out.2.2.1 with e9 | e9
              · rw [e9]; exact hr0
              · rw [e9]; intro e8; have h8 := Option.some.inj e8; rw [World.size_alloc] at h8; have := HBX.out.1; omega
            have hm9 : m9 = l.length + 1 := by rw [H9.out.2.2.2]; simp
            obtain ⟨S, hS⟩ : ∃ S, S = (l ++ [(x1, x2, x3, x4)]).take (p + 1) ++ ((l ++ [(x1, x2, x3, x4)]).drop p).take ((l ++ [(x1, x2, x3, x4)]).length - (p + 1)) := ⟨_, rfl⟩
            have hSl : S.length = m9 := by rw [hS, hm9]; simp; omega
            obtain ⟨d, s, hd, hsl, hcp⟩ := OwnE.shift sNf H9.out.1 p (by simp; omega)
            have HCP := Lib.hid hcp
            have HQ := Lib.hid (And.intro hr1 (And.intro hr2 (And.intro hm9 (And.intro hS hSl))))
            have hgV := grow_on (grow_on HG.out.1 H9.out.2.1 (.inl rfl)) (grownBy_below (show Below w9.heap.size w9 w9.drew from (Below.refl _ _).drew)) (.inr (by simp))
            have hoV := OwnE.grown H9.out.1 (grownBy_below (show Below w9.heap.size w9 w9.drew from (Below.refl _ _).drew)) (by cases (Value.slice s9 m9 c9).ownBlock <;> simp)
            have hcV : w9.drew.cell? ⟨bx, 0, none⟩ = some (.int .i64 x1) ∧ w9.drew.cell? ⟨bx, 1, none⟩ = some (.int .i64 x2) ∧ w9.drew.cell? ⟨bx, 2, none⟩ = some (.int .i64 x3) ∧ w9.drew.cell? ⟨bx, 3, none⟩ = some (.int .i64 x4) := ⟨H9.out.2.1.cell HG.out.2.1 hr0, H9.out.2.1.cell HG.out.2.2.1 hr0, H9.out.2.1.cell HG.out.2.2.2.1 hr0, H9.out.2.1.cell HG.out.2.2.2.2 hr0⟩
            have HV := Lib.hid (And.intro hgV (And.intro hoV hcV))
            have hw10 : IntKind.i64.wrap ((p : Int) + 1) = (p : Int) + 1 := by rw [IntKind.wrap_i64]; omega
            clear hcp hr0 hr1 hr2 hm9 hSl hS hgV hoV hcV c0 c1 c2 c3
            refine wp_region_plan (.take 0 (.take 1 (.take 2 (.take 3 (.take 4 (.take 5 (.take 6 (.alt 7 .done .stop)))))))) (fun _ => True) (by kernel_rfl) (by kernel_rfl) (by kernel_rfl) (by kernel_rfl) trivial ?_
            generalize w9.drew = V at *
            repeat (
              refine plan_take (v := ?_) rfl (Or.inl ⟨by rfl, ?_⟩) ?_
              rotate_left
              · (intro W hW; obtain ⟨q1⟩ := hW; go_simp; try with_reducible rfl)
              simp only [Act.put, List.setIfInBounds_toArray, List.getElem_toArray, List.getElem_cons_zero, List.getElem_cons_succ, List.set_cons_succ, List.set_cons_zero])
            refine plan_alt rfl ?_ plan_stop
            obtain ⟨V2, hrun, ho2, hg2⟩ := HCP.out V 3 HV.out.2.1
            refine wpList_copyR V rfl _ _ _ _ rfl d s rfl rfl hrun ?_
            have ho3 : OwnE elN V2 B 32 (.slice s9 S.length c9) S := by rw [HQ.out.2.2.2.2, HQ.out.2.2.2.1]; exact ho2
            have H10 := Lib.hid (And.intro ho3 hg2)
            clear hrun ho2 ho3 hg2 HCP
            go_wp2_with fail
            refine tail_mk trivial ?_
            refine plan_done ?_
            have j1 := (OwnE.read H10.out.1 sNf).1 (p : Int) (by omega) (by have := HQ.out.2.2; omega)
            rw [HQ.out.2.2.2.2, Int.toNat_natCast, show elN.sz = 4 from rfl] at j1
            have c0 := H10.out.2.cell HV.out.2.2.1 HQ.out.2.1
            have c1 := H10.out.2.cell HV.out.2.2.2.1 HQ.out.2.1
            have c2 := H10.out.2.cell HV.out.2.2.2.2.1 HQ.out.2.1
            have c3 := H10.out.2.cell HV.out.2.2.2.2.2 HQ.out.2.1
            have hpS : p < S.length := by have := HQ.out.2.2; omega
            go_wp2_with (refine wpList_storeE (E := elN) rfl _ _ rfl szN H10.out.1 p hpS (x1, x2, x3, x4) rfl rfl ?_; intro w11 hown hgr; have H11 := Lib.hid (And.intro hown hgr); clear hown hgr)
            go_ret
            have h11 := H11.out.1
            rw [HQ.out.2.2.2.2] at h11
            rw [HQ.out.2.2.2.1, ins_eq l _ p hq] at h11
            have hlen : (l.take p ++ [(x1, x2, x3, x4)] ++ l.drop p).length = m9 := by rw [HQ.out.2.2.1]; simp; omega
            refine ⟨s9, c9, _, by rw [hlen]; rfl, by rw [hlen]; exact h11, HPA.out.1, HPA.out.2, grow_on (grow_on HV.out.1 H10.out.2 HQ.out.1) H11.out.2 (by rw [HQ.out.2.2.2.2]; exact HQ.out.1), by rw [hlen]; exact HQ.out.1⟩
          · have w9 : (y4 == x4) = false := by simpa using h9
            clear he h9
            go_wp2_with fail
            go_quiet (fail)
            clear o1 o2 o3 o4 c0 c1 c2 c3 hi2
            go_upto_region 9 with fail
            refine gen_code (fun Z => Below W1.heap.size W1 Z) (HBZ.out _) ?_
            intro Z hZ
            obtain ⟨c0, c1, c2, c3⟩ := HCX.out Z hZ
            have hoZ := OwnE.grown H1.out.1 (grownBy_below hZ) (by cases (Value.slice a l.length c).ownBlock <;> simp)
            have hBZ : B ≤ (Z.alloc (.cells #[.int .i64 x1, .int .i64 x2, .int .i64 x3, .int .i64 x4] 32)).heap.size := by have := H1.out.2.size; have := hZ.size; rw [World.size_alloc]; omega
            have HO9 := Lib.hid (OwnE.grown hoZ (grownBy_alloc Z (.cells #[.int .i64 x1, .int .i64 x2, .int .i64 x3, .int .i64 x4] 32)) (by cases (Value.slice a l.length c).ownBlock <;> simp))
            have hga := grow_none (grownBy_below (bel_trans H1.out.2 (hZ.alloc hZ.size (.cells #[.int .i64 x1, .int .i64 x2, .int .i64 x3, .int .i64 x4] 32)))) (Value.slice a l.length c).ownBlock
            have hcx := HCX.out _ (hZ.alloc hZ.size (.cells #[.int .i64 x1, .int .i64 x2, .int .i64 x3, .int .i64 x4] 32))
            have HG := Lib.hid (And.intro hga hcx)
            have hlen1 : (l.length + 1) * 32 ≤ 140737488355328 := by omega
            have hlen2 : l.length + 1 ≤ 1000000000000 := by omega
            have HBX : Hid (bx < Z.heap.size ∧ bx = W.heap.size) := Lib.hid ⟨World.block_lt_of_cell? _ _ c0, HW.out⟩
            clear hoZ hga hcx hZ
            go_wp2_with (at_builtin; refine wp_appendE (E := elN) sNf rfl rfl _ _ rfl (v := .slice a l.length c) (l := l) (base := B) rfl Z.heap.size rfl HO9.out (x1, x2, x3, x4) (cells_new (W := Z) (cs := [.int .i64 x1, .int .i64 x2, .int .i64 x3, .int .i64 x4]) (t := 32) rfl) hlen1 hlen2 hBZ ?_; intro v9 w9 hown hgr hat; obtain ⟨m9, hm9⟩ : ∃ m9, m9 = (l ++ [(x1, x2, x3, x4)]).length := ⟨_, rfl⟩; obtain ⟨s9, c9, rfl⟩ := hown.shape hm9.symm; have H9 := Lib.hid (And.intro hown (And.intro hgr (And.intro hat hm9))); clear hown hgr hat hm9)
            have hr0 : some bx ≠ (Value.slice a l.length c).ownBlock := fun e9 => by have := (HS.out.2 bx e9.symm).2; have := HBX.out.2; omega
            have hr1 : (Value.slice s9 m9 c9).ownBlock = (Value.slice a l.length c).ownBlock ∨ ∀ q, (Value.slice s9 m9 c9).ownBlock = some q → W.heap.size ≤ q := H9.out.2.2.1.imp id (fun e9 q e8 => by rw [e9] at e8; have h8 := Option.some.inj e8; rw [World.size_alloc] at h8; have := HBX.out; omega)
            have hr2 : some bx ≠ (Value.slice s9 m9 c9).ownBlock := by
              rcases H9.out.2.2.1 with e9 | e9
              · rw [e9]; exact hr0
              · rw [e9]; intro e8; have h8 := Option.some.inj e8; rw [World.size_alloc] at h8; have := HBX.out.1; omega
            have hm9 : m9 = l.length + 1 := by rw [H9.out.2.2.2]; simp
            obtain ⟨S, hS⟩ : ∃ S, S = (l ++ [(x1, x2, x3, x4)]).take (p + 1) ++ ((l ++ [(x1, x2, x3, x4)]).drop p).take ((l ++ [(x1, x2, x3, x4)]).length - (p + 1)) := ⟨_, rfl⟩
            have hSl : S.length = m9 := by rw [hS, hm9]; simp; omega
            obtain ⟨d, s, hd, hsl, hcp⟩ := OwnE.shift sNf H9.out.1 p (by simp; omega)
            have HCP := Lib.hid hcp
            have HQ := Lib.hid (And.intro hr1 (And.intro hr2 (And.intro hm9 (And.intro hS hSl))))
            have hgV := grow_on (grow_on HG.out.1 H9.out.2.1 (.inl rfl)) (grownBy_below (show Below w9.heap.size w9 w9.drew from (Below.refl _ _).drew)) (.inr (by simp))
            have hoV := OwnE.grown H9.out.1 (grownBy_below (show Below w9.heap.size w9 w9.drew from (Below.refl _ _).drew)) (by cases (Value.slice s9 m9 c9).ownBlock <;> simp)
            have hcV : w9.drew.cell? ⟨bx, 0, none⟩ = some (.int .i64 x1) ∧ w9.drew.cell? ⟨bx, 1, none⟩ = some (.int .i64 x2) ∧ w9.drew.cell? ⟨bx, 2, none⟩ = some (.int .i64 x3) ∧ w9.drew.cell? ⟨bx, 3, none⟩ = some (.int .i64 x4) := ⟨H9.out.2.1.cell HG.out.2.1 hr0, H9.out.2.1.cell HG.out.2.2.1 hr0, H9.out.2.1.cell HG.out.2.2.2.1 hr0, H9.out.2.1.cell HG.out.2.2.2.2 hr0⟩
            have HV := Lib.hid (And.intro hgV (And.intro hoV hcV))
            have hw10 : IntKind.i64.wrap ((p : Int) + 1) = (p : Int) + 1 := by rw [IntKind.wrap_i64]; omega
            clear hcp hr0 hr1 hr2 hm9 hSl hS hgV hoV hcV c0 c1 c2 c3
            refine wp_region_plan (.take 0 (.take 1 (.take 2 (.take 3 (.take 4 (.take 5 (.take 6 (.alt 7 .done .stop)))))))) (fun _ => True) (by kernel_rfl) (by kernel_rfl) (by kernel_rfl) (by kernel_rfl) trivial ?_
            generalize w9.drew = V at *
            repeat (
              refine plan_take (v := ?_) rfl (Or.inl ⟨by rfl, ?_⟩) ?_
              rotate_left
              · (intro W hW; obtain ⟨q1⟩ := hW; go_simp; try with_reducible rfl)
              simp only [Act.put, List.setIfInBounds_toArray, List.getElem_toArray, List.getElem_cons_zero, List.getElem_cons_succ, List.set_cons_succ, List.set_cons_zero])
            refine plan_alt rfl ?_ plan_stop
            obtain ⟨V2, hrun, ho2, hg2⟩ := HCP.out V 3 HV.out.2.1
            refine wpList_copyR V rfl _ _ _ _ rfl d s rfl rfl hrun ?_
            have ho3 : OwnE elN V2 B 32 (.slice s9 S.length c9) S := by rw [HQ.out.2.2.2.2, HQ.out.2.2.2.1]; exact ho2
            have H10 := Lib.hid (And.intro ho3 hg2)
            clear hrun ho2 ho3 hg2 HCP
            go_wp2_with fail
            refine tail_mk trivial ?_
            refine plan_done ?_
            have j1 := (OwnE.read H10.out.1 sNf).1 (p : Int) (by omega) (by have := HQ.out.2.2; omega)
            rw [HQ.out.2.2.2.2, Int.toNat_natCast, show elN.sz = 4 from rfl] at j1
            have c0 := H10.out.2.cell HV.out.2.2.1 HQ.out.2.1
            have c1 := H10.out.2.cell HV.out.2.2.2.1 HQ.out.2.1
            have c2 := H10.out.2.cell HV.out.2.2.2.2.1 HQ.out.2.1
            have c3 := H10.out.2.cell HV.out.2.2.2.2.2 HQ.out.2.1
            have hpS : p < S.length := by have := HQ.out.2.2; omega
            go_wp2_with (refine wpList_storeE (E := elN) rfl _ _ rfl szN H10.out.1 p hpS (x1, x2, x3, x4) rfl rfl ?_; intro w11 hown hgr; have H11 := Lib.hid (And.intro hown hgr); clear hown hgr)
            go_ret
            have h11 := H11.out.1
            rw [HQ.out.2.2.2.2] at h11
            rw [HQ.out.2.2.2.1, ins_eq l _ p hq] at h11
            have hlen : (l.take p ++ [(x1, x2, x3, x4)] ++ l.drop p).length = m9 := by rw [HQ.out.2.2.1]; simp; omega
            refine ⟨s9, c9, _, by rw [hlen]; rfl, by rw [hlen]; exact h11, HPA.out.1, HPA.out.2, grow_on (grow_on HV.out.1 H10.out.2 HQ.out.1) H11.out.2 (by rw [HQ.out.2.2.2.2]; exact HQ.out.1), by rw [hlen]; exact HQ.out.1⟩
      · have hnli : ¬ (p : Int) < (l.length : Int) := by omega
        have HPA := Lib.hid (put_asc sto4 HS.out.1 hq HL.out.2.1 (fun h9 => absurd h9 hnl))
        have HBZ := Lib.hid (fun q : Nat => bel_trans HL.out.1 (below_drewN (Below.refl wr.heap.size wr) q))
        go_wp2_with fail
        go_quiet (fail)
        go_upto_region 9 with fail
        refine gen_code (fun Z => Below W1.heap.size W1 Z) (HBZ.out _) ?_
        intro Z hZ
        obtain ⟨c0, c1, c2, c3⟩ := HCX.out Z hZ
        have hoZ := OwnE.grown H1.out.1 (grownBy_below hZ) (by cases (Value.slice a l.length c).ownBlock <;> simp)
        have hBZ : B ≤ (Z.alloc (.cells #[.int .i64 x1, .int .i64 x2, .int .i64 x3, .int .i64 x4] 32)).heap.size := by have := H1.out.2.size; have := hZ.size; rw [World.size_alloc]; omega
        have HO9 := Lib.hid (OwnE.grown hoZ (grownBy_alloc Z (.cells #[.int .i64 x1, .int .i64 x2, .int .i64 x3, .int .i64 x4] 32)) (by cases (Value.slice a l.length c).ownBlock <;> simp))
        have hga := grow_none (grownBy_below (bel_trans H1.out.2 (hZ.alloc hZ.size (.cells #[.int .i64 x1, .int .i64 x2, .int .i64 x3, .int .i64 x4] 32)))) (Value.slice a l.length c).ownBlock
        have hcx := HCX.out _ (hZ.alloc hZ.size (.cells #[.int .i64 x1, .int .i64 x2, .int .i64 x3, .int .i64 x4] 32))
        have HG := Lib.hid (And.intro hga hcx)
        have hlen1 : (l.length + 1) * 32 ≤ 140737488355328 := by omega
        have hlen2 : l.length + 1 ≤ 1000000000000 := by omega
        have HBX : Hid (bx < Z.heap.size ∧ bx = W.heap.size) := Lib.hid ⟨World.block_lt_of_cell? _ _ c0, HW.out⟩
        clear hoZ hga hcx hZ
        go_wp2_with (at_builtin; refine wp_appendE (E := elN) sNf rfl rfl _ _ rfl (v := .slice a l.length c) (l := l) (base := B) rfl Z.heap.size rfl HO9.out (x1, x2, x3, x4) (cells_new (W := Z) (cs := [.int .i64 x1, .int .i64 x2, .int .i64 x3, .int .i64 x4]) (t := 32) rfl) hlen1 hlen2 hBZ ?_; intro v9 w9 hown hgr hat; obtain ⟨m9, hm9⟩ : ∃ m9, m9 = (l ++ [(x1, x2, x3, x4)]).length := ⟨_, rfl⟩; obtain ⟨s9, c9, rfl⟩ := hown.shape hm9.symm; have H9 := Lib.hid (And.intro hown (And.intro hgr (And.intro hat hm9))); clear hown hgr hat hm9)
        have hr0 : some bx ≠ (Value.slice a l.length c).ownBlock := fun e9 => by have := (HS.out.2 bx e9.symm).2; have := HBX.out.2; omega
        have hr1 : (Value.slice s9 m9 c9).ownBlock = (Value.slice a l.length c).ownBlock ∨ ∀ q, (Value.slice s9 m9 c9).ownBlock = some q → W.heap.size ≤ q := H9.out.2.2.1.imp id (fun e9 q e8 => by rw [e9] at e8; have h8 := Option.some.inj e8; rw [World.size_alloc] at h8; have := HBX.out; omega)
        have hr2 : some bx ≠ (Value.slice s9 m9 c9).ownBlock := by
          rcases H9.out.2.2.1 with e9 | e9
          · rw [e9]; exact hr0
          · rw [e9]; intro e8; have h8 := Option.some.inj e8; rw [World.size_alloc] at h8; have := HBX.out.1; omega
        have hm9 : m9 = l.length + 1 := by rw [H9.out.2.2.2]; simp
        obtain ⟨S, hS⟩ : ∃ S, S = (l ++ [(x1, x2, x3, x4)]).take (p + 1) ++ ((l ++ [(x1, x2, x3, x4)]).drop p).take ((l ++ [(x1, x2, x3, x4)]).length - (p + 1)) := ⟨_, rfl⟩
        have hSl : S.length = m9 := by rw [hS, hm9]; simp; omega
        obtain ⟨d, s, hd, hsl, hcp⟩ := OwnE.shift sNf H9.out.1 p (by simp; omega)
        have HCP := Lib.hid hcp
        have HQ := Lib.hid (And.intro hr1 (And.intro hr2 (And.intro hm9 (And.intro hS hSl))))
        have hgV := grow_on (grow_on HG.out.1 H9.out.2.1 (.inl rfl)) (grownBy_below (show Below w9.heap.size w9 w9.drew from (Below.refl _ _).drew)) (.inr (by simp))
        have hoV := OwnE.grown H9.out.1 (grownBy_below (show Below w9.heap.size w9 w9.drew from (Below.refl _ _).drew)) (by cases (Value.slice s9 m9 c9).ownBlock <;> simp)
        have hcV : w9.drew.cell? ⟨bx, 0, none⟩ = some (.int .i64 x1) ∧ w9.drew.cell? ⟨bx, 1, none⟩ = some (.int .i64 x2) ∧ w9.drew.cell? ⟨bx, 2, none⟩ = some (.int .i64 x3) ∧ w9.drew.cell? ⟨bx, 3, none⟩ = some (.int .i64 x4) := ⟨H9.out.2.1.cell HG.out.2.1 hr0, H9.out.2.1.cell HG.out.2.2.1 hr0, H9.out.2.1.cell HG.out.2.2.2.1 hr0, H9.out.2.1.cell HG.out.2.2.2.2 hr0⟩
        have HV := Lib.hid (And.intro hgV (And.intro hoV hcV))
        have hw10 : IntKind.i64.wrap ((p : Int) + 1) = (p : Int) + 1 := by rw [IntKind.wrap_i64]; omega
        clear hcp hr0 hr1 hr2 hm9 hSl hS hgV hoV hcV c0 c1 c2 c3
        refine wp_region_plan (.take 0 (.take 1 (.take 2 (.take 3 (.take 4 (.take 5 (.take 6 (.alt 7 .done .stop)))))))) (fun _ => True) (by kernel_rfl) (by kernel_rfl) (by kernel_rfl) (by kernel_rfl) trivial ?_
        generalize w9.drew = V at *
        repeat (
          refine plan_take (v := ?_) rfl (Or.inl ⟨by rfl, ?_⟩) ?_
          rotate_left
          · (intro W hW; obtain ⟨q1⟩ := hW; go_simp; try with_reducible rfl)
          simp only [Act.put, List.setIfInBounds_toArray, List.getElem_toArray, List.getElem_cons_zero, List.getElem_cons_succ, List.set_cons_succ, List.set_cons_zero])
        refine plan_alt rfl ?_ plan_stop
        obtain ⟨V2, hrun, ho2, hg2⟩ := HCP.out V 3 HV.out.2.1
        refine wpList_copyR V rfl _ _ _ _ rfl d s rfl rfl hrun ?_
        have ho3 : OwnE elN V2 B 32 (.slice s9 S.length c9) S := by rw [HQ.out.2.2.2.2, HQ.out.2.2.2.1]; exact ho2
        have H10 := Lib.hid (And.intro ho3 hg2)
        clear hrun ho2 ho3 hg2 HCP
        go_wp2_with fail
        refine tail_mk trivial ?_
        refine plan_done ?_
        have j1 := (OwnE.read H10.out.1 sNf).1 (p : Int) (by omega) (by have := HQ.out.2.2; omega)
        rw [HQ.out.2.2.2.2, Int.toNat_natCast, show elN.sz = 4 from rfl] at j1
        have c0 := H10.out.2.cell HV.out.2.2.1 HQ.out.2.1
        have c1 := H10.out.2.cell HV.out.2.2.2.1 HQ.out.2.1
        have c2 := H10.out.2.cell HV.out.2.2.2.2.1 HQ.out.2.1
        have c3 := H10.out.2.cell HV.out.2.2.2.2.2 HQ.out.2.1
        have hpS : p < S.length := by have := HQ.out.2.2; omega
        go_wp2_with (refine wpList_storeE (E := elN) rfl _ _ rfl szN H10.out.1 p hpS (x1, x2, x3, x4) rfl rfl ?_; intro w11 hown hgr; have H11 := Lib.hid (And.intro hown hgr); clear hown hgr)
        go_ret
        have h11 := H11.out.1
        rw [HQ.out.2.2.2.2] at h11
        rw [HQ.out.2.2.2.1, ins_eq l _ p hq] at h11
        have hlen : (l.take p ++ [(x1, x2, x3, x4)] ++ l.drop p).length = m9 := by rw [HQ.out.2.2.1]; simp; omega
        refine ⟨s9, c9, _, by rw [hlen]; rfl, by rw [hlen]; exact h11, HPA.out.1, HPA.out.2, grow_on (grow_on HV.out.1 H10.out.2 HQ.out.1) H11.out.2 (by rw [HQ.out.2.2.2.2]; exact HQ.out.1), by rw [hlen]; exact HQ.out.1⟩
end Go.Proofs.Ytnklnklkblgnfaa
