/- Contract of the solver's store (printed by wip/mkstore.py). -/
import Derived.Test.YtkfhopnolflchaaAndU
namespace Go.Proofs.Ytkfhopnolflchaa
open Go.RowKit Go.Dfl Go.And


set_option maxHeartbeats 6400000 in
set_option maxRecDepth 100000 in
theorem store_any {S : Syst} {w0 : World} {sv : Nat} {rl : Nat → Nat} {V : Vals} {st : St} {W : World} (h : Mem S w0 sv rl V st W) (c : C) (sa : Option Addr) (sn sc : Nat) (ha : c.b < S.vars) (hb : c.a < S.vars) (hf : c.f < S.fields) (hN : S.N ≤ 1000000) (hF : S.fields ≤ 1000000) (hSi : S.sites ≤ 1000000) (hV : S.vars ≤ 1000000) (htd : st.todo.length ≤ 500000) (hcp : ∀ i, (st.cp i).length ≤ 50000000) (hld : (st.sr c.b).length ≤ 1000000) (hbd : ∀ i x, st.p i x = true → x < S.sites) :
    Calls Try.prog 42 #[.pointer (some ⟨sv, 0, none⟩), .agg #[.int .i64 c.k, .int .i64 c.a, .int .i64 c.b, .int .i64 c.f, .slice sa sn sc]] W
      (DoesP (fun x y => ∃ L : List Nat, L.Pairwise (· < ·) ∧ (∀ z, x.p c.b z = true ↔ z ∈ L) ∧ Joins (L.map fun z => (c.a, S.cell z c.f)) { x with sr := upd x.sr c.b (x.sr c.b ++ [c]) } y) S w0 sv rl st W) := by
  have haN := vN ha
  have hbN := vN hb
  have HM0 := Lib.hid h
  have HA := Lib.hid (And.intro hcp (And.intro hbd (And.intro hf hld)))
  clear h hcp hbd
  go_enter Try.func42, Try.ntmps42
  go_wp2_with fail
  refine wp_gen (fun Z => Mem S w0 sv rl V st Z ∧ Ext rl rl W Z ∧ BoxC Z W.heap.size c.k c.a c.b c.f (.slice sa sn sc) ∧ rl W.heap.size = 0) ⟨HM0.out.keep (grownBy_alloc _ _), Ext.grown (grownBy_alloc _ _), BoxC.new _ _ _ _ _ _ _, HM0.out.fr _ (Nat.le_refl _)⟩ ?_
  intro W1 h1
  obtain ⟨bw, hbw⟩ : ∃ bw, bw = W.heap.size := ⟨_, rfl⟩
  rw [← hbw] at h1 ⊢
  clear hbw
  obtain ⟨la, lc, hla⟩ := h1.1.srV
  have i1 := h1.1.srIx hla ha
  obtain ⟨c8, cL, fL⟩ := h1.1.srAt hla ha
  obtain ⟨d0, d1, d2, d3, d4⟩ := h1.2.2.1
  have hC := h1.1.sr (by omega)
  have hbs : some sv ≠ (nth V.svs c.b).ownBlock := fun e => by
    have := hC.role sv (.inr ⟨c.b, by rw [hC.own.len, hC.len]; exact ha, e.symm⟩)
    rw [h1.1.rbox] at this; omega
  have hbo : some (blk la) ≠ (nth V.svs c.b).ownBlock := fun e => by
    have hC2 := hC
    rw [hla] at hC2
    exact hC2.own.apart c.b (by rw [hC2.len]; exact ha) (blk la) e.symm (own_blk hC2.own.out (i := c.b) (by rw [hC2.own.len, hC2.len]; exact ha))
  have hbb : some bw ≠ (nth V.svs c.b).ownBlock := fun e => by
    have := hC.role bw (.inr ⟨c.b, by rw [hC.own.len, hC.len]; exact ha, e.symm⟩)
    rw [h1.2.2.2] at this; omega
  have hlen : (nth V.sll c.b).length ≤ 1000000 := by rw [(hC.mean c.b ha).1]; exact HA.out.2.2.2
  have HB := Lib.hid (And.intro hbs (And.intro hbo (And.intro hbb hlen)))
  have hsz := h1.1.bel.size
  have HM := Lib.hid (And.intro h1 hla)
  clear h1 hla hC hbs hbo hbb hlen
  refine wp_region_mix [0, 1, 2, 3, 4, 5, 6, 7, 8, 9, 10, 11, 12, 13, 14] [15, 16, 17, 18] (fun w' => w'.cell? ⟨sv, 9, none⟩ = some (.slice la S.vars lc) ∧ w'.cell? ⟨blk la, ofs la + c.b, none⟩ = some (nth V.svs c.b) ∧ BoxC w' bw c.k c.a c.b c.f (.slice sa sn sc)) (by kernel_rfl) (by kernel_rfl) (by kernel_rfl) ⟨c8, cL, d0, d1, d2, d3, d4⟩ ?_
  repeat (
    refine wpHeads_cons (v := ?_) rfl (Or.inl ⟨by rfl, ?_⟩) ?_
    rotate_left
    · (intro W hW; obtain ⟨q1, q2, q3, q4, q5, q6, q7⟩ := hW; go_simp; try with_reducible rfl)
    simp only [Act.put, List.setIfInBounds_toArray])
  refine wpHeads_nil ?_
  refine wpTails_cons rfl ?_
  go_wp2_with fail
  have g2 : W1.grownBy ((W1.alloc (.cells #[.int .i64 (c.k : Int), .int .i64 c.a, .int .i64 c.b, .int .i64 c.f, .slice sa sn sc] 37)).drew) none := grownBy_trans (grownBy_alloc _ _) (grownBy_drew0 _)
  have m2 := HM.out.1.1.keep g2
  have e2 := HM.out.1.2.1.trans (Ext.grown (rl := rl) g2)
  refine tail_mk (cells7_keep ⟨c8, cL, d0, d1, d2, d3, d4⟩ g2 (by simp) (by simp) (by simp)) ?_
  refine wpTails_cons rfl ?_
  have HM2 := Lib.hid (And.intro m2 (And.intro e2 g2))
  clear m2 e2 g2
  refine wp_appendE (E := elC) sCon rfl rfl _ _ rfl (v := nth V.svs c.b) (l := nth V.sll c.b) (base := w0.heap.size) rfl W1.heap.size rfl ((HM2.out.1.sr (by omega)).own.inn c.b (by rw [(HM2.out.1.sr (by omega)).len]; exact ha)) ⟨c.k, c.a, c.b, c.f, sa, sn, sc⟩ (cells_new (W := W1) (cs := [.int .i64 (c.k : Int), .int .i64 c.a, .int .i64 c.b, .int .i64 c.f, .slice sa sn sc]) (t := 37) rfl) (by have := HB.out.2.2.2; omega) (by have := HB.out.2.2.2; omega) (by simp; omega) ?_
  intro v31 w31 o31 g31 l31
  obtain ⟨s31, c31, rfl⟩ := o31.shape (n := (nth V.sll c.b).length + 1) (by simp)
  have hS31 := cells7_keep ⟨c8, cL, d0, d1, d2, d3, d4⟩ (grownBy_trans (grownBy_widen HM2.out.2.2) g31) HB.out.1 HB.out.2.1 HB.out.2.2.1
  refine tail_mk hS31 ?_
  refine wpTails_cons rfl ?_
  go_wp2_with fail
  refine tail_mk hS31 ?_
  refine wpTails_one rfl ?_
  have hc31 := hS31.2.1
  have hf31 : w31.frozen? ⟨blk la, ofs la + c.b, none⟩ = false := by
    have hC2 := HM2.out.1.sr (by omega)
    rw [HM.out.2] at hC2
    exact (hC2.own.outAt (by rw [hC2.len]; exact ha) g31).frozen (by rw [hC2.own.len, hC2.len]; omega) _
  have hput := HM2.out.1.putSr HM.out.2 ha (y := c) g31 o31 l31 ⟨rfl, rfl, rfl, rfl⟩
  obtain ⟨rl', m3, e3⟩ := hput
  have hr0 : rl' bw = 0 := by
    have hlt := World.block_lt_of_cell? W1 _ d0
    have := ((Ext.grown (rl := rl) HM2.out.2.2).trans e3).same bw hlt (.inl HM.out.1.2.2.2)
    rw [this.2]; exact HM.out.1.2.2.2
  have hbx := HM.out.1.2.2.1.ext ((Ext.grown (rl := rl) HM2.out.2.2).trans e3) HM.out.1.2.2.2
  have HM3 := Lib.hid (And.intro m3 (And.intro (HM2.out.2.1.trans e3) (And.intro hbx hr0)))
  clear m3 e3 HM2 hS31 o31 g31 l31 c8 cL fL d0 d1 d2 d3 d4 hbx hr0
  go_wp2_with fail
  refine thenQ_mk ?_
  refine K_gen (fun Z => Mem S w0 sv rl' { V with svs := V.svs.set c.b (.slice s31 ((nth V.sll c.b).length + 1) c31), sll := V.sll.set c.b (nth V.sll c.b ++ [⟨c.k, c.a, c.b, c.f, sa, sn, sc⟩]) } { st with sr := upd st.sr c.b (st.sr c.b ++ [c]) } Z ∧ Ext rl rl' W Z ∧ BoxC Z bw c.k c.a c.b c.f (.slice sa sn sc) ∧ rl' bw = 0) HM3.out ?_
  intro W4 h4
  obtain ⟨V4, hV4⟩ : ∃ V4, V4 = ({ V with svs := V.svs.set c.b (.slice s31 ((nth V.sll c.b).length + 1) c31), sll := V.sll.set c.b (nth V.sll c.b ++ [⟨c.k, c.a, c.b, c.f, sa, sn, sc⟩]) } : Vals) := ⟨_, rfl⟩
  obtain ⟨st4, hst4⟩ : ∃ st4, st4 = ({ st with sr := upd st.sr c.b (st.sr c.b ++ [c]) } : St) := ⟨_, rfl⟩
  rw [← hV4, ← hst4] at h4
  obtain ⟨ra, rc, hra⟩ := h4.1.setsV
  have i2 := h4.1.setsIx hra haN
  obtain ⟨c4, cS, -⟩ := h4.1.setsAt hra haN
  have d1 := h4.2.2.1.2.2.1
  have hset := (h4.1.sets (by omega)).mean c.b haN
  have H4 := Lib.hid (And.intro h4 (And.intro hset (And.intro hst4 hra)))
  clear h4 hset hc31 hf31 HM3 hV4 hst4 hra HM HB
  go_wp2_with fail
  refine wp_region_mixH [0, 1, 2, 3, 4, 5, 6, 7, 10] [8, 9] (fun w' => w'.cell? ⟨sv, 4, none⟩ = some (.slice ra S.N rc) ∧ w'.cell? ⟨blk ra, ofs ra + c.b, none⟩ = some (nth V4.xs c.b) ∧ w'.cell? ⟨bw, 2, none⟩ = some (.int .i64 (c.b : Int))) (by kernel_rfl) (by kernel_rfl) (by kernel_rfl) ⟨c4, cS, d1⟩ ?_
  repeat (
    refine wpHeads_cons (v := ?_) rfl (Or.inl ⟨by rfl, ?_⟩) ?_
    rotate_left
    · (intro W hW; go_simp; try with_reducible rfl)
    simp only [Act.put, List.setIfInBounds_toArray])
  refine wpHeads_nil ?_
  refine wpTailsH_cons rfl ?_
  go_wp2_with fail
  refine (List_S (H4.out.2.1.ex (Ext.grown (rl := rl') (grownBy_drew0 _)))).mono ?_
  rintro e W5 ⟨a5, c5, L, rfl, o5, mL, pL, lL, q5⟩
  have g5 : W4.grownBy W5 none := grownBy_trans (grownBy_drew0 _) (grownBy_below q5)
  go_wp2_with fail
  refine tail_mk ⟨g5.cell c4 (by simp), g5.cell cS (by simp), g5.cell d1 (by simp)⟩ ?_
  refine wpTailsH_cons rfl ?_
  go_wp2_with fail
  refine tail_mk ⟨g5.cell c4 (by simp), g5.cell cS (by simp), g5.cell d1 (by simp)⟩ ?_
  refine wpTailsH_nil ?_
  go_wp2_with fail
  have hr5 : ∀ k, (Value.slice a5 L.length c5).ownBlock = some k → rl' k = 0 := fun k hk => H4.out.1.1.fr k (by have := (o5.lt k hk).1; simpa using this)
  have H5 := Lib.hid (And.intro (H4.out.1.1.keep g5) (And.intro (H4.out.1.2.1.trans (Ext.grown (rl := rl') g5)) (And.intro (H4.out.1.2.2.1.ext (Ext.grown (rl := rl') g5) H4.out.1.2.2.2) (And.intro H4.out.1.2.2.2 (And.intro o5.lst hr5)))))
  have HL := Lib.hid (And.intro mL (And.intro H4.out.2.2.1 (HA.out.2.1)))
  have HPL := Lib.hid pL
  clear pL
  have hix : ∀ (x : Int), 0 ≤ x → x < L.length → ∀ Z, (Instr.indexAt 27 (.slice a5 L.length c5) (.int .i64 x)).run Try.prog Z = .ok (.pointer (some ⟨blk a5, ofs a5 + x.toNat, none⟩)) Z := by
    obtain ⟨a6, c6, he6, -, hidx6, -⟩ := o5.lst.out1 sInt
    simp only [Value.slice.injEq] at he6
    obtain ⟨rfl, he6, rfl⟩ := he6
    intro x h0 h1
    have := hidx6 .i64 x h0 (by rw [← he6]; exact h1)
    rw [← he6] at this; exact this
  clear hr5 o5 mL q5 g5 H4 c4 cS d1 i2
  go_loopw [5, 34] (fun _ x wr => ∃ (j : Nat) (rl2 : Nat → Nat) (V2 : Vals) (st2 : St), j ≤ L.length ∧ x = .int .i64 j ∧ Hid (Mem S w0 sv rl2 V2 st2 wr ∧ Ext rl' rl2 W5 wr ∧ Joins ((L.take j).map fun z => (c.a, S.cell z c.f)) st4 st2)) (fun _ x _ => L.length - (intOf x).toNat)
  case atStart => exact ⟨0, rl', V4, st4, by omega, rfl, H5.out.1, Ext.refl _ _, rfl⟩
  case round =>
    obtain ⟨j, rl2, V2, st2, hj, rfl, hh⟩ := hrel
    by_cases hlt : j < L.length
    · have hyL : nth L j ∈ L := nth_mem L j hlt
      have hyp := (HL.out.1 _).2 hyL
      have hy : nth L j < S.sites := HL.out.2.2 c.b _ (by have e := HL.out.2.1; rw [e] at hyp; exact hyp)
      have hlst := lst_ext H5.out.2.2.2.2.1 hh.out.2.1 (fun _ k hk => .inl (H5.out.2.2.2.2.2 k hk))
      have hcl : wr.cell? ⟨blk a5, ofs a5 + j, none⟩ = some (.int .i64 ((nth L j : Nat) : Int)) := by
        obtain ⟨a6, c6, he6, -, -, hcell6, -⟩ := hlst.out1 sInt
        simp only [Value.slice.injEq] at he6
        obtain ⟨rfl, -, rfl⟩ := he6
        have := hcell6 j (by simpa using hlt)
        rw [this]; simp [nth, hlt]
      have hbx := H5.out.2.2.1.ext hh.out.2.1 H5.out.2.2.2.1
      obtain ⟨-, d2, -, d3, -⟩ := hbx
      have b0 := (hh.out.1.fld 0 (v := .int .i64 (S.vars : Int)) rfl).1
      have b1 := (hh.out.1.fld 1 (v := .int .i64 (S.sites : Int)) rfl).1
      have b2 := (hh.out.1.fld 2 (v := .int .i64 (S.fields : Int)) rfl).1
      have b3 := (hh.out.1.fld 3 (v := V2.cons) rfl).1
      have htd2 : st2.todo.length ≤ 1000000 := by
        have := hh.out.2.2.todo
        have e := HL.out.2.1
        rw [e] at this
        simp at this; omega
      have hcp2 : (st2.cp c.a).length ≤ 100000000 := by
        have := hh.out.2.2.len c.a
        have e := HL.out.2.1
        rw [e] at this
        have h9 := HA.out.1 c.a
        simp at this; omega
      have hcN := Syst.cell_lt hy HA.out.2.2.1
      have HK := Lib.hid (And.intro htd2 (And.intro hcp2 hcN))
      have hyt : (L.take (j + 1)).map (fun z => (c.a, S.cell z c.f)) = (L.take j).map (fun z => (c.a, S.cell z c.f)) ++ [(c.a, S.cell (nth L j) c.f)] := by rw [take_snoc _ _ hlt]; simp
      have HY := Lib.hid (And.intro hyt trivial)
      clear hyt
      generalize nth L j = y at *
      clear hyp hyL hlst htd2 hcp2 hcN
      go_wp2_with fail
      refine wp_region_mix [0, 1, 2, 3, 4, 5, 6, 7, 8, 9] [10, 11] (fun w' => w'.cell? ⟨sv, 0, none⟩ = some (.int .i64 (S.vars : Int)) ∧ w'.cell? ⟨sv, 1, none⟩ = some (.int .i64 (S.sites : Int)) ∧ w'.cell? ⟨sv, 2, none⟩ = some (.int .i64 (S.fields : Int)) ∧ w'.cell? ⟨sv, 3, none⟩ = some V2.cons ∧ w'.cell? ⟨bw, 3, none⟩ = some (.int .i64 (c.f : Int)) ∧ w'.cell? ⟨bw, 1, none⟩ = some (.int .i64 (c.a : Int))) (by kernel_rfl) (by kernel_rfl) (by kernel_rfl) ⟨b0, b1, b2, b3, d3, d2⟩ ?_
      repeat (
        refine wpHeads_cons (v := ?_) rfl (Or.inl ⟨by rfl, ?_⟩) ?_
        rotate_left
        · (intro W hW; go_simp; try with_reducible rfl)
        simp only [Act.put, List.setIfInBounds_toArray])
      refine wpHeads_nil ?_
      refine wpTails_cons rfl ?_
      go_wp2_with fail
      obtain ⟨nn, hnn, hcl7⟩ := cell_is S y c.f V2.cons (wr.drew) hV hF (by omega) (by omega)
      refine hcl7.mono ?_
      rintro e W7 ⟨rfl, q7⟩
      have g7 : wr.grownBy W7 none := grownBy_trans (grownBy_drew0 _) (grownBy_below q7)
      go_wp2_with fail
      refine tail_mk ⟨g7.cell b0 (by simp), g7.cell b1 (by simp), g7.cell b2 (by simp), g7.cell b3 (by simp), g7.cell d3 (by simp), g7.cell d2 (by simp)⟩ ?_
      refine wpTails_one rfl ?_
      have HM7 := Lib.hid (And.intro (hh.out.1.keep g7) (And.intro (hh.out.2.1.trans (Ext.grown (rl := rl2) g7)) hh.out.2.2))
      clear g7 q7 b0 b1 b2 b3 d2 d3 hh hcl
      subst hnn
      clear hcl7
      go_wp2_with fail
      refine (join_any HM7.out.1 c.a (S.cell y c.f) hbN HK.out.2.2 hN HK.out.1 HK.out.2.1).mono ?_
      rintro e W8 ⟨v8, rl8, V8, st8, rfl, hp, m8, e8⟩
      have H8 := Lib.hid (And.intro m8 (And.intro (HM7.out.2.1.trans e8) (Joins.snoc (e := (c.a, S.cell y c.f)) HM7.out.2.2 hp)))
      clear hp m8 e8
      go_wp2_with fail
      refine thenQ_mk ?_
      go_wp2_with fail
      go_roundw
      case rel => exact ⟨j + 1, rl8, V8, st8, by omega, by go_num, H8.out.1, H8.out.2.1, by
        have h9 := H8.out.2.2
        rw [HY.out.1]; exact h9⟩
      case measure => simp [intOf]; omega
    · obtain rfl : j = L.length := by omega
      have HD := Lib.hid hh.out
      clear hh
      go_wp2_with fail
      go_end0
      refine ⟨_, rl2, V2, st2, rfl, ⟨L, HPL.out, ?_, ?_⟩, HD.out.1, H5.out.2.1.trans HD.out.2.1⟩
      · intro z
        have h9 := HL.out.1 z
        rw [HL.out.2.1] at h9; exact h9
      · have h9 := HD.out.2.2
        rw [List.take_length, HL.out.2.1] at h9; exact h9


end Go.Proofs.Ytkfhopnolflchaa
