/- Contract of the solver's filter. -/
import Derived.Test.YtkfhopnolflchaaAndV
namespace Go.Proofs.Ytkfhopnolflchaa
open Go.RowKit Go.Dfl Go.And


/-- A set made of a list. -/
theorem Of_S {rl : Nat → Nat} {W : World} {v : Value} {s : List Nat} (h : Ints W v (s.map fun x : Nat => (x : Int))) (hs : ∀ x ∈ s, x < 65536) (hfr : ∀ k, W.heap.size ≤ k → rl k = 0) :
    Calls Try.prog 53 #[v] W (fun e W' => ∃ a n c p, e = .returned (.tuple #[.slice a n c, .int .i64 0]) ∧ IsS rl W' (.slice a n c) p ∧ (∀ x, p x = true ↔ x ∈ s) ∧ Below W.heap.size W W') := by
  refine (Of_any v _ W h).mono ?_
  rintro e W1 (⟨hbad, -⟩ | ⟨-, v, r, rfl, hF, hW, hN2, hl, hp, hbe⟩)
  · exfalso
    rw [Bool.eq_false_iff] at hbad
    refine hbad (List.all_eq_true.2 fun x hx => ?_)
    obtain ⟨y, hy, rfl⟩ := List.mem_map.1 hx
    have := hs y hy
    simp [valB]; omega
  obtain ⟨a2, c2, rfl, -⟩ := hF.1.out1 sBits
  refine ⟨a2, _, c2, fun x => decide (x ∈ s), rfl, ⟨r, hF.1, hW, hl, fun x => ?_, fun k hk h0 => hfr k ?_⟩, fun x => by simp, hbe⟩
  · rw [hp]
    by_cases hx : x ∈ s
    · simp [hx]; exact ⟨x, hx, rfl⟩
    · simp [hx]
      intro y hy e
      obtain rfl : y = x := by omega
      exact hx hy
  · have := (hF.2 a2 _ c2 rfl h0).1
    cases a2 with
    | none => simp [Value.ownBlock] at hk
    | some ad => simp [Value.ownBlock] at hk; simp [blk] at this; omega

theorem cells4_keep {W1 W2 : World} {row : Option Nat} {p q : Addr} {x y : Value} {bw k a b f : Nat} {v : Value} (h : W1.cell? p = some x ∧ W1.cell? q = some y ∧ BoxC W1 bw k a b f v) (hg : W1.grownBy W2 row) (hp : some p.block ≠ row) (hq : some q.block ≠ row) (hb : some bw ≠ row) :
    W2.cell? p = some x ∧ W2.cell? q = some y ∧ BoxC W2 bw k a b f v := ⟨hg.cell h.1 hp, hg.cell h.2.1 hq, h.2.2.grown hg hb⟩

set_option maxHeartbeats 6400000 in
set_option maxRecDepth 100000 in
theorem filter_any {S : Syst} {w0 : World} {sv : Nat} {rl : Nat → Nat} {V : Vals} {st : St} {W : World} (h : Mem S w0 sv rl V st W) (c : C) (sa : Option Addr) (sn sc : Nat) (ha : c.a < S.vars) (hb : c.b < S.vars) (hset : Ints W (.slice sa sn sc) (c.s.map fun x : Nat => (x : Int))) (hs : ∀ x ∈ c.s, x < 65536) (hN : S.N ≤ 1000000) (htd : st.todo.length ≤ 1000000) (hpt : (st.pt c.a).length ≤ 1000000) :
    Calls Try.prog 43 #[.pointer (some ⟨sv, 0, none⟩), .agg #[.int .i64 c.k, .int .i64 c.a, .int .i64 c.b, .int .i64 c.f, .slice sa sn sc]] W
      (DoesP (fun x y => ∃ s, (∀ z, s z = true ↔ z ∈ c.s) ∧ Put c.b (fun z => x.p c.a z && s z) { x with pt := upd x.pt c.a (x.pt c.a ++ [(c.b, s)]) } y) S w0 sv rl st W) := by
  have haN := vN ha
  have hbN := vN hb
  have HM0 := Lib.hid (And.intro h (And.intro hset hs))
  have HA := Lib.hid hpt
  clear h hset hs hpt
  go_enter Try.func43, Try.ntmps43
  go_wp2_with fail
  obtain ⟨W0, hW0⟩ : ∃ W0, W0 = W.alloc (.cells #[.int .i64 (c.k : Int), .int .i64 c.a, .int .i64 c.b, .int .i64 c.f, .slice sa sn sc] 37) := ⟨_, rfl⟩
  rw [← hW0]
  have h0 : Mem S w0 sv rl V st W0 ∧ Ext rl rl W W0 ∧ BoxC W0 W.heap.size c.k c.a c.b c.f (.slice sa sn sc) ∧ rl W.heap.size = 0 ∧ Ints W0 (.slice sa sn sc) (c.s.map fun x : Nat => (x : Int)) := by
    rw [hW0]
    exact ⟨HM0.out.1.keep (grownBy_alloc _ _), Ext.grown (grownBy_alloc _ _), BoxC.new _ _ _ _ _ _ _, HM0.out.1.fr _ (Nat.le_refl _), HM0.out.2.1.grown (row := none) (grownBy_alloc _ _) (by simp)⟩
  obtain ⟨bw, hbw⟩ : ∃ bw, bw = W.heap.size := ⟨_, rfl⟩
  rw [← hbw] at h0 ⊢
  clear hbw hW0
  have H0 := Lib.hid h0
  clear h0
  refine (Of_S (rl := rl) H0.out.2.2.2.2 HM0.out.2.2 H0.out.1.fr).mono ?_
  rintro e W1 ⟨oa, on, oc, s, rfl, hs1, hsm, hbe⟩
  have g1 : W0.grownBy W1 none := grownBy_below hbe
  have h1 : Mem S w0 sv rl V st W1 ∧ Ext rl rl W W1 ∧ BoxC W1 bw c.k c.a c.b c.f (.slice sa sn sc) ∧ rl bw = 0 := ⟨H0.out.1.keep g1, H0.out.2.1.trans (Ext.grown g1), H0.out.2.2.1.grown g1 (by simp), H0.out.2.2.2.1⟩
  have HS := Lib.hid (And.intro hs1 hsm)
  clear hs1 hsm hbe g1 H0 HM0
  obtain ⟨la, lc, hla⟩ := h1.1.ptV
  have i1 := h1.1.ptIx hla ha
  obtain ⟨c8, cL, fL⟩ := h1.1.ptAt hla ha
  obtain ⟨d0, d1, d2, d3, d4⟩ := h1.2.2.1
  have hC := h1.1.pt (by omega)
  have hbs : some sv ≠ (nth V.pvs c.a).ownBlock := fun e => by
    have := hC.role sv (.inr ⟨c.a, by rw [hC.own.len, hC.len]; exact ha, e.symm⟩)
    rw [h1.1.rbox] at this; omega
  have hbo : some (blk la) ≠ (nth V.pvs c.a).ownBlock := fun e => by
    have hC2 := hC
    rw [hla] at hC2
    exact hC2.own.apart c.a (by rw [hC2.len]; exact ha) (blk la) e.symm (own_blk hC2.own.out (i := c.a) (by rw [hC2.own.len, hC2.len]; exact ha))
  have hbb : some bw ≠ (nth V.pvs c.a).ownBlock := fun e => by
    have := hC.role bw (.inr ⟨c.a, by rw [hC.own.len, hC.len]; exact ha, e.symm⟩)
    rw [h1.2.2.2] at this; omega
  have hlen : (nth V.pll c.a).length ≤ 1000000 := by rw [(hC.mean c.a ha).1]; exact HA.out
  have HB := Lib.hid (And.intro hbs (And.intro hbo (And.intro hbb hlen)))
  have hsz := h1.1.bel.size
  have HM := Lib.hid (And.intro h1 hla)
  clear h1 hla hC hbs hbo hbb hlen
  go_wp2_with fail
  refine wp_region_mix [0, 1, 2, 3, 4, 5, 6, 7, 8, 9, 10, 11, 12, 13, 14, 15, 16, 17] [18, 19, 20, 21] (fun w' => w'.cell? ⟨sv, 7, none⟩ = some (.slice la S.vars lc) ∧ w'.cell? ⟨blk la, ofs la + c.a, none⟩ = some (nth V.pvs c.a) ∧ BoxC w' bw c.k c.a c.b c.f (.slice sa sn sc)) (by kernel_rfl) (by kernel_rfl) (by kernel_rfl) ⟨c8, cL, d0, d1, d2, d3, d4⟩ ?_
  repeat (
    refine wpHeads_cons (v := ?_) rfl (Or.inl ⟨by rfl, ?_⟩) ?_
    rotate_left
    · (intro W hW; obtain ⟨q1, q2, q3, q4, q5, q6, q7⟩ := hW; go_simp; try with_reducible rfl)
    simp only [Act.put, List.setIfInBounds_toArray])
  refine wpHeads_nil ?_
  refine wpTails_cons rfl ?_
  go_wp2_with fail
  have g2 : W1.grownBy ((W1.alloc (.cells #[.int .i64 (c.b : Int), .slice oa on oc] 98)).drew) none := grownBy_trans (grownBy_alloc _ _) (grownBy_drew0 _)
  have m2 := HM.out.1.1.keep g2
  have e2 := HM.out.1.2.1.trans (Ext.grown (rl := rl) g2)
  refine tail_mk (cells4_keep ⟨c8, cL, d0, d1, d2, d3, d4⟩ g2 (by simp) (by simp) (by simp)) ?_
  refine wpTails_cons rfl ?_
  have HM2 := Lib.hid (And.intro m2 (And.intro e2 g2))
  clear m2 e2 g2
  refine wp_appendE (E := elP) sPart rfl rfl _ _ rfl (v := nth V.pvs c.a) (l := nth V.pll c.a) (base := w0.heap.size) rfl W1.heap.size rfl ((HM2.out.1.pt (by omega)).own.inn c.a (by rw [(HM2.out.1.pt (by omega)).len]; exact ha)) ⟨c.b, oa, on, oc⟩ (cells_new (W := W1) (cs := [.int .i64 (c.b : Int), .slice oa on oc]) (t := 98) rfl) (by have := HB.out.2.2.2; omega) (by have := HB.out.2.2.2; omega) (by simp; omega) ?_
  intro v31 w31 o31 g31 l31
  obtain ⟨s31, c31, rfl⟩ := o31.shape (n := (nth V.pll c.a).length + 1) (by simp)
  have hS31 := cells4_keep ⟨c8, cL, d0, d1, d2, d3, d4⟩ (grownBy_trans (grownBy_widen HM2.out.2.2) g31) HB.out.1 HB.out.2.1 HB.out.2.2.1
  refine tail_mk hS31 ?_
  refine wpTails_cons rfl ?_
  go_wp2_with fail
  refine tail_mk hS31 ?_
  refine wpTails_one rfl ?_
  have hc31 := hS31.2.1
  have hf31 : w31.frozen? ⟨blk la, ofs la + c.a, none⟩ = false := by
    have hC2 := HM2.out.1.pt (by omega)
    rw [HM.out.2] at hC2
    exact (hC2.own.outAt (by rw [hC2.len]; exact ha) g31).frozen (by rw [hC2.own.len, hC2.len]; omega) _
  have hput := HM2.out.1.putPt HM.out.2 ha (y := (c.b, s)) g31 o31 l31 ⟨rfl, HS.out.1.ex (Ext.grown (rl := rl) HM2.out.2.2)⟩
  obtain ⟨rl', m3, e3⟩ := hput
  have hr0 : rl' bw = 0 := by
    have hlt := World.block_lt_of_cell? W1 _ d0
    have := ((Ext.grown (rl := rl) HM2.out.2.2).trans e3).same bw hlt (.inl HM.out.1.2.2.2)
    rw [this.2]; exact HM.out.1.2.2.2
  have hbx := HM.out.1.2.2.1.ext ((Ext.grown (rl := rl) HM2.out.2.2).trans e3) HM.out.1.2.2.2
  have hs3 := HS.out.1.ex ((Ext.grown (rl := rl) HM2.out.2.2).trans e3)
  have HM3 := Lib.hid (And.intro m3 (And.intro (HM2.out.2.1.trans e3) (And.intro hbx (And.intro hr0 hs3))))
  clear m3 e3 HM2 hS31 o31 g31 l31 c8 cL fL d0 d1 d2 d3 d4 hbx hr0 hs3
  go_wp2_with fail
  refine thenQ_mk ?_
  refine K_gen (fun Z => Mem S w0 sv rl' { V with pvs := V.pvs.set c.a (.slice s31 ((nth V.pll c.a).length + 1) c31), pll := V.pll.set c.a (nth V.pll c.a ++ [⟨c.b, oa, on, oc⟩]) } { st with pt := upd st.pt c.a (st.pt c.a ++ [(c.b, s)]) } Z ∧ Ext rl rl' W Z ∧ BoxC Z bw c.k c.a c.b c.f (.slice sa sn sc) ∧ rl' bw = 0 ∧ IsS rl' Z (.slice oa on oc) s) HM3.out ?_
  intro W4 h4
  obtain ⟨V4, hV4⟩ : ∃ V4, V4 = ({ V with pvs := V.pvs.set c.a (.slice s31 ((nth V.pll c.a).length + 1) c31), pll := V.pll.set c.a (nth V.pll c.a ++ [⟨c.b, oa, on, oc⟩]) } : Vals) := ⟨_, rfl⟩
  rw [← hV4] at h4
  obtain ⟨ra, rc, hra⟩ := h4.1.setsV
  have i2 := h4.1.setsIx hra haN
  obtain ⟨c4, cS, -⟩ := h4.1.setsAt hra haN
  have d1 := h4.2.2.1.2.1
  have d2 := h4.2.2.1.2.2.1
  have hset := (h4.1.sets (by omega)).mean c.a haN
  obtain ⟨xa, xn, xc, hx⟩ : ∃ a n c', nth V4.xs c.a = .slice a n c' := by
    obtain ⟨r, q1, -⟩ := hset
    obtain ⟨a, c', e, -⟩ := q1.out1 sBits
    exact ⟨a, _, c', e⟩
  rw [hx] at cS hset
  have H4 := Lib.hid (And.intro h4 hset)
  clear h4 hset hc31 hf31 HM3 hV4 hra HM HB hx
  go_wp2_with fail
  refine wp_region_mix [0, 1, 2, 3, 4, 5, 6, 7, 8, 9, 10, 11] [12, 13] (fun w' => w'.cell? ⟨sv, 4, none⟩ = some (.slice ra S.N rc) ∧ w'.cell? ⟨blk ra, ofs ra + c.a, none⟩ = some (.slice xa xn xc) ∧ w'.cell? ⟨bw, 1, none⟩ = some (.int .i64 (c.a : Int)) ∧ w'.cell? ⟨bw, 2, none⟩ = some (.int .i64 (c.b : Int))) (by kernel_rfl) (by kernel_rfl) (by kernel_rfl) ⟨c4, cS, d1, d2⟩ ?_
  repeat (
    refine wpHeads_cons (v := ?_) rfl (Or.inl ⟨by rfl, ?_⟩) ?_
    rotate_left
    · (intro W hW; go_simp; try with_reducible rfl)
    simp only [Act.put, List.setIfInBounds_toArray])
  refine wpHeads_nil ?_
  refine wpTails_cons rfl ?_
  go_wp2_with fail
  refine (Both_S (rl := rl') (H4.out.2.ex (Ext.grown (rl := rl') (grownBy_drew0 _))) (H4.out.1.2.2.2.2.ex (Ext.grown (rl := rl') (grownBy_drew0 _))) (fun k hk => H4.out.1.1.fr k (by simpa using hk))).mono ?_
  rintro e W5 ⟨a5, n5, c5, rfl, o5, q5⟩
  have g5 : W4.grownBy W5 none := grownBy_trans (grownBy_drew0 _) (grownBy_below q5)
  go_wp2_with fail
  refine tail_mk ⟨g5.cell c4 (by simp), g5.cell cS (by simp), g5.cell d1 (by simp), g5.cell d2 (by simp)⟩ ?_
  refine wpTails_one rfl ?_
  have H5 := Lib.hid (And.intro (H4.out.1.1.keep g5) (And.intro (H4.out.1.2.1.trans (Ext.grown (rl := rl') g5)) o5))
  clear g5 q5 o5 c4 cS d1 d2
  go_wp2_with fail
  refine (put_any H5.out.1 c.b hbN hN htd H5.out.2.2).mono ?_
  rintro e W8 ⟨v8, rl8, V8, st8, rfl, hp, m8, e8⟩
  have H8 := Lib.hid (And.intro m8 (And.intro (H5.out.2.1.trans e8) hp))
  clear hp m8 e8
  go_wp2_with fail
  refine thenQ_mk ?_
  go_wp2_with fail
  go_end0
  exact ⟨_, rl8, V8, st8, rfl, ⟨s, HS.out.2, H8.out.2.2⟩, H8.out.1, H8.out.2.1⟩

end Go.Proofs.Ytkfhopnolflchaa
