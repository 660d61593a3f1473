/- Contracts of the solver's join, addr, copy, load, store, filter. -/
import Derived.Test.YtkfhopnolflchaaAndS
namespace Go.Proofs.Ytkfhopnolflchaa
open Go.RowKit Go.Dfl Go.And


theorem IsS.slice {rl : Nat → Nat} {W : World} {v : Value} {p : Nat → Bool} (h : IsS rl W v p) : ∃ a n c, v = .slice a n c := by
  obtain ⟨r, h1, -⟩ := h
  obtain ⟨a, c, h2, -⟩ := h1.out1 sBits
  exact ⟨a, _, c, h2⟩

set_option maxHeartbeats 3200000 in
set_option maxRecDepth 100000 in
theorem join_anyV {S : Syst} {w0 : World} {sv : Nat} {rl : Nat → Nat} {V : Vals} {st : St} {W : World} (h : Mem S w0 sv rl V st W) (i t : Nat) (hi : i < S.N) (ht : t < S.N) (hN : S.N ≤ 1000000) (htd : st.todo.length ≤ 1000000) (hcp : (st.cp i).length ≤ 100000000) :
    Calls Try.prog 55 #[.pointer (some ⟨sv, 0, none⟩), .int .i64 i, .int .i64 t] W (DoesV KJ (Join i t) S w0 sv rl V st W) := by
  obtain ⟨ca, cc, hca⟩ := h.cpV
  have i1 := h.cpIx hca hi
  obtain ⟨c6, cS, fS⟩ := h.cpAt hca hi
  have hC := h.cp (by omega)
  have hbc : some sv ≠ (nth V.cvs i).ownBlock := fun e => by
    have := hC.role sv (.inr ⟨i, by rw [hC.own.len, hC.len]; exact hi, e.symm⟩)
    rw [h.rbox] at this; omega
  have hbo : some (blk ca) ≠ (nth V.cvs i).ownBlock := fun e => by
    have hC2 := hC
    rw [hca] at hC2
    exact hC2.own.apart i (by rw [hC2.len]; exact hi) (blk ca) e.symm (own_blk hC2.own.out (i := i) (by rw [hC2.own.len, hC2.len]; exact hi))
  have hlen : (nth V.cll i).length ≤ 100000000 := by rw [hC.mean i hi]; simpa using hcp
  have HB := Lib.hid (And.intro hbc (And.intro hbo hlen))
  have hsz := h.bel.size
  have HM := Lib.hid (And.intro h hca)
  clear h hca hC hbc hbo hlen
  go_enter Try.func55, Try.ntmps55
  go_wp2_with fail
  refine wp_region_mix [0, 1, 2, 3, 4, 5, 6, 7, 8, 9, 10, 11, 12] [13, 14, 15, 16] (fun w' => w'.cell? ⟨sv, 6, none⟩ = some (.slice ca S.N cc) ∧ w'.cell? ⟨blk ca, ofs ca + i, none⟩ = some (nth V.cvs i)) (by kernel_rfl) (by kernel_rfl) (by kernel_rfl) ⟨c6, cS⟩ ?_
  repeat (
    refine wpHeads_cons (v := ?_) rfl (Or.inl ⟨by rfl, ?_⟩) ?_
    rotate_left
    · (intro W hW; go_simp; try with_reducible rfl)
    simp only [Act.put, List.setIfInBounds_toArray])
  refine wpHeads_nil ?_
  refine wpTails_cons rfl ?_
  go_wp2_with fail
  have m2 := (HM.out.1.keep (grownBy_drew0 _)).keep (grownBy_alloc _ (.cells #[.int .i64 (t : Int)] 3))
  have e2 := (Ext.grown (rl := rl) (grownBy_drew0 W)).trans (Ext.grown (grownBy_alloc W.drew (.cells #[.int .i64 (t : Int)] 3)))
  refine tail_mk (cells2_keep ⟨c6, cS⟩ (grownBy_trans (grownBy_drew0 _) (grownBy_alloc _ _)) (by simp) (by simp)) ?_
  refine wpTails_cons rfl ?_
  have HM2 := Lib.hid (And.intro m2 e2)
  clear m2 e2
  refine wp_appendS (f := Value.int .i64) sInt rfl rfl _ _ rfl w0.heap.size (nth V.cvs i) (nth V.cll i) rfl (.slice (some ⟨W.heap.size, 0, none⟩) 1 1) [(t : Int)] rfl ((HM2.out.1.cp (by omega)).own.inn i (by rw [(HM2.out.1.cp (by omega)).len]; exact hi)) (src_one _ (cell_at1 (by simp))) (fun _ _ => rfl) (by have := HB.out.2.2; simp; omega) (by omega) (by simp; omega) ?_
  intro v31 w31 o31 g31 l31
  obtain ⟨s31, c31, rfl⟩ := o31.shape (n := (nth V.cll i).length + 1) (by simp)
  have hS31 := cells2_keep ⟨c6, cS⟩ (grownBy_trans (grownBy_widen (grownBy_trans (grownBy_drew0 _) (grownBy_alloc _ _))) g31) HB.out.1 HB.out.2.1
  refine tail_mk hS31 ?_
  refine wpTails_cons rfl ?_
  go_wp2_with fail
  refine tail_mk hS31 ?_
  refine wpTails_one rfl ?_
  have hc31 := hS31.2
  have hf31 : w31.frozen? ⟨blk ca, ofs ca + i, none⟩ = false := by
    have hC2 := HM2.out.1.cp (by omega)
    rw [HM.out.2] at hC2
    exact (hC2.own.outAt (by rw [hC2.len]; exact hi) g31).frozen (by rw [hC2.own.len, hC2.len]; omega) _
  have hput := HM2.out.1.putCp HM.out.2 hi (y := t) g31 o31 l31 rfl
  clear hS31 o31 g31 l31 c6 cS fS
  obtain ⟨rl', m3, e3⟩ := hput
  have HM3 := Lib.hid (And.intro m3 (HM2.out.2.trans e3))
  clear m3 e3 HM2
  go_wp2_with fail
  refine thenQ_mk ?_
  refine K_gen (fun Z => Mem S w0 sv rl' { V with cvs := V.cvs.set i (.slice s31 ((nth V.cll i).length + 1) c31), cll := V.cll.set i (nth V.cll i ++ [(t : Int)]) } { st with cp := upd st.cp i (st.cp i ++ [t]) } Z ∧ Ext rl rl' W Z) HM3.out ?_
  intro W4 h4
  obtain ⟨ra, rc, hra⟩ := h4.1.setsV
  have i2 := h4.1.setsIx hra hi
  obtain ⟨c4, cS4, -⟩ := h4.1.setsAt hra hi
  have hset := (h4.1.sets (by omega)).mean i hi
  obtain ⟨a5, n5, c5, hv5⟩ := hset.slice
  rw [hv5] at hset
  have hv5' : nth V.xs i = .slice a5 n5 c5 := hv5
  rw [hv5] at cS4
  have H4 := Lib.hid (And.intro h4 hset)
  clear h4 hset hc31 hf31 HM3 hv5 hra
  go_wp2_with fail
  refine (put_anyV H4.out.1.1 t ht hN htd H4.out.2).mono ?_
  rintro e W5 ⟨v5, rl5, V5, st5, rfl, hp, m5, e5, k5⟩
  have H5 := Lib.hid (And.intro hp (And.intro m5 (H4.out.1.2.trans e5)))
  clear hp m5 e5
  go_wp2_with fail
  go_end0
  exact ⟨_, rl5, V5, st5, rfl, H5.out.1, H5.out.2.1, H5.out.2.2, k5.2⟩
theorem join_any {S : Syst} {w0 : World} {sv : Nat} {rl : Nat → Nat} {V : Vals} {st : St} {W : World} (h : Mem S w0 sv rl V st W) (i t : Nat) (hi : i < S.N) (ht : t < S.N) (hN : S.N ≤ 1000000) (htd : st.todo.length ≤ 1000000) (hcp : (st.cp i).length ≤ 100000000) :
    Calls Try.prog 55 #[.pointer (some ⟨sv, 0, none⟩), .int .i64 i, .int .i64 t] W (DoesP (Join i t) S w0 sv rl st W) :=
  (join_anyV h i t hi ht hN htd hcp).mono fun _ _ hh => hh.weak

/-- The elements of a set, one by one. -/
def ListS (s : Nat → Bool) (W : World) (e : Ending) (W' : World) : Prop := ∃ (a : Option Addr) (c : Nat) (L : List Nat), e = .returned (.slice a L.length c) ∧ OwnI W' W.heap.size 3 (.slice a L.length c) (L.map fun x : Nat => (x : Int)) ∧ (∀ y, s y = true ↔ y ∈ L) ∧ L.Pairwise (· < ·) ∧ L.length ≤ 65536 ∧ Below W.heap.size W W'
theorem List_S {rl : Nat → Nat} {W : World} {v : Value} {s : Nat → Bool} (h : IsS rl W v s) : Calls Try.prog 30 #[v] W (ListS s W) := by
  obtain ⟨r, a1, a2, a3, a4, a5⟩ := h
  refine (List_any v r W a1 a2 (by omega)).mono ?_
  rintro e W' ⟨v', rfl, ho, hb⟩
  have hlen : ((List.range (64 * r.length)).filter (hasN r)).length ≤ 65536 := Nat.le_trans (List.length_filter_le _ _) (by simp; omega)
  have he : els r = ((List.range (64 * r.length)).filter (hasN r)).map fun x : Nat => (x : Int) := rfl
  rw [he] at ho
  obtain ⟨a, c, rfl⟩ := ho.shape (n := ((List.range (64 * r.length)).filter (hasN r)).length) (by simp)
  refine ⟨a, c, _, rfl, ho, fun y => ?_, List.pairwise_lt_range.filter _, hlen, hb⟩
  rw [List.mem_filter, List.mem_range, a4]
  constructor
  · intro hy
    refine ⟨?_, hy⟩
    rcases Nat.lt_or_ge y (64 * r.length) with h1 | h1
    · exact h1
    · rw [← a4, hasN_out _ _ h1] at hy; cases hy
  · exact fun h => h.2

set_option maxHeartbeats 800000 in
theorem cell_any (n1 n2 n3 y f : Nat) (v : Value) (W : World) (h1 : n1 ≤ 1000000) (h3 : n3 ≤ 1000000) (hy : y ≤ 1000000) (hf : f ≤ 1000000) :
    Calls Try.prog 56 #[.agg #[.int .i64 n1, .int .i64 n2, .int .i64 n3, v], .int .i64 y, .int .i64 f] W (fun e W' => e = .returned (.int .i64 ((n1 + y * n3 + f : Nat) : Int)) ∧ Below W.heap.size W W') := by
  have hm : (y : Int) * (n3 : Int) ≤ 1000000000000 := by
    have := Nat.mul_le_mul hy h3
    have e : (y : Int) * (n3 : Int) = ((y * n3 : Nat) : Int) := by simp
    rw [e]; omega
  have hm0 : 0 ≤ (y : Int) * (n3 : Int) := by
    have e : (y : Int) * (n3 : Int) = ((y * n3 : Nat) : Int) := by simp
    rw [e]; omega
  go_enter Try.func56, Try.ntmps56
  go_wp2_with fail
  go_ret
  exact ⟨ret_int (by simp), (Below.refl _ _).alloc (Nat.le_refl _) _⟩

/-- A constraint as it is handed over. -/
def RC.agg (c : RC) : Value := .agg #[.int .i64 c.k, .int .i64 c.a, .int .i64 c.b, .int .i64 c.f, .slice c.sa c.sn c.sc]
theorem lit_one {w : World} (x : Int) {t : TypeId} {B : Nat} (hB : B = w.heap.size) : Ints (w.alloc (.cells #[.int .i64 x] t)) (.slice (some ⟨B, 0, none⟩) 1 1) [x] := by
  subst hB
  refine ⟨some ⟨w.heap.size, 0, none⟩, 1, rfl, by simp, by unfold maxLen; omega, fun i hi => ⟨rfl, by simp [blk], fun j hj => ?_⟩⟩
  simp at hi
  obtain rfl : j = 0 := by omega
  obtain rfl : i = 0 := by omega
  simp only [blk, ofs]
  exact Go.Dfl.cell_alloc1 _ _ _

set_option maxHeartbeats 1600000 in
set_option maxRecDepth 100000 in
theorem addr_any {S : Syst} {w0 : World} {sv : Nat} {rl : Nat → Nat} {V : Vals} {st : St} {W : World} (h : Mem S w0 sv rl V st W) (k a b f : Nat) (sa : Option Addr) (sn sc : Nat) (hb : b < S.N) (ha : a < 65536) (hN : S.N ≤ 1000000) (htd : st.todo.length ≤ 1000000) :
    Calls Try.prog 39 #[.pointer (some ⟨sv, 0, none⟩), .agg #[.int .i64 k, .int .i64 a, .int .i64 b, .int .i64 f, .slice sa sn sc]] W (DoesP (fun x y => ∃ s, (∀ z, s z = true ↔ z = a) ∧ Put b s x y) S w0 sv rl st W) := by
  have HM := Lib.hid h
  clear h
  go_enter Try.func39, Try.ntmps39
  go_wp2_with fail
  refine (Of_any _ [(a : Int)] _ (lit_one _ (by simp))).mono ?_
  rintro e W1 (⟨hbad, -⟩ | ⟨-, v, r, rfl, hF, hW, hN2, hl, hp, hbe⟩)
  · exfalso; simp [valB] at hbad; omega
  have g1 : W.grownBy W1 none := grownBy_trans (grownBy_trans (grownBy_alloc _ _) (grownBy_alloc _ _)) (grownBy_below hbe)
  have m1 := HM.out.keep g1
  obtain ⟨a2, c2, rfl, -⟩ := hF.1.out1 sBits
  have hs : IsS rl W1 (.slice a2 r.length c2) (fun z => decide (z = a)) := by
    refine ⟨r, hF.1, hW, hl, fun x => ?_, fun k hk h0 => HM.out.fr k ?_⟩
    · rw [hp]; simp; omega
    · have := (hF.2 a2 _ c2 rfl h0).1
      cases a2 with
      | none => simp [Value.ownBlock] at hk
      | some ad => simp [Value.ownBlock] at hk; simp [blk] at this; omega
  have cb : W1.cell? ⟨W.heap.size, 2, none⟩ = some (.int .i64 (b : Int)) := by
    exact (grownBy_below hbe).cell ((grownBy_alloc _ _).cell (cells_new (cs := [.int .i64 (k : Int), .int .i64 a, .int .i64 b, .int .i64 f, .slice sa sn sc]) rfl 2 _ rfl) (by simp)) (by simp)
  have H1 := Lib.hid (And.intro m1 (And.intro hs (Ext.grown (rl := rl) g1)))
  clear m1 hs g1 hF hW hN2 hp hbe
  go_wp2_with fail
  refine (put_any H1.out.1 b hb hN htd H1.out.2.1).mono ?_
  rintro e W5 ⟨v5, rl5, V5, st5, rfl, hp, m5, e5⟩
  have H5 := Lib.hid (And.intro hp (And.intro m5 (H1.out.2.2.trans e5)))
  clear hp m5 e5
  go_wp2_with fail
  go_end0
  exact ⟨_, rl5, V5, st5, rfl, ⟨_, fun z => by simp, H5.out.1⟩, H5.out.2.1, H5.out.2.2⟩

set_option maxHeartbeats 1600000 in
set_option maxRecDepth 100000 in
theorem copy_any {S : Syst} {w0 : World} {sv : Nat} {rl : Nat → Nat} {V : Vals} {st : St} {W : World} (h : Mem S w0 sv rl V st W) (k a b f : Nat) (sa : Option Addr) (sn sc : Nat) (ha : a < S.N) (hb : b < S.N) (hN : S.N ≤ 1000000) (htd : st.todo.length ≤ 1000000) (hcp : (st.cp a).length ≤ 100000000) :
    Calls Try.prog 40 #[.pointer (some ⟨sv, 0, none⟩), .agg #[.int .i64 k, .int .i64 a, .int .i64 b, .int .i64 f, .slice sa sn sc]] W (DoesP (Join a b) S w0 sv rl st W) := by
  have HM := Lib.hid h
  clear h
  go_enter Try.func40, Try.ntmps40
  go_wp2_with fail
  refine (join_any (HM.out.keep (grownBy_alloc _ _)) a b ha hb hN htd hcp).mono ?_
  rintro e W5 ⟨v5, rl5, V5, st5, rfl, hp, m5, e5⟩
  have H5 := Lib.hid (And.intro hp (And.intro m5 ((Ext.grown (rl := rl) (grownBy_alloc _ _)).trans e5)))
  clear hp m5 e5
  go_wp2_with fail
  go_end0
  exact ⟨_, rl5, V5, st5, rfl, H5.out.1, H5.out.2.1, H5.out.2.2⟩

end Go.Proofs.Ytkfhopnolflchaa
