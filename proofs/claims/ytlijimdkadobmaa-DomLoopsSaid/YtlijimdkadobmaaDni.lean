/- Contract of body. -/
import Derived.Test.YtlijimdkadobmaaDnh
namespace Go.Gra
open Go.Dfl (nth nth_mem mem_nth nth_eq nth_ext nth_set nth_append take_snoc)
/-- It reaches a start without the head. -/
def LpQ (g : G) (r hd : Nat) (st : List Nat) (v : Nat) : Prop := v ∈ postL g r ∧ v ≠ hd ∧ ∃ s ∈ st, s ≠ hd ∧ Rch (cutG g (hd : Int)).es v s
/-- The search: the first i of the list have been dealt with. -/
structure LpI (g : G) (r hd : Nat) (st o : List Nat) (i : Nat) : Prop where
  nd : (hd :: o).Nodup
  q : ∀ x ∈ o, LpQ g r hd st x
  cl : ∀ j, j < i → ∀ p ∈ pre g.es (nth o j), p ∈ postL g r → p = hd ∨ p ∈ o
section
variable {g : G} {r hd : Nat} {st o : List Nat} {i x : Nat}
theorem bso_sub (y : Nat) (hy : y ∈ o) : y ∈ bso g r hd o x := by
  unfold bso; split
  · exact hy
  · exact List.mem_append.2 (.inl hy)
theorem bso_in (hx : x ∈ postL g r) : x = hd ∨ x ∈ bso g r hd o x := by
  unfold bso; split
  · rename_i h
    rcases h with h | h
    · exact (List.mem_cons.1 h).imp id id
    · exact absurd hx h
  · exact .inr (by simp)
theorem bso_pre : o <+: bso g r hd o x := by
  unfold bso; split
  · exact List.prefix_refl _
  · exact List.prefix_append _ _
theorem LpI.add (h : LpI g r hd st o i) (hi : i ≤ o.length) (hq : x ∈ postL g r → x ≠ hd → LpQ g r hd st x) : LpI g r hd st (bso g r hd o x) i := by
  refine ⟨?_, fun y hy => ?_, fun j hj p hp hpp => ?_⟩
  · unfold bso; split
    · exact h.nd
    · rename_i hn
      have h1 : x ∉ hd :: o := fun e => hn (.inl e)
      rw [← List.cons_append]
      exact nodup_snoc' h.nd h1
  · unfold bso at hy
    split at hy
    · exact h.q y hy
    · rename_i hn
      rcases List.mem_append.1 hy with hy | hy
      · exact h.q y hy
      · rw [List.mem_singleton.1 hy]
        refine hq ?_ fun e => hn (.inl (by rw [e]; simp))
        apply Classical.byContradiction
        exact fun hn2 => hn (.inr hn2)
  · rw [nth_prefix bso_pre (by omega)] at hp
    exact (h.cl j hj p hp hpp).imp id (bso_sub p)
theorem LpI.lt (h : LpI g r hd st o i) (hvg : VG g) (hr : r < g.n.toNat) (hh : hd < g.n.toNat) : (∀ y ∈ hd :: o, y < g.n.toNat) ∧ o.length + 1 ≤ g.n.toNat := by
  have h1 : ∀ y ∈ hd :: o, y < g.n.toNat := fun y hy => by
    rcases List.mem_cons.1 hy with rfl | hy
    · exact hh
    · exact post_lt hvg hr (h.q y hy).1
  exact ⟨h1, by have := nodup_len _ _ h.nd h1; simpa using this⟩
theorem LpI.nil : LpI g r hd st [] 0 := ⟨by simp, fun x hx => by simp at hx, fun j hj => by omega⟩
theorem lpq_start (hx : x ∈ st) (hp : x ∈ postL g r) (hn : x ≠ hd) : LpQ g r hd st x := ⟨hp, hn, x, hx, hn, .refl _⟩
theorem lpq_step (hvg : VG g) {y : Nat} (hy : LpQ g r hd st y) (hx : x ∈ pre g.es y) (hp : x ∈ postL g r) (hn : x ≠ hd) : LpQ g r hd st x := by
  obtain ⟨-, h2, s, h3, h4, h5⟩ := hy
  exact ⟨hp, hn, s, h3, h4, (Rch.one ((cut_suc hvg).2 ⟨(mem_pre hvg).1 hx, hn, h2⟩)).trans h5⟩
theorem rch_post (hvg : VG g) (hr : r < g.n.toNat) {a b : Nat} (ha : a ∈ postL g r) (h : Rch (cutG g (hd : Int)).es a b) : b ∈ postL g r := by
  induction h with
  | refl => exact ha
  | step _ hc ih => exact ((postL_spec hvg hr).2.1 _).2 (.step (((postL_spec hvg hr).2.1 _).1 ih) ((cut_suc hvg).1 hc).1)
theorem LpI.fin (h : LpI g r hd st o o.length) (hvg : VG g) (hr : r < g.n.toNat) (hst : ∀ s ∈ st, s ∈ postL g r → s = hd ∨ s ∈ o) (v : Nat) : v ∈ o ↔ LpQ g r hd st v := by
  refine ⟨h.q v, fun ⟨h1, h2, s, h3, h4, h5⟩ => ?_⟩
  have hs := (hst s h3 (rch_post hvg hr h1 h5)).resolve_left h4
  clear h3 h4
  induction h5 with
  | refl => exact hs
  | @step b c hb hc ih =>
    refine ih ?_
    obtain ⟨c1, c2, c3⟩ := (cut_suc hvg).1 hc
    obtain ⟨j, hj, e⟩ := mem_nth hs
    exact (h.cl j hj b (by rw [e]; exact (mem_pre hvg).2 c1) (rch_post hvg hr h1 hb)).resolve_left c2
end
/-- The members, ascending. -/
def memL (hd : Nat) (o : List Nat) (k : Nat) : List Nat := (List.range k).filter fun v => decide (v ∈ hd :: o)
theorem memL_yes {hd k : Nat} {o : List Nat} (h : k ∈ hd :: o) : memL hd o (k + 1) = memL hd o k ++ [k] := by unfold memL; rw [List.range_succ, List.filter_append, List.filter_cons_of_pos (by simpa using h)]; rfl
theorem memL_no {hd k : Nat} {o : List Nat} (h : ¬ k ∈ hd :: o) : memL hd o (k + 1) = memL hd o k := by unfold memL; rw [List.range_succ, List.filter_append, List.filter_cons_of_neg (by simpa using h)]; simp
theorem memL_len (hd k : Nat) (o : List Nat) : (memL hd o k).length ≤ k := Nat.le_trans (List.length_filter_le _ _) (by rw [List.length_range]; exact Nat.le_refl _)
end Go.Gra
namespace Go.Proofs.Ytlijimdkadobmaa
open Go.RowKit Go.Dfl Go.Gra
def BodyR (g : G) (r hd : Nat) (st : List Nat) (W : World) (e : Ending) (W' : World) : Prop := ∃ a c o, e = .returned (.slice a (memL hd o g.n.toNat).length c) ∧ OwnI W' W.heap.size 3 (.slice a (memL hd o g.n.toNat).length c) ((memL hd o g.n.toNat).map fun x : Nat => (x : Int)) ∧ (∀ v, v ∈ o ↔ LpQ g r hd st v) ∧ Below W.heap.size W W'
theorem BoW.start {g : G} {r hd n cap bt : Nat} {s : Option Addr} {u oo p : Value} {vs : List Value} {W1 W2 : World} (h : Go.Dfl.Own Value.bool W2 W1.heap.size 4 (.slice s n cap) (List.replicate n false)) (hb : Below W1.heap.size W1 W2) (hh : hd < n) (htv : TV g r u oo p vs W1) (htx : (W1.cell? ⟨bt, 0, none⟩ = some u ∧ W1.cell? ⟨bt, 1, none⟩ = some oo ∧ W1.cell? ⟨bt, 2, none⟩ = some p) ∧ bt < W1.heap.size) :
    BoW g r hd n cap W2.heap.size bt (W2.heap.size + 1) (W2.heap.size + 1 + 1) s u oo p vs W1 [] (.slice none 0 0) (((W2.alloc (.cells #[.slice s n cap] 49)).setCell ⟨blk s, ofs s + hd, none⟩ (.bool true)).alloc (.cells #[.slice none 0 0] 31)) := by
  have hsb : (Value.slice s n cap).ownBlock = some (blk s) := by
    obtain ⟨-, ⟨h2, h3⟩ | ⟨q, cap2, cur, hv, -⟩⟩ := h
    · simp only [Value.slice.injEq] at h2; omega
    · simp only [Value.slice.injEq] at hv
      obtain ⟨rfl, -, -⟩ := hv; rfl
  have hlt := h.lt _ hsb
  have g1 := grownBy_alloc W2 (.cells #[.slice s n cap] 49)
  have g2 := grownBy_setCell (W2.alloc (.cells #[.slice s n cap] 49)) ⟨blk s, ofs s + hd, none⟩ (.bool true)
  have g3 := grownBy_alloc ((W2.alloc (.cells #[.slice s n cap] 49)).setCell ⟨blk s, ofs s + hd, none⟩ (.bool true)) (.cells #[.slice none 0 0] 31)
  have z2 : ((W2.alloc (.cells #[.slice s n cap] 49)).setCell ⟨blk s, ofs s + hd, none⟩ (.bool true)).heap.size = W2.heap.size + 1 := by rw [World.size_setCell, World.size_alloc]
  have hv : (List.replicate n false).set hd true = visB n [hd] := by
    have h0 : List.replicate n false = visB n [] := by
      unfold visB
      rw [eq_comm, List.eq_replicate_iff]
      exact ⟨by simp, fun b hb => by simp at hb; exact hb.2⟩
    rw [h0, visB_set hh]; rfl
  have hrow := (h.alloc (.cells #[.slice s n cap] 49)).set hd true
  rw [hv] at hrow
  have c1 := cell_alloc1 W2 (.slice s n cap) 49
  have c3 := cell_alloc1 ((W2.alloc (.cells #[.slice s n cap] 49)).setCell ⟨blk s, ofs s + hd, none⟩ (.bool true)) (.slice none 0 0) 31
  have f3 := frozen_alloc1 ((W2.alloc (.cells #[.slice s n cap] 49)).setCell ⟨blk s, ofs s + hd, none⟩ (.bool true)) (.slice none 0 0) 31
  rw [z2] at c3 f3
  have hsz := hb.size
  refine ⟨g3.cell (g2.cell c1 (fun e => by have := Option.some.inj e; dsimp only at this; omega)) (by simp), hrow.alloc _, c3, f3, Go.Dfl.Own.nil _ _ _ _, hsb, ⟨by omega, by omega, by omega, by omega, by omega, by omega, hsz, by omega, by omega, by rw [World.size_alloc, z2]; exact Nat.le_refl _⟩, ?_, htv, htx, Nat.zero_le _⟩
  exact ((hb.alloc hsz _).setCell (p := ⟨blk s, ofs s + hd, none⟩) hlt.1 _).alloc (by rw [z2]; omega) _
set_option maxHeartbeats 3200000 in
set_option maxRecDepth 100000 in
theorem body_any (g : G) (r hd : Nat) (u oo p sv : Value) (vs : List Value) (st : List Nat) (W : World) (h : TV g r u oo p vs W) (hs : Ints W sv (st.map fun x : Nat => (x : Int))) (hvg : VG g) (hr : r < g.n.toNat) (hh : hd < g.n.toNat) (hst : ∀ x ∈ st, x < g.n.toNat) :
    Calls Try.prog 34 #[.agg #[u, oo, p], .int .i64 (hd : Int), sv] W (BodyR g r hd st W) := by
  have hal := (Below.refl W.heap.size W).alloc (Nat.le_refl _) (.cells #[u, oo, p] 56)
  obtain ⟨c0, c1, c2⟩ := box3 W u oo p 56
  have ht := h.below hal
  obtain ⟨sa, sc, rfl, hsm, hsi, hsc, hsb⟩ := (hs.below hal).out1 sIntG
  rw [List.length_map] at hsm hsi hsc hsb
  obtain ⟨ua, uc, rfl, -, -, -, -⟩ := ht.u.out1 sIntG
  rw [idomL_len] at c0 c1 c2 ht hal hsc hsb h ⊢
  have hvl : vs.length = g.n.toNat := by rw [ht.p.2.1, preF_len]
  have hgr := ht.p.2.2
  obtain ⟨pa, pc, rfl, hpm, hpi, hpc, hpb⟩ := ht.p.1.out1 sRowsG
  rw [hvl] at hpm hpi hpc hpb c0 c1 c2 ht hal hsc hsb h hgr ⊢
  rw [preF_len] at hgr
  have lb := World.block_lt_of_cell? _ _ c0
  dsimp only at lb
  have hn8 : g.n.toNat ≤ 8192 := by have := hvg.n1; omega
  have HA := Lib.hid (And.intro hal (And.intro ht (And.intro lb (And.intro c0 (And.intro c1 c2)))))
  have HV := Lib.hid (And.intro hvg (And.intro hr (And.intro hh hst)))
  have HS := Lib.hid (And.intro hsc hsb)
  have HG := Lib.hid (And.intro hgr (And.intro hpi (And.intro hpc hpb)))
  clear h hs hal ht lb hvg hr hst hsc hsb hgr hpi hpc hpb hpm hvl
  rw [List.length_map]
  go_enter Try.func34, Try.ntmps34
  obtain ⟨n, hn⟩ : ∃ n, n = g.n.toNat := ⟨_, rfl⟩
  rw [← hn] at c0 c1 c2 HA HS HG hn8 hh ⊢
  have HN := Lib.hid hn
  clear hn
  go_wp2_with (at_make; refine wp_make (f := Value.bool) false sBoolG rfl _ rfl _ _ rfl .i64 .i64 _ _ n rfl rfl rfl rfl (by omega) (by unfold maxLen; omega) ?_)
  intro s cap W2 hrow hb2
  generalize hbs : W.heap.size = bt at *
  have hz1 : (W.alloc (.cells #[.slice ua n uc, oo, .slice pa n pc] 56)).heap.size = bt + 1 := by rw [World.size_alloc, hbs]
  have HBS := Lib.hid hbs
  clear hbs
  rw [← hz1] at hrow hb2
  generalize W.alloc (.cells #[.slice ua n uc, oo, .slice pa n pc] 56) = W1 at *
  have hst := BoW.start (r := r) hrow hb2 hh HA.out.2.1 ⟨HA.out.2.2.2, HA.out.2.2.1⟩
  have HST := Lib.hid hst
  obtain ⟨r1, i1, f1⟩ := own_bool (hrow.alloc (.cells #[.slice s n cap] 49)) (by simp) hh
  clear hst hrow hb2 hz1 c0 c1 c2
  go_wp2_with fail
  refine gen_code (fun Z => BoW g r hd n cap W2.heap.size bt (W2.heap.size + 1) (W2.heap.size + 1 + 1) s (.slice ua n uc) oo (.slice pa n pc) vs W1 [] (.slice none 0 0) Z) HST.out ?_
  clear HST r1 i1 f1
  intro W3 h3
  obtain ⟨bv, hbv⟩ : ∃ bv, bv = W2.heap.size := ⟨_, rfl⟩
  obtain ⟨bo, hbo⟩ : ∃ bo, bo = W2.heap.size + 1 := ⟨_, rfl⟩
  obtain ⟨B, hB⟩ : ∃ B, B = W2.heap.size + 1 + 1 := ⟨_, rfl⟩
  rw [← hB, ← hbo, ← hbv] at h3
  rw [← hbo, ← hbv]
  have H3 := Lib.hid h3
  clear h3 hbv hbo hB
  go_loopw [28] (fun x wr => ∃ (j : Nat) (o : List Nat) (ov : Value), j ≤ st.length ∧ x = .int .i64 (j : Int) ∧ Hid (BoW g r hd n cap bv bt bo B s (.slice ua n uc) oo (.slice pa n pc) vs W1 o ov wr ∧ LpI g r hd st o 0 ∧ ∀ k, k < j → nth st k ∈ postL g r → nth st k = hd ∨ nth st k ∈ o)) (fun x _ => st.length - (intOf x).toNat)
  case atStart => exact ⟨0, [], _, by omega, rfl, H3.out, LpI.nil, fun k hk => by omega⟩
  case round =>
    obtain ⟨j, o, ov, hj, rfl, hh⟩ := hrel
    obtain ⟨h1, h2, h3⟩ := hh.out
    have hbl := h1.bel
    obtain ⟨l1, l2⟩ := h2.lt HV.out.1 HV.out.2.1 HV.out.2.2.1
    rw [← HN.out] at l1 l2
    have HH := Lib.hid (And.intro h1 (And.intro h2 (And.intro h3 (And.intro l1 l2))))
    by_cases hlt : j < st.length
    · have hjl : (j : Int) < (st.length : Int) := by omega
      obtain ⟨x, hx⟩ : ∃ x, x = nth st j := ⟨_, rfl⟩
      have hxn : x < n := by rw [hx, HN.out]; exact HV.out.2.2.2 _ (nth_mem _ _ hlt)
      have r1 : wr.cell? ⟨blk sa, ofs sa + j, none⟩ = some (.int .i64 (x : Int)) := by
        rw [hbl.cell (p := ⟨blk sa, ofs sa + j, none⟩) (HS.out.2 j hlt), HS.out.1 j hlt, map_cast_nth0 hlt, ← hx]
      have i1 := hsi .i64 (j : Int) (by omega) (by omega)
      rw [Int.toNat_natCast] at i1
      have hc := bvisit_any g r hd n cap bv bt bo B s (.slice ua n uc) oo (.slice pa n pc) vs W1 o ov wr x h1 hxn hn8 HN.out h2.nd l1
      have HC := Lib.hid hc
      have hI := h2.add (x := x) (Nat.zero_le _) (fun hp hne => lpq_start (by rw [hx]; exact nth_mem _ _ hlt) hp hne)
      have hS : ∀ k, k < j + 1 → nth st k ∈ postL g r → nth st k = hd ∨ nth st k ∈ bso g r hd o x := fun k hk hp => by
        by_cases e : k = j
        · subst e; rw [← hx] at hp ⊢; exact bso_in hp
        · exact (h3 k (by omega) hp).imp id (bso_sub _)
      have HI := Lib.hid (And.intro hI hS)
      clear h1 h2 h3 hbl l1 l2 hx hc hI hS hh
      go_wp2_with fail
      refine HC.out.mono ?_
      rintro e w2 ⟨rfl, ov', h9⟩
      have HO := Lib.hid h9
      clear h9
      go_wp2_with fail
      go_roundw
      case rel => exact ⟨j + 1, _, ov', by omega, by go_num, HO.out, HI.out⟩
      case measure => simp [intOf]; omega
    · obtain rfl : j = st.length := by omega
      have HS2 : Hid (∀ x ∈ st, x ∈ postL g r → x = hd ∨ x ∈ o) := Lib.hid fun x hx hp => by
        obtain ⟨k, hk, rfl⟩ := mem_nth hx
        exact h3 k hk hp
      clear h1 h2 h3 hbl l1 l2 hh hlt hj HS hsi hsm H3
      go_wp2_with fail
      go_loopw [12] (fun x wr => ∃ (i : Nat) (o2 : List Nat) (ov2 : Value), x = .int .i64 (i : Int) ∧ i ≤ o2.length ∧ Hid (BoW g r hd n cap bv bt bo B s (.slice ua n uc) oo (.slice pa n pc) vs W1 o2 ov2 wr ∧ LpI g r hd st o2 i ∧ o <+: o2)) (fun x _ => n - (intOf x).toNat)
      case atStart => exact ⟨0, o, ov, rfl, by omega, HH.out.1, HH.out.2.1, List.prefix_refl _⟩
      case round =>
        obtain ⟨i, o2, ov2, rfl, hi, hh⟩ := hrel
        obtain ⟨h1, h2, h3⟩ := hh.out
        obtain ⟨l1, l2⟩ := h2.lt HV.out.1 HV.out.2.1 HV.out.2.2.1
        rw [← HN.out] at l1 l2
        have HH2 := Lib.hid (And.intro h1 (And.intro h2 (And.intro h3 (And.intro l1 l2))))
        have hlx := h1.lx
        obtain ⟨os, oc, rfl⟩ := h1.lst.shape (n := o2.length) (by rw [List.length_map])
        by_cases hlt : i < o2.length
        · have hil : (i : Int) < (o2.length : Int) := by omega
          obtain ⟨y, hy⟩ : ∃ y, y = nth o2 i := ⟨_, rfl⟩
          have hym : y ∈ o2 := by rw [hy]; exact nth_mem _ _ hlt
          have hyn : y < n := l1 y (List.mem_cons_of_mem _ hym)
          obtain ⟨r1, i1⟩ := list_rd h1.lst hlt
          rw [← hy] at r1
          obtain ⟨⟨t0, t1, t2⟩, -⟩ := h1.tree
          have hrow := HG.out.1 y hyn
          rw [preF_nth (by rw [← HN.out]; exact hyn)] at hrow
          obtain ⟨ra, rc, hrv, hrm, hri, hrc, hrb⟩ := hrow.out1 sIntG
          rw [List.length_map] at hrv hrm hri hrc hrb
          have r2 : wr.cell? ⟨blk pa, ofs pa + y, none⟩ = some (.slice ra (pre g.es y).length rc) := by
            rw [h1.bel.cell (p := ⟨blk pa, ofs pa + y, none⟩) (HG.out.2.2.2 y hyn), HG.out.2.2.1 y hyn, hrv]
          have i2 := HG.out.2.1 .i64 (y : Int) (by omega) (by omega)
          rw [Int.toNat_natCast] at i2
          have hq := h2.q y hym
          have HR := Lib.hid (And.intro hrc (And.intro hrb (And.intro hq hy)))
          clear h1 h2 h3 l1 l2 hh hy hym hrow hrv hrc hrb hq HH
          go_wp2_with fail
          go_quiet (fail)
          go_wp2_with fail
          go_loopw [51] (fun x wr => ∃ (k : Nat) (o3 : List Nat) (ov3 : Value), k ≤ (pre g.es y).length ∧ x = .int .i64 (k : Int) ∧ Hid (BoW g r hd n cap bv bt bo B s (.slice ua n uc) oo (.slice pa n pc) vs W1 o3 ov3 wr ∧ LpI g r hd st o3 i ∧ o2 <+: o3 ∧ ∀ j, j < k → nth (pre g.es y) j ∈ postL g r → nth (pre g.es y) j = hd ∨ nth (pre g.es y) j ∈ o3)) (fun x _ => (pre g.es y).length - (intOf x).toNat)
          case atStart => exact ⟨0, o2, _, by omega, rfl, HH2.out.1.below (below_drewN (Below.refl _ _) _), HH2.out.2.1, List.prefix_refl _, fun j hj => by omega⟩
          case round =>
            obtain ⟨k, o3, ov3, hk, rfl, hh⟩ := hrel
            obtain ⟨h1, h2, h3, h4⟩ := hh.out
            obtain ⟨l1, l2⟩ := h2.lt HV.out.1 HV.out.2.1 HV.out.2.2.1
            rw [← HN.out] at l1 l2
            have HH3 := Lib.hid (And.intro h1 (And.intro h2 (And.intro h3 h4)))
            have hbl := h1.bel
            have hio : i < o3.length := by have := h3.length_le; omega
            by_cases hkt : k < (pre g.es y).length
            · have hkl : (k : Int) < ((pre g.es y).length : Int) := by omega
              obtain ⟨x, hx⟩ : ∃ x, x = nth (pre g.es y) k := ⟨_, rfl⟩
              have hxm : x ∈ pre g.es y := by rw [hx]; exact nth_mem _ _ hkt
              have hxn : x < n := by
                obtain ⟨e, he, rfl⟩ := List.mem_map.1 hxm
                have h9 := HV.out.1.inn e (List.mem_filter.1 he).1
                have := HN.out
                omega
              have r3 : wr.cell? ⟨blk ra, ofs ra + k, none⟩ = some (.int .i64 (x : Int)) := by
                rw [hbl.cell (p := ⟨blk ra, ofs ra + k, none⟩) (HR.out.2.1 k hkt), HR.out.1 k hkt, map_cast_nth0 hkt, ← hx]
              have i3 := hri .i64 (k : Int) (by omega) (by omega)
              rw [Int.toNat_natCast] at i3
              have hc := bvisit_any g r hd n cap bv bt bo B s (.slice ua n uc) oo (.slice pa n pc) vs W1 o3 ov3 wr x h1 hxn hn8 HN.out h2.nd l1
              have HC := Lib.hid hc
              have hI := h2.add (x := x) (Nat.le_of_lt hio) (fun hp hne => lpq_step HV.out.1 HR.out.2.2.1 hxm hp hne)
              have hS : ∀ j, j < k + 1 → nth (pre g.es y) j ∈ postL g r → nth (pre g.es y) j = hd ∨ nth (pre g.es y) j ∈ bso g r hd o3 x := fun j hj hp => by
                by_cases e : j = k
                · subst e; rw [← hx] at hp ⊢; exact bso_in hp
                · exact (h4 j (by omega) hp).imp id (bso_sub _)
              have HI := Lib.hid (And.intro hI (And.intro (h3.trans (bso_pre (g := g) (r := r) (hd := hd) (x := x))) hS))
              clear h1 h2 h3 h4 hbl l1 l2 hx hc hI hS hh hxm hio
              go_wp2_with fail
              refine HC.out.mono ?_
              rintro e w2 ⟨rfl, ov', h9⟩
              have HO := Lib.hid h9
              clear h9
              go_wp2_with fail
              go_roundw
              case rel => exact ⟨k + 1, _, ov', by omega, by go_num, HO.out, HI.out⟩
              case measure => simp [intOf]; omega
            · obtain rfl : k = (pre g.es y).length := by omega
              have hI : LpI g r hd st o3 (i + 1) := ⟨h2.nd, h2.q, fun j hj p hp hpp => by
                by_cases e : j = i
                · rw [e, nth_prefix h3 hlt, ← HR.out.2.2.2] at hp
                  obtain ⟨m, hm, rfl⟩ := mem_nth hp
                  exact h4 m hm hpp
                · exact h2.cl j (by omega) p hp hpp⟩
              have HI := Lib.hid (And.intro h1 (And.intro hI (HH2.out.2.2.1.trans h3)))
              have hin : i < n := by have := HH2.out.2.2.2.2; omega
              clear h1 h2 h3 h4 hbl l1 l2 hI hh hkt hk
              go_wp2_with fail
              go_roundw
              case rel => exact ⟨i + 1, o3, ov3, by go_num, by omega, HI.out⟩
              case measure => simp [intOf]; omega
        · obtain rfl : i = o2.length := by omega
          have hfin := h2.fin HV.out.1 HV.out.2.1 (fun x hx hp => (HS2.out x hx hp).imp id fun hm => h3.subset hm)
          have hbx := h1.bx
          obtain ⟨a9, c9, he, hm9, hmi, hmc, hmb⟩ := h1.row.lst.out1 sBoolG
          rw [visB_len] at he hm9 hmi hmc hmb
          simp only [Value.slice.injEq] at he
          obtain ⟨rfl, -, rfl⟩ := he
          have HM := Lib.hid (And.intro hmc (And.intro hmb (And.intro hfin (HA.out.1.trans (h1.bel.mono (Nat.le_of_lt HA.out.2.2.1))))))
          clear h1 h2 h3 l1 l2 hh hfin hmc hmb HH HH2 hlt hi
          go_wp2_with fail
          obtain ⟨WF, hWF⟩ : ∃ WF, WF = wr := ⟨_, rfl⟩
          rw [← hWF] at HM
          have H0 := Lib.hid (show Below WF.heap.size WF wr by rw [hWF]; exact Below.refl _ _)
          clear hWF
          go_loopw [15, 61] (fun lv x wr => ∃ (k : Nat) (la : Option Addr) (lc : Nat), k ≤ n ∧ x = .int .i64 (k : Int) ∧ lv = .slice la (memL hd o2 k).length lc ∧ Hid (OwnI wr WF.heap.size 3 (.slice la (memL hd o2 k).length lc) ((memL hd o2 k).map fun x : Nat => (x : Int)) ∧ Below WF.heap.size WF wr)) (fun _ x _ => n - (intOf x).toNat)
          case atStart => exact ⟨0, none, 0, by omega, rfl, rfl, Go.Dfl.Own.nil _ _ _ _, H0.out⟩
          case round =>
            obtain ⟨k, la, lc, hk, rfl, rfl, hh⟩ := hrel
            have HK := Lib.hid hh.out
            clear hh
            by_cases hkt : k < n
            · have hkl : (k : Int) < (n : Int) := by omega
              have r1 : wr.cell? ⟨blk s, ofs s + k, none⟩ = some (.bool (decide (k ∈ hd :: o2))) := by
                rw [HK.out.2.cell (p := ⟨blk s, ofs s + k, none⟩) (HM.out.2.1 k hkt), HM.out.1 k hkt, visB_nth hkt]
              have i1 := hmi .i64 (k : Int) (by omega) (by omega)
              rw [Int.toNat_natCast] at i1
              have hml := memL_len hd k o2
              have hsz := HK.out.2.size
              by_cases hm : k ∈ hd :: o2
              · rw [decide_eq_true hm] at r1
                have HY := Lib.hid (memL_yes hm)
                clear hm
                have hll : ((memL hd o2 k).map fun x : Nat => (x : Int)).length < 17592186044416 := by rw [List.length_map]; omega
                go_wp2_with (at_builtin; refine wp_append1at (f := Value.int .i64) sIntG rfl _ rfl _ _ rfl WF.heap.size _ ((memL hd o2 k).map fun x : Nat => (x : Int)) rfl (HK.out.1.alloc _) (k : Int) ⟨wr.heap.size, 0, none⟩ rfl (cell_alloc1 _ _ _) rfl hll (by omega) (le_alloc _ hsz) ?_; intro v' w3 hown hgr hat; obtain ⟨s9, c9, rfl⟩ := hown.shape (n := (memL hd o2 k).length + 1) (by rw [List.length_append, List.length_map]; rfl); have HO := Lib.hid (And.intro hown ((HK.out.2.alloc hsz _).grown hgr (by rw [World.size_alloc]; omega) (fun q e => (HK.out.1.lt q e).1))); clear hown hgr hat)
                go_roundw
                case rel => exact ⟨k + 1, s9, c9, by omega, by go_num, by rw [HY.out, List.length_append]; rfl, by rw [HY.out, List.length_append, List.map_append]; exact HO.out⟩
                case measure => simp [intOf]; omega
              · rw [decide_eq_false hm] at r1
                have HY := Lib.hid (memL_no hm)
                clear hm
                go_wp2_with fail
                go_roundw
                case rel => exact ⟨k + 1, la, lc, by omega, by go_num, by rw [HY.out], by rw [HY.out]; exact HK.out⟩
                case measure => simp [intOf]; omega
            · obtain rfl : n = k := by omega
              go_wp2_with fail
              go_ret
              refine ⟨la, lc, o2, by rw [← HN.out]; rfl, ?_, HM.out.2.2.1, by rw [HBS.out]; exact HM.out.2.2.2.trans (HK.out.2.mono (by have := HM.out.2.2.2.size; have := HBS.out; omega))⟩
              rw [← HN.out, HBS.out]
              exact HK.out.1.mono (by have := HM.out.2.2.2.size; have := HBS.out; omega)
end Go.Proofs.Ytlijimdkadobmaa
