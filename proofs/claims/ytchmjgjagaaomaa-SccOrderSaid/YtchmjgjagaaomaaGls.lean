/- Contract of the reference's Lists. -/
import Derived.Test.YtchmjgjagaaomaaGse
import Derived.Test.YtchmjgjagaaomaaGa
namespace Go.Gra
open Go.Dfl (nth nth_mem mem_nth nth_eq nth_ext nth_set)
/-- The successors of all nodes, in the first k edges. -/
def listsTo (es : List (Int × Int)) (n k : Nat) : List (List Int) := (List.range n).map fun v : Nat => succK es (v : Int) k
theorem listsTo_len (es : List (Int × Int)) (n k : Nat) : (listsTo es n k).length = n := by simp [listsTo]
theorem listsTo_nth {es : List (Int × Int)} {n k v : Nat} (h : v < n) : nth (listsTo es n k) v = succK es (v : Int) k := by
  rw [nth_eq _ _ (by rw [listsTo_len]; exact h)]; simp [listsTo]
theorem listsTo_zero (es : List (Int × Int)) (n : Nat) : listsTo es n 0 = List.replicate n [] := by
  rw [List.eq_replicate_iff]
  exact ⟨listsTo_len _ _ _, fun b hb => by simp [listsTo, succK] at hb; exact hb.2⟩
theorem listsTo_succ {es : List (Int × Int)} {n k a : Nat} (hk : k < es.length) (ha : (nth es k).1 = (a : Int)) (han : a < n) : (listsTo es n k).set a (nth (listsTo es n k) a ++ [(nth es k).2]) = listsTo es n (k + 1) := by
  refine nth_ext (by rw [List.length_set, listsTo_len, listsTo_len]) fun i hi => ?_
  rw [List.length_set, listsTo_len] at hi
  rw [nth_set, listsTo_len, listsTo_nth han, listsTo_nth hi, listsTo_nth hi]
  by_cases e : a = i
  · subst e
    rw [if_pos ⟨rfl, han⟩, succK_yes hk ha]
  · rw [if_neg (fun h => e h.1), succK_no hk (by omega)]
end Go.Gra
namespace Go.Proofs.Ytchmjgjagaaomaa
open Go.RowKit Go.Dfl Go.Gra

theorem sRowsG : SliceOf Try.prog 28 32 (.slice none 0 0) 1 24 := ⟨Try.underlying28, info_parts (P := Try.prog) (e := 32) (by kernel_rfl)⟩
abbrev IIg (w : World) (base : Nat) (v : Value) (l : List Int) : Prop := OwnI w base 3 v l
theorem kIIg : Kind IIg := Kind.own _ _
def ListsR (g : G) (W : World) (e : Ending) (W' : World) : Prop := ∃ a c vs, e = .returned (.slice a g.n.toNat c) ∧ OwnN IIg W' W.heap.size 32 (.slice a g.n.toNat c) vs (listsTo g.es g.n.toNat g.es.length) ∧ Below W.heap.size W W'
theorem OwnN.mono {w : World} {base base' : Nat} {eo : TypeId} {v : Value} {vs : List Value} {ll : List (List Int)} (h : OwnN IIg w base eo v vs ll) (hb : base' ≤ base) : OwnN IIg w base' eo v vs ll :=
  ⟨h.out.mono hb, h.len, fun i hi => (h.inn i hi).mono hb, h.sep, h.apart⟩
/-- The state of the loop. -/
structure LsW (W1 : World) (n cap : Nat) (s : Option Addr) (es : List (Int × Int)) (k : Nat) (vs : List Value) (W : World) : Prop where
  rows : OwnN IIg W W1.heap.size 32 (.slice s n cap) vs (listsTo es n k)
  bel : Below W1.heap.size W1 W
set_option maxHeartbeats 3200000 in
set_option maxRecDepth 100000 in
theorem rLists_any (g : G) (cv : Value) (W : World) (h : Pairs W cv g.es) (hvg : VG g) : Calls Try.prog 32 #[GV g cv] W (ListsR g W) := by
  obtain ⟨ca, cc, rfl, -, hci, hcc⟩ := pairs_rd h
  have hal := (Below.refl W.heap.size W).alloc (Nat.le_refl _) (.cells #[.int .i64 g.n, .slice ca g.es.length cc] 24)
  have H1 := Lib.hid (And.intro hcc (And.intro hal (BoxG.new W g.n (.slice ca g.es.length cc) 24)))
  obtain ⟨n, hn⟩ : ∃ n : Nat, g.n = n := ⟨g.n.toNat, by have := hvg.n0; omega⟩
  have hn8 : n ≤ 8192 := by have := hvg.n1; omega
  have hl := hvg.len
  have HV := Lib.hid (And.intro hvg hn)
  unfold GV
  rw [hn] at H1 ⊢
  clear h hal hcc hvg hn
  obtain ⟨c0, c1⟩ := H1.out.2.2
  have n1 : W.heap.size < (W.alloc (.cells #[.int .i64 (n : Int), .slice ca g.es.length cc] 24)).heap.size := H1.out.2.2.lt
  go_enter Try.func32, Try.ntmps32
  go_wp2_with (at_make; refine wp_make (f := fun x : Value => x) (.slice none 0 0) sRowsG rfl _ rfl _ _ rfl .i64 .i64 _ _ n rfl rfl rfl rfl (by omega) (by unfold maxLen; omega) ?_)
  intro s cap W2 hrow hb2
  rw [← World.size_alloc W (.cells #[.int .i64 (n : Int), .slice ca g.es.length cc] 24)] at hrow hb2
  generalize W.alloc (.cells #[.int .i64 (n : Int), .slice ca g.es.length cc] 24) = W1 at *
  have h0 : LsW W1 n cap s g.es 0 (List.replicate n (.slice none 0 0)) W2 := ⟨by rw [listsTo_zero]; exact OwnN.made hrow (Go.Dfl.Own.nil _ _ _ _), hb2⟩
  have HL0 := Lib.hid h0
  clear h0 hrow hb2
  go_wp2_with fail
  generalize hbs : W.heap.size = bs at *
  have HBS := Lib.hid hbs
  clear hbs
  go_loopw [4] (fun x wr => ∃ (k : Nat) (vs : List Value), k ≤ g.es.length ∧ x = .int .i64 k ∧ Hid (LsW W1 n cap s g.es k vs wr)) (fun x _ => g.es.length - (intOf x).toNat)
  case atStart => exact ⟨0, _, by omega, rfl, HL0.out⟩
  case round =>
    obtain ⟨k, vs, hk, rfl, hh⟩ := hrel
    obtain ⟨d0, d1⟩ := H1.out.2.2.below hh.out.bel
    by_cases hlt : k < g.es.length
    · obtain ⟨p0, p1⟩ := (H1.out.1 k hlt).2 wr (H1.out.2.1.trans (hh.out.bel.mono (Nat.le_of_lt n1)))
      obtain ⟨e, he⟩ : ∃ e, e = nth g.es k := ⟨_, rfl⟩
      rw [← he] at p0 p1
      have hin := HV.out.1.nth hlt
      rw [← he] at hin
      have HE := Lib.hid he
      have hkl : (k : Int) < (g.es.length : Int) := by omega
      obtain ⟨x, y⟩ := e
      dsimp only at p0 p1 hin
      obtain ⟨a, rfl⟩ : ∃ a : Nat, x = a := ⟨x.toNat, by omega⟩
      have han : a < n := by have := HV.out.2; omega
      go_upto_region 6 with fail
      have hnew := cells_new (W := wr) (cs := [.int .i64 (a : Int), .int .i64 y]) (t := 35) rfl
      have hb0 := (Below.refl wr.heap.size wr).alloc (Nat.le_refl _) (.cells #[.int .i64 (a : Int), .int .i64 y] 35)
      have hrows := hh.out.rows.below kIIg hb0
      have hbel := hh.out.bel.trans (hb0.mono hh.out.bel.size)
      have hz : (wr.alloc (.cells #[.int .i64 (a : Int), .int .i64 y] 35)).heap.size = wr.heap.size + 1 := World.size_alloc _ _
      refine gen_code (fun V => (V.cell? ⟨wr.heap.size, 0, none⟩ = some (.int .i64 (a : Int)) ∧ V.cell? ⟨wr.heap.size, 1, none⟩ = some (.int .i64 y)) ∧ OwnN IIg V W1.heap.size 32 (.slice s n cap) vs (listsTo g.es n k) ∧ Below W1.heap.size W1 V ∧ V.heap.size = wr.heap.size + 1) ⟨⟨hnew 0 _ rfl, hnew 1 _ rfl⟩, hrows, hbel, hz⟩ ?_
      rintro V ⟨⟨q0, q1⟩, v1, v2, v3⟩
      have hft : ∀ q, Foot (.slice s n cap) vs q → q < wr.heap.size := fun q hq => (hh.out.rows.foot kIIg q hq).2
      clear hnew hb0 hrows hbel hz d0 d1 p0 p1 hh
      generalize wr.heap.size = be at *
      have hll : (listsTo g.es n k).length = n := listsTo_len _ _ _
      have hvl : vs.length = n := by rw [v1.len, hll]
      have hbd : Below V.heap.size V V.drew := (Below.refl _ _).drew
      have hq0 := (hbd.cell (p := ⟨be, 0, none⟩) (by show be < _; omega)).trans q0
      have hq1 := (hbd.cell (p := ⟨be, 1, none⟩) (by show be < _; omega)).trans q1
      have hv1 := v1.below kIIg hbd
      have hv2 := v2.trans (hbd.mono v2.size)
      have hv3 : V.drew.heap.size = be + 1 := v3
      clear q0 q1 v1 v2 v3 hbd
      obtain ⟨a4, c4, he, hm4, hidx4, hcell4, -⟩ := hv1.out.lst.out1 sRowsG
      rw [hvl] at he hm4 hidx4 hcell4
      simp only [Value.slice.injEq] at he
      obtain ⟨rfl, -, rfl⟩ := he
      have ccl := hcell4 a han
      have i4 := hidx4 .i64 (a : Int) (by omega) (by omega)
      rw [Int.toNat_natCast] at i4
      have hfz := hv1.out.frozen (by omega) (ofs s + a)
      have hob : (Value.slice s n cap).ownBlock = some (blk s) := by
        obtain ⟨a2, c2, he, -, -, h3⟩ := hv1.out.lst
        rw [hvl] at he h3
        simp only [Value.slice.injEq] at he
        obtain ⟨rfl, -, rfl⟩ := he
        rw [(h3 a han).1]; rfl
      have hbs9 : blk s < be := hft _ (.inl hob)
      have hne1 : blk s ≠ be := by omega
      have hna : ∀ q, (nth vs a).ownBlock = some q → q < be ∧ q ≠ blk s := fun q hq => ⟨hft q (.inr ⟨a, by omega, hq⟩), fun e => hv1.apart a (by omega) q hq (by rw [e]; exact hob)⟩
      have hlen : (nth (listsTo g.es n k) a).length ≤ k := by rw [listsTo_nth han]; exact succK_len _ _ _
      have hsu := listsTo_succ (es := g.es) (n := n) hlt (a := a) (by rw [← HE.out]) han
      rw [← HE.out] at hsu
      dsimp only at hsu
      have HS := Lib.hid (And.intro hq0 (And.intro hq1 ccl))
      have HH := Lib.hid (And.intro hv1 (And.intro hv2 (And.intro hna (And.intro hlen (And.intro hsu (And.intro hvl hll))))))
      clear hidx4 hcell4 hm4 hob hbs9 hna hlen hsu hq0 hq1 ccl hv1 hv2 hft hvl hll
      refine wp_region_mix [0, 1, 2, 3, 4, 5, 6, 7, 8, 9] [10, 11, 12, 13] (fun w' => w'.cell? ⟨be, 0, none⟩ = some (.int .i64 (a : Int)) ∧ w'.cell? ⟨be, 1, none⟩ = some (.int .i64 y) ∧ w'.cell? ⟨blk s, ofs s + a, none⟩ = some (nth vs a)) (by kernel_rfl) (by kernel_rfl) (by kernel_rfl) HS.out ?_
      repeat (
        refine wpHeads_cons (v := ?_) rfl (Or.inl ⟨by rfl, ?_⟩) ?_
        rotate_left
        · (intro W hW; obtain ⟨q1, q2, q3⟩ := hW; go_simp; try with_reducible rfl)
        simp only [Act.put, List.setIfInBounds_toArray, List.getElem_toArray, List.getElem_cons_zero, List.getElem_cons_succ, List.set_cons_succ, List.set_cons_zero])
      refine wpHeads_nil ?_
      generalize V.drew = Z at *
      refine wpTails_cons rfl ?_
      go_wp2_with fail
      have gA := grownBy_alloc Z (.cells #[.int .i64 y] 3)
      have HS2 := Lib.hid (HS.out.imp (fun h => gA.cell h (by simp)) fun h => h.imp (fun h => gA.cell h (by simp)) fun h => gA.cell h (by simp))
      have HA := Lib.hid (And.intro (HH.out.1.alloc kIIg (.cells #[.int .i64 y] 3)) (cell_alloc1 Z (.int .i64 y) 3))
      clear gA
      refine tail_mk HS2.out ?_
      refine wpTails_cons rfl ?_
      refine wp_append1at (f := Value.int .i64) sIntG rfl _ rfl _ _ rfl W1.heap.size (nth vs a) (nth (listsTo g.es n k) a) rfl (HA.out.1.inn a (by rw [HH.out.2.2.2.2.2.2]; exact han)) y ⟨be + 1, 0, none⟩ rfl (by rw [← hv3]; exact HA.out.2) rfl (by have := HH.out.2.2.2.1; omega) (by omega) (by rw [World.size_alloc]; have := HH.out.2.1.size; omega) ?_
      intro v31 w31 o31 g31 l31
      obtain ⟨s31, c31, rfl⟩ := o31.shape (n := (nth (listsTo g.es n k) a).length + 1) (by simp)
      have hS3 := HS2.out.imp (fun h => g31.cell h (fun e => by have := (HH.out.2.2.1 _ e.symm).1; dsimp only at this; omega)) fun h => h.imp (fun h => g31.cell h (fun e => by have := (HH.out.2.2.1 _ e.symm).1; dsimp only at this; omega)) fun h => g31.cell h (fun e => (HH.out.2.2.1 _ e.symm).2 rfl)
      have HS3 := Lib.hid hS3
      clear hS3
      refine tail_mk HS3.out ?_
      refine wpTails_cons rfl ?_
      go_wp2_with fail
      refine tail_mk HS3.out ?_
      refine wpTails_one rfl ?_
      have hai : a < (listsTo g.es n k).length := by rw [HH.out.2.2.2.2.2.2]; exact han
      have hf31 := (HA.out.1.outAt hai g31).frozen (by rw [HH.out.2.2.2.2.2.1]; omega) (ofs s + a)
      have hc31 := HS3.out.2.2
      have hput := HA.out.1.put kIIg hai g31 o31 (fun q hq => by
        rcases l31 with e | e
        · left; rw [← e, hq]
        · right; rw [e] at hq; have := Option.some.inj hq; omega)
      have hbl := (HH.out.2.1.alloc HH.out.2.1.size (.cells #[.int .i64 y] 3)).grown g31 (by rw [World.size_alloc]; have := HH.out.2.1.size; omega) (fun q e => (kIIg.lt (HA.out.1.inn a hai) q e).1)
      have hbs1 : W1.heap.size ≤ blk s := (HH.out.1.foot kIIg _ (.inl (by
        obtain ⟨a2, c2, he, -, -, h3⟩ := HH.out.1.out.lst
        rw [HH.out.2.2.2.2.2.1] at he h3
        simp only [Value.slice.injEq] at he
        obtain ⟨rfl, -, rfl⟩ := he
        rw [(h3 a han).1]; rfl))).1
      have HQ := Lib.hid (And.intro hput (hbl.setCell (p := ⟨blk s, ofs s + a, none⟩) hbs1 (.slice s31 ((nth (listsTo g.es n k) a).length + 1) c31)))
      clear o31 g31 l31 hput hbl hbs1 hai
      go_wp2_with fail
      refine thenQ_mk ?_
      go_wp2_with fail
      go_roundw
      case rel => exact ⟨k + 1, vs.set a (.slice s31 ((nth (listsTo g.es n k) a).length + 1) c31), by omega, by go_num, by have h9 := HQ.out.1; rw [HH.out.2.2.2.2.1] at h9; exact h9, HQ.out.2⟩
      case measure => simp [intOf]; omega
    · obtain rfl : k = g.es.length := by omega
      go_wp2_with fail
      go_ret
      refine ⟨s, cap, vs, by rw [HV.out.2]; rfl, ?_, by rw [HBS.out]; exact H1.out.2.1.trans (hh.out.bel.mono (Nat.le_of_lt n1))⟩
      rw [HV.out.2, HBS.out, Int.toNat_natCast]
      exact OwnN.mono hh.out.rows (Nat.le_of_lt n1)
end Go.Proofs.Ytchmjgjagaaomaa
