/- Contracts of reversed, Reverse of package graph. -/
import Derived.Test.YtjapnkhgijhakaaGrm
namespace Go.Gra
open Go.Dfl (nth nth_mem mem_nth nth_eq nth_ext)
def swp (e : Int × Int) : Int × Int := (e.2, e.1)
/-- The sorted list of the reversed edges. -/
def RevOf (es l : List (Int × Int)) : Prop := l.length = es.length ∧ SortOf (es.map swp) l
theorem swp_inj {x y : Int × Int} (h : swp x = swp y) : x = y := by
  obtain ⟨a, b⟩ := x; obtain ⟨c, d⟩ := y
  simp [swp] at h; simp [h]
theorem revOf_sorted {es r l : List (Int × Int)} (hn : es.Nodup) (hr : r = es.map swp) (hl : l.Perm r) (hs : ∀ i j, i < j → j < l.length → ¬ eLt (nth l j) (nth l i)) : RevOf es l := by
  subst hr
  have hnd : l.Nodup := hl.nodup_iff.2 (List.pairwise_map.2 (hn.imp fun h e => h (swp_inj e)))
  refine ⟨by rw [hl.length_eq, List.length_map], ?_, fun e => hl.mem_iff⟩
  rw [List.pairwise_iff_getElem]
  intro i j hi hj hij
  have h1 := hs i j hij hj
  rw [nth_eq _ _ hj, nth_eq _ _ hi] at h1
  apply Classical.byContradiction
  intro h2
  have h3 := eLt_total h1 h2
  exact (List.pairwise_iff_getElem.1 hnd) i j hi hj hij h3.symm
end Go.Gra
namespace Go.Proofs.Ytjapnkhgijhakaa
open Go.RowKit Go.Dfl Go.Gra

theorem made_pairs (n : Nat) : (madeCells (Value.agg #[.int .i64 0, .int .i64 0]).cells (n * 2)).toList = (List.replicate n ((0 : Int), (0 : Int))).flatMap elE.c := by
  have h1 : (madeCells (Value.agg #[.int .i64 0, .int .i64 0]).cells (n * 2)).toList = List.replicate (n * 2) (.int .i64 0) := by
    rw [List.eq_replicate_iff]
    refine ⟨by simp [madeCells], fun v hv => ?_⟩
    simp only [madeCells, Value.cells] at hv
    simp at hv
    obtain ⟨i, -, rfl⟩ := hv
    rcases (by omega : i % 2 = 0 ∨ i % 2 = 1) with h | h <;> simp [h]
  have h2 : (List.replicate n ((0 : Int), (0 : Int))).flatMap elE.c = List.replicate (n * 2) (.int .i64 0) := by
    rw [List.eq_replicate_iff]
    refine ⟨by rw [flat_len]; simp [elE], fun v hv => ?_⟩
    obtain ⟨x, hx, hv⟩ := List.mem_flatMap.1 hv
    rw [List.mem_replicate] at hx
    obtain ⟨-, rfl⟩ := hx
    simp [elE] at hv
    exact hv
  rw [h1, h2]
/-- 'make([]api.Edge, n)'. -/
theorem wp_makeP (w : World) {ops : Array Oper} {rest : List Oper} {o : Oper} {a : Act} {Q : Exit → Act → World → Prop}
    (hg : o.guard = none) (l c : Operand) (hop : o.op = Op.makeSlice 22 l c) (kl kc : IntKind) (L C : Int) (n : Nat) (hl : a.eval l = .int kl L) (hc : a.eval c = .int kc C) (hL : L = (n : Int)) (hC : C = (n : Int))
    (hb : 16 * n ≤ 281474976710656) (hm : n ≤ maxLen)
    (hK : ∀ s cap w', OwnE elE w' w.heap.size 39 (.slice s n cap) (List.replicate n (0, 0)) → Below w.heap.size w w' → wpList Try.prog ops Q rest (a.put o.dst (.slice s n cap)) w') :
    wpList Try.prog ops Q (o :: rest) a w := by
  obtain ⟨i, hi, hz0, hz1, hz2⟩ := sEdge.info
  refine wpList_make_full w hg l c 22 hop w.heap.size 39 i (.agg #[.int .i64 0, .int .i64 0]) 2 sEdge.und hi hz0 hz1 kl kc L C n hl hc hL hC (by rw [hz2]; exact hb) hm (Nat.le_refl _) ?_
  intro w' h1 h2
  refine hK _ _ w' ?_ ((Below.refl _ _).grown h2 (Nat.le_refl _) (by simp))
  rw [made_pairs] at h1
  unfold OwnE
  rw [List.length_replicate]
  exact h1
theorem results_cell1 {fn : Func} {p : Tmp} {ty : TypeId} (h : fn.results = #[.cell p ty]) (tmps : Array Value) (P : Program) (w : World) :
    (results fn tmps).run P w = ((asAddr (tmps.getD p undef)).run P w).andThen fun a w₁ => (loadVar ty a).run P w₁ := by
  simp only [results, h]
  simp [Sem.run_bind]
/-- What reversed returns. -/
def RevR (g : G) (W : World) (e : Ending) (W' : World) : Prop := ∃ a c l, e = .returned (GV ⟨g.n, l⟩ (.slice a l.length c)) ∧ OwnE elE W' W.heap.size 39 (.slice a l.length c) l ∧ RevOf g.es l ∧ Below W.heap.size W W'
set_option maxHeartbeats 3200000 in
set_option maxRecDepth 100000 in
theorem reversed_any (g : G) (cv : Value) (W : World) (h : Pairs W cv g.es) (hv : VG g) : Calls Try.prog 43 #[GV g cv] W (RevR g W) := by
  obtain ⟨ca, cc, rfl, hlen, hci, hcc⟩ := pairs_rd h
  obtain ⟨n, es⟩ := g
  dsimp only at *
  have hl := hv.len
  dsimp only at hl
  have H0 := Lib.hid (And.intro hcc hv)
  clear h hcc hv
  unfold GV
  dsimp only
  go_enter Try.func43, Try.ntmps43
  go_wp2_with (at_make; refine wp_makeP _ rfl _ _ rfl .i64 .i64 _ _ es.length rfl rfl rfl rfl ?c1 ?c2 ?_)
  case c1 => omega
  case c2 => unfold maxLen; omega
  rintro s cap W1 hown hb
  have hB2 : ((W.alloc (.cells #[.int .i64 n, .slice ca es.length cc] 25)).alloc (.cells #[.int .i64 0, .slice none 0 0] 25)).heap.size = W.heap.size + 1 + 1 := by rw [World.size_alloc, World.size_alloc]
  rw [← hB2] at hb
  have hb0 : Below W.heap.size W W1 := (((Below.refl W.heap.size W).alloc (Nat.le_refl _) _).alloc (by rw [World.size_alloc]; omega) _).trans (hb.mono (by rw [hB2]; omega))
  have hbx : BoxG W1 W.heap.size n (.slice ca es.length cc) := (((BoxG.new W n (.slice ca es.length cc) 25).grown (grownBy_alloc _ _) (by simp)).below hb)
  have hgz : GZ W1 (W.heap.size + 1) := GZ.below (by have h1 := heap_alloc_new (W.alloc (.cells #[.int .i64 n, .slice ca es.length cc] 25)) (.cells #[.int .i64 0, .slice none 0 0] 25); rw [World.size_alloc] at h1; exact h1) hb
  have HH : Hid (OwnE elE W1 (W.heap.size + 1 + 1) 39 (.slice s es.length cap) (List.replicate es.length (0, 0)) ∧ Below W.heap.size W W1 ∧ BoxG W1 W.heap.size n (.slice ca es.length cc) ∧ GZ W1 (W.heap.size + 1)) := Lib.hid ⟨hown, hb0, hbx, hgz⟩
  clear hown hb hb0 hbx hgz hB2
  generalize hbs : W.heap.size = bs at *
  have HBS := Lib.hid hbs
  clear hbs
  obtain ⟨⟨c0, c1⟩, -⟩ := And.intro HH.out.2.2.1 trivial
  go_wp2_with fail
  go_loopw [13] (fun x wr => ∃ (k : Nat) (r : List (Int × Int)), k ≤ es.length ∧ x = .int .i64 k ∧ Hid (OwnE elE wr (bs + 1 + 1) 39 (.slice s es.length cap) r ∧ r.length = es.length ∧ (∀ i, i < k → nth r i = swp (nth es i)) ∧ Below bs W wr ∧ BoxG wr bs n (.slice ca es.length cc) ∧ GZ wr (bs + 1))) (fun x _ => es.length - (intOf x).toNat)
  case atStart => exact ⟨0, _, by omega, rfl, HH.out.1, by simp, fun i hi => by omega, HH.out.2⟩
  case round =>
    obtain ⟨k, r, hk, rfl, hh⟩ := hrel
    have hbl := hh.out.2.2.2.2.1.lt
    have hsz := hh.out.2.2.2.2.2.lt
    by_cases hlt : k < es.length
    · obtain ⟨p0, p1⟩ := (H0.out.1 k hlt).2 wr hh.out.2.2.2.1
      obtain ⟨e, he⟩ : ∃ e, e = nth es k := ⟨_, rfl⟩
      rw [← he] at p0 p1
      have HE := Lib.hid he
      clear he
      obtain ⟨x, y⟩ := e
      dsimp only at p0 p1
      obtain ⟨g, rfl⟩ : ∃ g, s = some ⟨g, 0, none⟩ := by
        obtain ⟨-, ⟨h2, h3⟩ | ⟨g, cap2, cur, hv, -⟩⟩ := hh.out.1
        · simp only [Value.slice.injEq] at h2; omega
        · simp only [Value.slice.injEq] at hv; exact ⟨g, hv.1⟩
      have ho := OwnE.grown hh.out.1 (grownBy_alloc wr (.cells #[.int .i64 x, .int .i64 y] 39)) (.inr (by simp [Value.ownBlock]))
      obtain ⟨hraw, hcap⟩ := ho.raw
      have hrow := OwnE.rowC ho hh.out.2.1
      obtain ⟨w1, w2⟩ := hrow k (by rw [hh.out.2.1]; exact hlt)
      have f1 := hraw.frozen (k * 2)
      have f2 := hraw.frozen (k * 2 + 1)
      have hki : (k : Int) < (es.length : Int) := by omega
      have gA := grownBy_alloc wr (.cells #[.int .i64 x, .int .i64 y] 39)
      have hgb : bs + 1 + 1 ≤ g := (OwnE.lt hh.out.1 g rfl).1
      have hbA : Below bs W (wr.alloc (.cells #[.int .i64 x, .int .i64 y] 39)) := hh.out.2.2.2.1.alloc (by omega) _
      have HL := Lib.hid (And.intro hraw (And.intro hcap (And.intro hrow (And.intro gA (And.intro hgb (And.intro hbA hlt))))))
      clear hraw hcap ho hrow gA hgb hbA
      go_wp2_with fail
      go_roundw
      case rel =>
        have gB := grownBy_setCell (wr.alloc (.cells #[.int .i64 x, .int .i64 y] 39)) ⟨g, k * 2, none⟩ (.int .i64 y)
        have gC := grownBy_setCell ((wr.alloc (.cells #[.int .i64 x, .int .i64 y] 39)).setCell ⟨g, k * 2, none⟩ (.int .i64 y)) ⟨g, k * 2 + 1, none⟩ (.int .i64 x)
        have gD := grownBy_trans gB gC
        have hl7 := HL.out
        have hrs := RowC.set hl7.2.2.1 (i := k) (by rw [hh.out.2.1]; exact hlt) y x
        refine ⟨k + 1, r.set k (y, x), by omega, by go_num, RowC.own hrs ((hl7.1.setCell _ _ rfl).setCell _ _ rfl) hl7.2.1 (by rw [List.length_set]; exact hh.out.2.1), by rw [List.length_set]; exact hh.out.2.1, fun i hi => ?_, ((hl7.2.2.2.2.2.1.setCell (show bs ≤ (⟨g, k * 2, none⟩ : Addr).block from by show bs ≤ g; omega) _).setCell (show bs ≤ (⟨g, k * 2 + 1, none⟩ : Addr).block from by show bs ≤ g; omega) _), ((hh.out.2.2.2.2.1.grown hl7.2.2.2.1 (by simp)).grown gD (fun e => by have e2 : bs = g := Option.some.inj e; omega)), ((hh.out.2.2.2.2.2.grown hl7.2.2.2.1 (by simp)).grown gD (fun e => by have e2 : bs + 1 = g := Option.some.inj e; omega))⟩
        rw [nth_set]
        by_cases e : k = i
        · subst e
          rw [if_pos ⟨rfl, by rw [hh.out.2.1]; exact hlt⟩, ← HE.out]; rfl
        · rw [if_neg (fun h => e h.1)]; exact hh.out.2.2.1 i (by omega)
      case measure => simp [intOf]; omega
    · obtain rfl : k = es.length := by omega
      have hre : r = es.map swp := nth_ext (by rw [hh.out.2.1, List.length_map]) fun i hi => by
        rw [hh.out.2.2.1 i (by rw [← hh.out.2.1]; exact hi), nth_eq es i (by rw [← hh.out.2.1]; exact hi), nth_eq (es.map swp) i (by rw [List.length_map, ← hh.out.2.1]; exact hi), List.getElem_map]
      have hnd : es.Nodup := (List.Pairwise.imp (R := eLt) (S := fun a b => a ≠ b) (fun {a b} h (e : a = b) => eLt_irrefl a (by rw [← e] at h; exact h)) H0.out.2.srt : es.Pairwise fun a b => a ≠ b)
      have HR := Lib.hid (And.intro hre hnd)
      clear hre hnd
      cases s with
      | none =>
        have he0 : es = [] := by
          obtain ⟨-, ⟨h2, h3⟩ | ⟨g, cap2, cur, hv, -⟩⟩ := hh.out.1
          · simp only [Value.slice.injEq] at h2; exact List.length_eq_zero_iff.1 h2.2.1
          · simp at hv
        subst he0
        go_wp2_with fail
        refine (sort_nil _ _ _).mono ?_
        rintro e W3 ⟨rfl, hw3⟩
        rw [hw3]
        clear hw3 W3
        obtain ⟨⟨z0, z1⟩, zf0, zf1⟩ := hh.out.2.2.2.2.2.rd
        obtain ⟨b0, b1⟩ := hh.out.2.2.2.2.1
        have hc0 : cap = 0 := by
          obtain ⟨-, ⟨h2, h3⟩ | ⟨g, cap2, cur, hv, -⟩⟩ := hh.out.1
          · simp only [Value.slice.injEq] at h2; exact h2.2.2
          · simp at hv
        subst hc0
        go_wp2_with fail
        refine bodyPost_ret (v := .agg #[.int .i64 n, .slice none 0 0]) (by rw [results_cell1 rfl]; go_simp; try rfl) rfl ?_
        exact ⟨none, 0, [], rfl, OwnE.nil _ _ _ _, ⟨rfl, ⟨List.Pairwise.nil, fun e => by simp⟩⟩, by rw [HBS.out]; exact below2s hh.out.2.2.2.1 (by omega) _ _⟩
      | some g0 =>
        obtain ⟨g, rfl⟩ : ∃ g, g0 = ⟨g, 0, none⟩ := by
          obtain ⟨-, ⟨h2, h3⟩ | ⟨g, cap2, cur, hv, -⟩⟩ := hh.out.1
          · simp at h2
          · simp only [Value.slice.injEq] at hv; exact ⟨g, Option.some.inj hv.1⟩
        go_wp2_with fail
        have ho := hh.out.1
        rw [← hh.out.2.1] at ho
        have hso := sort_any (bs + 1 + 1) g cap r wr ho (by rw [hh.out.2.1]; omega)
        rw [hh.out.2.1] at hso
        refine hso.mono ?_
        rintro e W3 ⟨l', rfl, hl', hm', hs', o3, g3⟩
        have hgb : bs + 1 + 1 ≤ g := (OwnE.lt ho g rfl).1
        rw [hh.out.2.1] at o3
        have hz3 := hh.out.2.2.2.2.2.grown g3 (fun e => by have e2 : bs + 1 = g := Option.some.inj e; omega)
        have hx3 := hh.out.2.2.2.2.1.grown g3 (fun e => by have e2 : bs = g := Option.some.inj e; omega)
        have hb3 : Below bs W W3 := hh.out.2.2.2.1.grown g3 (by omega) (fun k e => by have e2 : g = k := Option.some.inj e; omega)
        have hrv : RevOf es l' := revOf_sorted HR.out.2 HR.out.1 hm' hs'
        obtain ⟨⟨z0, z1⟩, zf0, zf1⟩ := hz3.rd
        obtain ⟨b0, b1⟩ := hx3
        have H3 := Lib.hid (And.intro o3 (And.intro hb3 (And.intro hrv hgb)))
        clear ho hso hl' hm' hs' o3 g3 hgb hz3 hb3 hrv
        go_wp2_with fail
        refine bodyPost_ret (v := .agg #[.int .i64 n, .slice (some ⟨g, 0, none⟩) es.length cap]) (by rw [results_cell1 rfl]; go_simp; try rfl) rfl ?_
        have gf := grownBy_trans (grownBy_setCell W3 ⟨bs + 1, 0, none⟩ (.int .i64 n)) (grownBy_setCell _ ⟨bs + 1, 1, none⟩ (.slice (some ⟨g, 0, none⟩) es.length cap))
        have h3 := H3.out
        have o5 := OwnE.grown h3.1 gf (.inr fun e => by have e2 : g = bs + 1 := Option.some.inj e; omega)
        refine ⟨some ⟨g, 0, none⟩, cap, l', by unfold GV; rw [h3.2.2.1.1], ?_, h3.2.2.1, by rw [HBS.out]; exact below2s h3.2.1 (by omega) _ _⟩
        rw [h3.2.2.1.1]; exact OwnE.mono' o5 (by have := HBS.out; omega)
/-- What Reverse returns. -/
def RvrR (g : G) (W : World) (e : Ending) (W' : World) : Prop := (gCode g ≠ 0 ∧ e = .returned (GV ⟨0, []⟩ (.slice none 0 0)) ∧ Below W.heap.size W W') ∨ (gCode g = 0 ∧ RevR g W e W')
set_option maxHeartbeats 3200000 in
set_option maxRecDepth 100000 in
theorem gReverse_any (g : G) (cv : Value) (W : World) (h : Pairs W cv g.es) : Calls Try.prog 28 #[GV g cv] W (RvrR g W) := by
  obtain ⟨ca, cc, rfl, -, -, -⟩ := pairs_rd h
  have hb1 : Below W.heap.size W (W.alloc (.cells #[.int .i64 g.n, .slice ca g.es.length cc] 25)) := (Below.refl _ _).alloc (Nat.le_refl _) _
  have hb2 : Below W.heap.size W ((W.alloc (.cells #[.int .i64 g.n, .slice ca g.es.length cc] 25)).alloc (.cells #[.int .i64 0, .slice none 0 0] 25)) := hb1.alloc (by rw [World.size_alloc]; omega) _
  have hbx := (BoxG.new W g.n (.slice ca g.es.length cc) 25).grown (grownBy_alloc _ (.cells #[.int .i64 0, .slice none 0 0] 25)) (by simp)
  have hgz : GZ ((W.alloc (.cells #[.int .i64 g.n, .slice ca g.es.length cc] 25)).alloc (.cells #[.int .i64 0, .slice none 0 0] 25)) (W.heap.size + 1) := by have h1 := heap_alloc_new (W.alloc (.cells #[.int .i64 g.n, .slice ca g.es.length cc] 25)) (.cells #[.int .i64 0, .slice none 0 0] 25); rw [World.size_alloc] at h1; exact h1
  have H0 := Lib.hid (And.intro (h.below hb2) (And.intro hb2 (And.intro hbx hgz)))
  clear h hb1 hb2 hbx hgz
  unfold GV
  go_enter Try.func28, Try.ntmps28
  go_wp2_with fail
  have hck := gCheck_any g (.slice ca g.es.length cc) _ H0.out.1
  unfold GV at hck
  refine hck.mono ?_
  rintro e W1 ⟨rfl, r1⟩
  have H1 := Lib.hid (And.intro (H0.out.1.below r1) (And.intro (H0.out.2.1.trans (r1.mono H0.out.2.1.size)) (And.intro (H0.out.2.2.1.below r1) (H0.out.2.2.2.below r1))))
  clear r1 hck
  obtain ⟨c0, c1⟩ := H1.out.2.2.1
  obtain ⟨⟨z0, z1⟩, zf0, zf1⟩ := H1.out.2.2.2.rd
  have n1 := H1.out.2.2.2.lt
  generalize hbs : W.heap.size = bs at *
  have HBS := Lib.hid hbs
  clear hbs
  by_cases hc : gCode g = 0
  · have q0 : (gCode g != 0) = false := by simpa using hc
    have hvg := gCode_ok.1 hc
    have HC := Lib.hid (And.intro hc hvg)
    clear hc hvg z0 z1 zf0 zf1
    go_wp2_with fail
    have hre := reversed_any g (.slice ca g.es.length cc) W1 H1.out.1 HC.out.2
    unfold GV at hre
    refine hre.mono ?_
    rintro e W2 ⟨a, c, l, rfl, r1, r2, r3⟩
    obtain ⟨⟨z0, z1⟩, zf0, zf1⟩ := (H1.out.2.2.2.below r3).rd
    have H2 := Lib.hid (And.intro r1 (And.intro r2 (And.intro (H1.out.2.1.trans (r3.mono (Nat.le_of_lt (Nat.lt_of_succ_lt n1)))) (H1.out.2.2.2.below r3))))
    clear r1 r2 r3 hre
    unfold GV
    go_wp2_with fail
    refine bodyPost_ret (v := .agg #[.int .i64 g.n, .slice a l.length c]) (by rw [results_cell1 rfl]; go_simp; try rfl) rfl ?_
    refine .inr ⟨HC.out.1, a, c, l, rfl, ?_, H2.out.2.1, by rw [HBS.out]; exact below2s H2.out.2.2.1 (by omega) _ _⟩
    have gf := grownBy_trans (grownBy_setCell W2 ⟨bs + 1, 0, none⟩ (.int .i64 g.n)) (grownBy_setCell _ ⟨bs + 1, 1, none⟩ (.slice a l.length c))
    refine OwnE.mono' (OwnE.grown H2.out.1 gf (.inr fun e => ?_)) (by have := HBS.out; omega)
    have h1 := (OwnE.lt H2.out.1 _ e).1
    have e9 : (⟨bs + 1, 0, none⟩ : Addr).block = bs + 1 := rfl
    omega
  · have q0 : (gCode g != 0) = true := by simpa using hc
    have HC := Lib.hid hc
    clear hc
    go_wp2_with fail
    refine bodyPost_ret (v := .agg #[.int .i64 0, .slice none 0 0]) (by rw [results_cell1 rfl]; go_simp; try rfl) rfl ?_
    exact .inl ⟨HC.out, rfl, by rw [HBS.out]; exact below2s H1.out.2.1 (by omega) _ _⟩
end Go.Proofs.Ytjapnkhgijhakaa
