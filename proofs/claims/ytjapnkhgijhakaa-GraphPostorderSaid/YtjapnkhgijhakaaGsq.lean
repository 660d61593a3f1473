/- Contract of the reference's sorted. -/
import Derived.Test.YtjapnkhgijhakaaGso
import Derived.Test.YtjapnkhgijhakaaGrm
namespace Go.Proofs.Ytjapnkhgijhakaa
open Go.RowKit Go.Dfl Go.Gra

def RsoR (l : List (Int × Int)) (W : World) (e : Ending) (W' : World) : Prop := ∃ a c r, e = .returned (.slice a r.length c) ∧ OwnE elE W' W.heap.size 39 (.slice a r.length c) r ∧ SortOf l r ∧ r.length ≤ l.length ∧ Below W.heap.size W W'
theorem ownE_empty {w : World} {base B : Nat} {e : TypeId} (h : B = w.heap.size) (hb : base ≤ w.heap.size) : OwnE elE (w.alloc (.cells #[] e)) base e (.slice (some ⟨B, 0, none⟩) 0 0) [] := by
  subst h
  exact World.ownsRow_lit (size := 2) w #[] 0 hb (by unfold maxLen; omega) rfl
theorem ownE_alloc {w : World} {base : Nat} {e : TypeId} {v : Value} {l : List (Int × Int)} (h : OwnE elE w base e v l) (o : Obj) : OwnE elE (w.alloc o) base e v l := OwnE.grown h (grownBy_alloc _ _) (by cases v.ownBlock <;> simp)
/-- 'append(s, l...)' at a row of edges. -/
theorem wp_appendEs {w : World} {base : Nat} {v u : Value} {l m : List (Int × Int)} {ops : Array Oper} {rest : List Oper} {o : Oper} {a : Act} {Q : Exit → Act → World → Prop}
    (hg : o.guard = none) (s x : Operand) (hop : o.op = .call { callee := .builtin .append, args := #[s, x], argTypes := #[22, 22] })
    (hs : a.eval s = v) (hx : a.eval x = u) (hown : OwnE elE w base 39 v l) (hu : Pairs w u m) (hm : 0 < m.length) (hlen : l.length + m.length ≤ 1000000000) (hbase : base ≤ w.heap.size)
    (hK : ∀ v' w', OwnE elE w' base 39 v' (l ++ m) → w.grownBy w' v.ownBlock → wpList Try.prog ops Q rest (a.put o.dst v') w') : wpList Try.prog ops Q (o :: rest) a w := by
  refine wpList_plain hg fun K hK' => ?_
  obtain ⟨i, hi, hz0, hz1, hz2⟩ := sEdge.info
  obtain ⟨ad, cap, rfl, h1, h2, h3⟩ := hu
  obtain ⟨had, -, -⟩ := h3 0 hm
  have hcells : ∀ j y, (m.flatMap elE.c)[j]? = some y → w.cell? ((⟨blk ad, ofs ad, none⟩ : Addr).add j) = some y := fun j y hj => by
    have hlt : j < m.length * 2 := by
      have := (List.getElem?_eq_some_iff.1 hj).1
      rw [flat_len] at this; exact this
    have hjd : j = j / 2 * 2 + j % 2 := by omega
    have h4 := (h3 (j / 2) (by omega)).2.2 (j % 2) (by omega)
    rw [hjd, show j / 2 * 2 = j / 2 * elE.sz from rfl, flat_get elE m (j / 2) (j % 2) (by omega) (show j % 2 < 2 by omega)] at hj
    rw [show (⟨blk ad, ofs ad, none⟩ : Addr).add j = ⟨blk ad, ofs ad + j, none⟩ by unfold Addr.add; split <;> first | rfl | (rename_i h9; simp)]
    rw [show ofs ad + j = ofs ad + j / 2 * 2 + j % 2 by omega, h4, ← hj]
    rcases (by omega : j % 2 = 0 ∨ j % 2 = 1) with h5 | h5 <;> rw [h5] <;> rfl
  obtain ⟨v', w', hr, h5, h6, -, h8⟩ := run_append_own_at (P := Try.prog) w base 22 o.type 39 i _ 2 _ sEdge.und hi hz0 hz1 hz2 rfl (by omega) v l.length (l.flatMap elE.c) hown ⟨blk ad, ofs ad, none⟩ m.length cap (m.flatMap elE.c) (by rw [flat_len]; rfl) hcells (fun y hy => by
    obtain ⟨x, -, hx⟩ := List.mem_flatMap.1 hy
    exact elE.one x y hx) (by unfold maxLen; omega) (by omega) hbase
  rw [← had] at hr
  unfold Oper.wp execOp
  simp only [hop, resolve, invoke, builtin, Sem.run_bind, Sem.run_pure, Result.andThen_ok, List.map_toArray, List.map_cons, List.map_nil, hs, hx, hr]
  refine hK' _ _ (hK v' w' ?_ h6)
  unfold OwnE
  rw [List.length_append, List.flatMap_append]
  exact h5
set_option maxHeartbeats 3200000 in
set_option maxRecDepth 100000 in
theorem rSorted_short (l : List (Int × Int)) (v : Value) (W : World) (h : Pairs W v l) (hl : l.length < 2) : Calls Try.prog 35 #[v] W (RsoR l W) := by
  obtain ⟨ca, cc, rfl, -, -, -⟩ := pairs_rd h
  have hso := sortOf_short hl
  have hq : (l.length : Int) < 2 := by omega
  have H0 := Lib.hid (And.intro h hso)
  clear h hso
  go_enter Try.func35, Try.ntmps35
  by_cases h0 : l.length = 0
  · obtain rfl := List.length_eq_zero_iff.1 h0
    obtain ⟨i, hi, hz0, hz1, hz2⟩ := sEdge.info
    have HO := Lib.hid (ownE_empty (w := W) (base := W.heap.size) (e := 39) rfl (Nat.le_refl _))
    simp only [List.length_nil] at hq ⊢
    rcases ca with _ | ad
    · have hap : ∀ (ty : TypeId) (w : World) (g : Nat), (Builtin.append_ #[22, 22] ty #[.slice (some ⟨g, 0, none⟩) 0 0, .slice none 0 cc]).run Try.prog w = .ok (.slice (some ⟨g, 0, none⟩) 0 0) w := fun ty w g => by
        simp [Builtin.append_, run_underlying Try.underlying22, sizeOf, typeInfo, hi, Builtin.lenOf, Builtin.firstCells, storeCells]
      clear hi hz0 hz1 hz2
      go_wp2_with fail
      go_ret
      exact ⟨some ⟨W.heap.size, 0, none⟩, 0, [], rfl, HO.out, H0.out.2, Nat.le_refl _, (Below.refl _ _).alloc (Nat.le_refl _) _⟩
    · have hap : ∀ (ty : TypeId) (w : World) (g : Nat), (Builtin.append_ #[22, 22] ty #[.slice (some ⟨g, 0, none⟩) 0 0, .slice (some ad) 0 cc]).run Try.prog w = .ok (.slice (some ⟨g, 0, none⟩) 0 0) w := fun ty w g => by
        simp [Builtin.append_, run_underlying Try.underlying22, sizeOf, typeInfo, hi, Builtin.lenOf, Builtin.firstCells, storeCells, loadCells, loadCellsFrom]
      clear hi hz0 hz1 hz2
      go_wp2_with fail
      go_ret
      exact ⟨some ⟨W.heap.size, 0, none⟩, 0, [], rfl, HO.out, H0.out.2, Nat.le_refl _, (Below.refl _ _).alloc (Nat.le_refl _) _⟩
  · have HO := Lib.hid (ownE_empty (w := W) (base := W.heap.size) (e := 39) rfl (Nat.le_refl _))
    have hb1 : Below W.heap.size W (W.alloc (.cells #[] 39)) := (Below.refl _ _).alloc (Nat.le_refl _) _
    have HB := Lib.hid hb1
    clear hb1
    go_wp2_with (at_builtin; refine wp_appendEs rfl _ _ rfl rfl rfl HO.out (H0.out.1.below HB.out) (by omega) (by simp; omega) HB.out.size ?_; intro v' w3 hown hgr; rw [List.nil_append] at hown; obtain ⟨s9, c9, rfl⟩ := hown.shape rfl; have HW := Lib.hid (And.intro hown hgr); clear hown hgr)
    go_ret
    exact ⟨s9, c9, l, rfl, HW.out.1, H0.out.2, Nat.le_refl _, HB.out.grown HW.out.2 HB.out.size fun k e => by have := Option.some.inj e; dsimp only at this; omega⟩
/-- The state of the merge. -/
structure MgW (r1 r2 : List (Int × Int)) (W0 : World) (o : List (Int × Int)) (i k : Nat) (ov : Value) (W : World) : Prop where
  own : OwnE elE W W0.heap.size 39 ov o
  bel : Below W0.heap.size W0 W
  eq : o ++ mrg (r1.drop i) (r2.drop k) = mrg r1 r2
  le : o.length ≤ i + k
theorem MgW.below {r1 r2 : List (Int × Int)} {W0 : World} {o : List (Int × Int)} {i k : Nat} {ov : Value} {W W' : World} (h : MgW r1 r2 W0 o i k ov W) (hb : Below W.heap.size W W') : MgW r1 r2 W0 o i k ov W' :=
  ⟨OwnE.grown h.own (grownBy_below hb) (by cases ov.ownBlock <;> simp), h.bel.trans (hb.mono h.bel.size), h.eq, h.le⟩
theorem MgW.push {r1 r2 : List (Int × Int)} {W0 : World} {o : List (Int × Int)} {i k i' k' : Nat} {ov v' : Value} {W w3 : World} (h : MgW r1 r2 W0 o i k ov W) {x : Int × Int} {c : Obj} (ho : OwnE elE w3 W0.heap.size 39 v' (o ++ [x])) (hg : (W.alloc c).grownBy w3 ov.ownBlock)
    (he : mrg (r1.drop i) (r2.drop k) = x :: mrg (r1.drop i') (r2.drop k')) (hik : i' + k' = i + k + 1) : MgW r1 r2 W0 (o ++ [x]) i' k' v' w3 :=
  ⟨ho, (h.bel.alloc h.bel.size c).grown hg (by rw [World.size_alloc]; have := h.bel.size; omega) (fun k e => (OwnE.lt h.own k e).1), by rw [List.append_assoc, List.singleton_append, ← he]; exact h.eq, by rw [List.length_append, List.length_singleton]; have := h.le; omega⟩
theorem mrg_len : ∀ (a b : List (Int × Int)), (mrg a b).length ≤ a.length + b.length
  | [], b => by rw [mrg]; simp
  | x :: a, [] => by rw [mrg]; simp
  | x :: a, y :: b => by
    rw [mrg]
    split
    · have := mrg_len a (y :: b); simp only [List.length_cons] at this ⊢; omega
    · split
      · have := mrg_len (x :: a) b; simp only [List.length_cons] at this ⊢; omega
      · have := mrg_len a (y :: b); simp only [List.length_cons] at this ⊢; omega
termination_by a b => a.length + b.length
set_option maxHeartbeats 3200000 in
set_option maxRecDepth 100000 in
theorem rSorted_any : ∀ (m : Nat) (l : List (Int × Int)) (v : Value) (W : World), l.length ≤ m → l.length ≤ 1000000 → Pairs W v l → Calls Try.prog 35 #[v] W (RsoR l W) := by
  intro m
  induction m with
  | zero => intro l v W hl _ h; exact rSorted_short l v W h (by omega)
  | succ m ih =>
    intro l v W hl hlm h
    by_cases hs : l.length < 2
    · exact rSorted_short l v W h hs
    · obtain ⟨u1, u2, hu1, hu2, hu⟩ := pairs_cut sEdge h (k := l.length / 2) (by omega)
      obtain ⟨ca, cc, rfl, -, -, -⟩ := pairs_rd h
      have hq : ¬ (l.length : Int) < 2 := by omega
      have hdv : (l.length : Int) / 2 = ((l.length / 2 : Nat) : Int) := by omega
      have hwq : IntKind.i64.wrap ((l.length : Int) / 2) = (l.length : Int) / 2 := IntWalk.i64_in _ (by omega)
      rw [← hdv] at hu1 hu2
      clear hdv
      have H0 := Lib.hid (And.intro h hu)
      have IH := Lib.hid ih
      clear h hu ih
      go_enter Try.func35, Try.ntmps35
      go_upto_region 3 with fail
      refine wp_region_plan (.take 0 (.take 1 (.take 2 (.take 3 (.take 4 (.take 6 (.take 7 (.take 8 (.take 9 (.take 10 (.alt 5 (.alt 11 (.alt 12 (.alt 13 .done .stop) .stop) .stop) .stop))))))))))) (fun _ => True) (by kernel_rfl) (by kernel_rfl) (by kernel_rfl) (by kernel_rfl) trivial ?_
      repeat (
        refine plan_take (v := ?_) rfl (Or.inl ⟨by rfl, ?_⟩) ?_
        rotate_left
        · (intro W hW; go_simp; try with_reducible rfl)
        simp only [Act.put, List.setIfInBounds_toArray, List.getElem_toArray, List.getElem_cons_zero, List.getElem_cons_succ, List.set_cons_succ, List.set_cons_zero])
      have hbd : Below W.heap.size W W.drew := (Below.refl _ _).drew
      have hpd := H0.out.1.below hbd
      have hsz : W.drew.heap.size = W.heap.size := rfl
      have HD := Lib.hid (And.intro hbd (And.intro (H0.out.2 _ hpd) hsz))
      clear hbd hpd hsz hu1 hu2
      generalize W.drew = V at *
      refine plan_alt rfl ?_ plan_stop
      go_wp2_with fail
      refine (IH.out (l.take (l.length / 2)) u1 V (by rw [List.length_take]; omega) (by rw [List.length_take]; omega) HD.out.2.1.1).mono ?_
      rintro e V1 ⟨a1, k1, r1, rfl, o1, t1, e1, b1⟩
      have H1 := Lib.hid (And.intro o1 (And.intro t1 (And.intro e1 (And.intro b1 (HD.out.2.1.2.below b1)))))
      clear o1 t1 e1 b1
      go_wp2_with fail
      refine tail_mk trivial ?_
      refine plan_alt rfl ?_ plan_stop
      go_wp2_with fail
      refine (IH.out (l.drop (l.length / 2)) u2 V1 (by rw [List.length_drop]; omega) (by rw [List.length_drop]; omega) H1.out.2.2.2.2).mono ?_
      rintro e V2 ⟨a2, k2, r2, rfl, o2, t2, e2, b2⟩
      have H2 := Lib.hid (And.intro o2 (And.intro t2 (And.intro e2 b2)))
      clear o2 t2 e2 b2
      go_wp2_with fail
      refine tail_mk trivial ?_
      refine plan_alt rfl ?_ plan_stop
      go_wp2_with fail
      refine tail_mk trivial ?_
      refine plan_alt rfl ?_ plan_stop
      go_wp2_with fail
      refine tail_mk trivial ?_
      refine plan_done ?_
      go_wp2_with fail
      have hp1 : Pairs V2 (.slice a1 r1.length k1) r1 := (own_pairs H1.out.1).below H2.out.2.2.2
      have hp2 : Pairs V2 (.slice a2 r2.length k2) r2 := own_pairs H2.out.1
      obtain ⟨a3, c3, he1, hn1, hx1, hc1⟩ := pairs_rd hp1
      obtain ⟨a4, c4, he2, hn2, hx2, hc2⟩ := pairs_rd hp2
      simp only [Value.slice.injEq] at he1 he2
      obtain ⟨rfl, -, rfl⟩ := he1
      obtain ⟨rfl, -, rfl⟩ := he2
      have hl1 := H1.out.2.2.1
      have hl2 := H2.out.2.2.1
      rw [List.length_take] at hl1
      rw [List.length_drop] at hl2
      have HC := Lib.hid (And.intro hc1 hc2)
      have h0 : MgW r1 r2 V2 [] 0 0 (.slice none 0 0) V2 := ⟨OwnE.nil _ _ _ _, Below.refl _ _, rfl, by simp⟩
      have HM := Lib.hid h0
      clear hp1 hp2 h0 hc1 hc2
      go_loopw [5, 6, 7] (fun s x y wr => ∃ (o : List (Int × Int)) (i k : Nat) (sa : Option Addr) (sc : Nat), s = .slice sa o.length sc ∧ x = .int .i64 i ∧ y = .int .i64 k ∧ i ≤ r1.length ∧ k ≤ r2.length ∧ Hid (MgW r1 r2 V2 o i k (.slice sa o.length sc) wr)) (fun _ x y _ => (r1.length - (intOf x).toNat) + (r2.length - (intOf y).toNat))
      case atStart => exact ⟨[], 0, 0, none, 0, rfl, rfl, rfl, by omega, by omega, HM.out⟩
      case round =>
        obtain ⟨o, i, k, sa, sc, rfl, rfl, rfl, hi, hk, hh⟩ := hrel
        have hrl : r1.length ≤ 1000000 ∧ r2.length ≤ 1000000 := by omega
        obtain ⟨hrl1, hrl2⟩ := hrl
        by_cases hil : i < r1.length
        · have hil' : (i : Int) < (r1.length : Int) := by omega
          have hin : ((i : Int) == (r1.length : Int)) = false := by simp; omega
          obtain ⟨x, hx⟩ : ∃ x, x = nth r1 i := ⟨_, rfl⟩
          obtain ⟨x1, x2⟩ := x
          have HCX := Lib.hid (fun Z (hZ : Below V2.heap.size V2 Z) => (HC.out.1 i hil).2 Z hZ)
          rw [← hx] at HCX
          by_cases hkl : k < r2.length
          · have hkl' : (k : Int) < (r2.length : Int) := by omega
            have hkn : ((k : Int) == (r2.length : Int)) = false := by simp; omega
            obtain ⟨y, hy⟩ : ∃ y, y = nth r2 k := ⟨_, rfl⟩
            obtain ⟨y1, y2⟩ := y
            have HCY := Lib.hid (fun Z (hZ : Below V2.heap.size V2 Z) => (HC.out.2 k hkl).2 Z hZ)
            rw [← hy] at HCY
            obtain ⟨t1, ht1⟩ : ∃ t, t = decide (eLt (x1, x2) (y1, y2)) := ⟨_, rfl⟩
            obtain ⟨t2, ht2⟩ : ∃ t, t = decide (eLt (y1, y2) (x1, x2)) := ⟨_, rfl⟩
            have HT := Lib.hid (And.intro ht1 ht2)
            have HXY := Lib.hid (And.intro hx hy)
            clear ht1 ht2 hx hy
            go_upto_region 8 with fail
            obtain ⟨Cls, hCls⟩ : ∃ Cls : World → Prop, ∀ Z', Cls Z' ↔ Below wr.heap.size wr Z' := ⟨_, fun _ => Iff.rfl⟩
            have hC : Cls wr.drew := (hCls _).2 ((Below.refl _ _).drew)
            have k0 : ∀ q : Wd Cls, Below wr.heap.size wr q.val := fun q => (hCls _).1 q.ok
            have HK := Lib.hid k0
            have HCC := Lib.hid hC
            haveI hne : Nonempty (Wd Cls) := ⟨⟨_, hC⟩⟩
            have e0 : ∀ q : Wd Cls, q.val.cell? ⟨blk a1, ofs a1 + i * 2, none⟩ = some (.int .i64 x1) := fun q => (HCX.out _ (hh.out.bel.trans ((HK.out q).mono hh.out.bel.size))).1
            have e1 : ∀ q : Wd Cls, q.val.cell? ⟨blk a1, ofs a1 + i * 2 + 1, none⟩ = some (.int .i64 x2) := fun q => (HCX.out _ (hh.out.bel.trans ((HK.out q).mono hh.out.bel.size))).2
            have e2 : ∀ q : Wd Cls, q.val.cell? ⟨blk a2, ofs a2 + k * 2, none⟩ = some (.int .i64 y1) := fun q => (HCY.out _ (hh.out.bel.trans ((HK.out q).mono hh.out.bel.size))).1
            have e3 : ∀ q : Wd Cls, q.val.cell? ⟨blk a2, ofs a2 + k * 2 + 1, none⟩ = some (.int .i64 y2) := fun q => (HCY.out _ (hh.out.bel.trans ((HK.out q).mono hh.out.bel.size))).2
            have F1 := Lib.hid (show ∀ q : Wd Cls, Calls Try.prog 41 #[.agg #[.int .i64 x1, .int .i64 x2], .agg #[.int .i64 y1, .int .i64 y2]] q.val fun e w'' => e = .returned (.bool t1) ∧ ∃ q : Wd Cls, w'' = q.val from fun q => class_of ((rLess_any (x1, x2) (y1, y2) _).mono fun e w' ⟨h1, h2⟩ => ⟨by rw [h1, HT.out.1], (hCls _).2 ((k0 q).trans (h2.below.mono (k0 q).size))⟩))
            clear k0 hCls hC
            refine wp_region_class Cls (by kernel_rfl) (by kernel_rfl) HCC.out ?_
            repeat (go_big_quiet_step ((go_at_call 41; exact F1.out _)))
            refine wpQuiet_nil ?_
            rintro _ ⟨q9, rfl⟩
            have HM8 := Lib.hid (hh.out.below (HK.out q9))
            clear e0 e1 e2 e3 F1 HCC hne hh
            generalize q9.val = Z at *
            clear q9 HK Cls
            cases t1 with
            | true =>
              obtain ⟨c0, c1⟩ := HCX.out Z HM8.out.bel
              have hed : eLt (nth r1 i) (nth r2 k) := by rw [← HXY.out.1, ← HXY.out.2]; exact of_decide_eq_true HT.out.1.symm
              have HE := Lib.hid (mrg_a hil (.inr ⟨hkl, hed⟩))
              clear hed
              go_wp2_with (at_builtin; refine wp_appendE (E := elE) sEdge rfl rfl _ _ rfl rfl Z.heap.size rfl (ownE_alloc HM8.out.own (.cells #[.int .i64 x1, .int .i64 x2] 39)) (x1, x2) (cells_new (cs := [.int .i64 x1, .int .i64 x2]) rfl) (by have := HM8.out.le; omega) (by have := HM8.out.le; omega) (by rw [World.size_alloc]; have := HM8.out.bel.size; omega) ?_; intro v' w3 hown hgr hat; obtain ⟨s9, c9, rfl⟩ := hown.shape (n := o.length + 1) (by rw [List.length_append]; rfl); have HO := Lib.hid (And.intro hown hgr); clear hown hgr hat)
              go_roundw
              case rel =>
                have h9 := HM8.out.push HO.out.1 HO.out.2 (i' := i + 1) (k' := k) (by rw [HXY.out.1]; exact HE.out) (by omega)
                exact ⟨o ++ [(x1, x2)], i + 1, k, s9, c9, by rw [List.length_append]; rfl, by go_num, rfl, by omega, hk, by rw [List.length_append]; exact h9⟩
              case measure => simp [intOf]; omega
            | false =>
              have hne1 : ¬ eLt (nth r1 i) (nth r2 k) := by rw [← HXY.out.1, ← HXY.out.2]; exact of_decide_eq_false HT.out.1.symm
              have HNE := Lib.hid hne1
              clear hne1
              go_upto_region 11 with fail
              obtain ⟨Cls, hCls⟩ : ∃ Cls : World → Prop, ∀ Z', Cls Z' ↔ Below Z.heap.size Z Z' := ⟨_, fun _ => Iff.rfl⟩
              have hC : Cls Z.drew := (hCls _).2 ((Below.refl _ _).drew)
              have k0 : ∀ q : Wd Cls, Below Z.heap.size Z q.val := fun q => (hCls _).1 q.ok
              have HK := Lib.hid k0
              have HCC := Lib.hid hC
              haveI hne : Nonempty (Wd Cls) := ⟨⟨_, hC⟩⟩
              have e0 : ∀ q : Wd Cls, q.val.cell? ⟨blk a1, ofs a1 + i * 2, none⟩ = some (.int .i64 x1) := fun q => (HCX.out _ (HM8.out.bel.trans ((HK.out q).mono HM8.out.bel.size))).1
              have e1 : ∀ q : Wd Cls, q.val.cell? ⟨blk a1, ofs a1 + i * 2 + 1, none⟩ = some (.int .i64 x2) := fun q => (HCX.out _ (HM8.out.bel.trans ((HK.out q).mono HM8.out.bel.size))).2
              have e2 : ∀ q : Wd Cls, q.val.cell? ⟨blk a2, ofs a2 + k * 2, none⟩ = some (.int .i64 y1) := fun q => (HCY.out _ (HM8.out.bel.trans ((HK.out q).mono HM8.out.bel.size))).1
              have e3 : ∀ q : Wd Cls, q.val.cell? ⟨blk a2, ofs a2 + k * 2 + 1, none⟩ = some (.int .i64 y2) := fun q => (HCY.out _ (HM8.out.bel.trans ((HK.out q).mono HM8.out.bel.size))).2
              have F1 := Lib.hid (show ∀ q : Wd Cls, Calls Try.prog 41 #[.agg #[.int .i64 y1, .int .i64 y2], .agg #[.int .i64 x1, .int .i64 x2]] q.val fun e w'' => e = .returned (.bool t2) ∧ ∃ q : Wd Cls, w'' = q.val from fun q => class_of ((rLess_any (y1, y2) (x1, x2) _).mono fun e w' ⟨h1, h2⟩ => ⟨by rw [h1, HT.out.2], (hCls _).2 ((k0 q).trans (h2.below.mono (k0 q).size))⟩))
              clear k0 hCls hC
              refine wp_region_class Cls (by kernel_rfl) (by kernel_rfl) HCC.out ?_
              repeat (go_big_quiet_step ((go_at_call 41; exact F1.out _)))
              refine wpQuiet_nil ?_
              rintro _ ⟨q9, rfl⟩
              have HM9 := Lib.hid (HM8.out.below (HK.out q9))
              clear e0 e1 e2 e3 F1 HCC hne HM8
              generalize q9.val = Y at *
              clear q9 HK Cls
              cases t2 with
              | true =>
                obtain ⟨c0, c1⟩ := HCY.out Y HM9.out.bel
                have hed : eLt (nth r2 k) (nth r1 i) := by rw [← HXY.out.1, ← HXY.out.2]; exact of_decide_eq_true HT.out.2.symm
                have HE := Lib.hid (mrg_b hkl (.inr ⟨hil, HNE.out, hed⟩))
                clear hed
                go_wp2_with (at_builtin; refine wp_appendE (E := elE) sEdge rfl rfl _ _ rfl rfl Y.heap.size rfl (ownE_alloc HM9.out.own (.cells #[.int .i64 y1, .int .i64 y2] 39)) (y1, y2) (cells_new (cs := [.int .i64 y1, .int .i64 y2]) rfl) (by have := HM9.out.le; omega) (by have := HM9.out.le; omega) (by rw [World.size_alloc]; have := HM9.out.bel.size; omega) ?_; intro v' w3 hown hgr hat; obtain ⟨s9, c9, rfl⟩ := hown.shape (n := o.length + 1) (by rw [List.length_append]; rfl); have HO := Lib.hid (And.intro hown hgr); clear hown hgr hat)
                go_roundw
                case rel =>
                  have h9 := HM9.out.push HO.out.1 HO.out.2 (i' := i) (k' := k + 1) (by rw [HXY.out.2]; exact HE.out) (by omega)
                  exact ⟨o ++ [(y1, y2)], i, k + 1, s9, c9, by rw [List.length_append]; rfl, rfl, by go_num, hi, by omega, by rw [List.length_append]; exact h9⟩
                case measure => simp [intOf]; omega
              | false =>
                have hne2 : ¬ eLt (nth r2 k) (nth r1 i) := by rw [← HXY.out.1, ← HXY.out.2]; exact of_decide_eq_false HT.out.2.symm
                have HE := Lib.hid (mrg_c hil hkl HNE.out hne2)
                clear hne2
                go_wp2_with fail
                go_roundw
                case rel =>
                  have h9 := HM9.out
                  exact ⟨o, i + 1, k, sa, sc, rfl, by go_num, rfl, by omega, hk, h9.own, h9.bel, by rw [← HE.out]; exact h9.eq, by have := h9.le; omega⟩
                case measure => simp [intOf]; omega
          · obtain rfl : k = r2.length := by omega
            have HX := Lib.hid hx
            clear hx hkl
            go_upto_region 8 with fail
            obtain ⟨Cls, hCls⟩ : ∃ Cls : World → Prop, ∀ Z', Cls Z' ↔ Below wr.heap.size wr Z' := ⟨_, fun _ => Iff.rfl⟩
            have hC : Cls wr.drew := (hCls _).2 ((Below.refl _ _).drew)
            have k0 : ∀ q : Wd Cls, Below wr.heap.size wr q.val := fun q => (hCls _).1 q.ok
            have HK := Lib.hid k0
            have HCC := Lib.hid hC
            haveI hne : Nonempty (Wd Cls) := ⟨⟨_, hC⟩⟩
            clear k0 hCls hC
            refine wp_region_class Cls (by kernel_rfl) (by kernel_rfl) HCC.out ?_
            repeat (go_big_quiet_step (fail))
            refine wpQuiet_nil ?_
            rintro _ ⟨q9, rfl⟩
            have HM8 := Lib.hid (hh.out.below (HK.out q9))
            clear HCC hne hh
            generalize q9.val = Z at *
            clear q9 HK Cls
            obtain ⟨c0, c1⟩ := HCX.out Z HM8.out.bel
            have HE := Lib.hid (mrg_a (s := r2) hil (.inl rfl))
            go_wp2_with (at_builtin; refine wp_appendE (E := elE) sEdge rfl rfl _ _ rfl rfl Z.heap.size rfl (ownE_alloc HM8.out.own (.cells #[.int .i64 x1, .int .i64 x2] 39)) (x1, x2) (cells_new (cs := [.int .i64 x1, .int .i64 x2]) rfl) (by have := HM8.out.le; omega) (by have := HM8.out.le; omega) (by rw [World.size_alloc]; have := HM8.out.bel.size; omega) ?_; intro v' w3 hown hgr hat; obtain ⟨s9, c9, rfl⟩ := hown.shape (n := o.length + 1) (by rw [List.length_append]; rfl); have HO := Lib.hid (And.intro hown hgr); clear hown hgr hat)
            go_roundw
            case rel =>
              have h9 := HM8.out.push HO.out.1 HO.out.2 (i' := i + 1) (k' := r2.length) (by rw [HX.out]; exact HE.out) (by omega)
              exact ⟨o ++ [(x1, x2)], i + 1, r2.length, s9, c9, by rw [List.length_append]; rfl, by go_num, rfl, by omega, hk, by rw [List.length_append]; exact h9⟩
            case measure => simp [intOf]; omega
        · obtain rfl : i = r1.length := by omega
          by_cases hkl : k < r2.length
          · have hkl' : (k : Int) < (r2.length : Int) := by omega
            have hkn : ((k : Int) == (r2.length : Int)) = false := by simp; omega
            obtain ⟨y, hy⟩ : ∃ y, y = nth r2 k := ⟨_, rfl⟩
            obtain ⟨y1, y2⟩ := y
            have HCY := Lib.hid (fun Z (hZ : Below V2.heap.size V2 Z) => (HC.out.2 k hkl).2 Z hZ)
            rw [← hy] at HCY
            have HX := Lib.hid hy
            clear hy hil
            go_upto_region 8 with fail
            obtain ⟨Cls, hCls⟩ : ∃ Cls : World → Prop, ∀ Z', Cls Z' ↔ Below wr.heap.size wr Z' := ⟨_, fun _ => Iff.rfl⟩
            have hC : Cls wr.drew := (hCls _).2 ((Below.refl _ _).drew)
            have k0 : ∀ q : Wd Cls, Below wr.heap.size wr q.val := fun q => (hCls _).1 q.ok
            have HK := Lib.hid k0
            have HCC := Lib.hid hC
            haveI hne : Nonempty (Wd Cls) := ⟨⟨_, hC⟩⟩
            clear k0 hCls hC
            refine wp_region_class Cls (by kernel_rfl) (by kernel_rfl) HCC.out ?_
            repeat (go_big_quiet_step (fail))
            refine wpQuiet_nil ?_
            rintro _ ⟨q9, rfl⟩
            have HM8 := Lib.hid (hh.out.below (HK.out q9))
            clear HCC hne hh
            generalize q9.val = Z at *
            clear q9 HK Cls
            go_upto_region 11 with fail
            obtain ⟨Cls, hCls⟩ : ∃ Cls : World → Prop, ∀ Z', Cls Z' ↔ Below Z.heap.size Z Z' := ⟨_, fun _ => Iff.rfl⟩
            have hC : Cls Z.drew := (hCls _).2 ((Below.refl _ _).drew)
            have k0 : ∀ q : Wd Cls, Below Z.heap.size Z q.val := fun q => (hCls _).1 q.ok
            have HK := Lib.hid k0
            have HCC := Lib.hid hC
            haveI hne : Nonempty (Wd Cls) := ⟨⟨_, hC⟩⟩
            clear k0 hCls hC
            refine wp_region_class Cls (by kernel_rfl) (by kernel_rfl) HCC.out ?_
            repeat (go_big_quiet_step (fail))
            refine wpQuiet_nil ?_
            rintro _ ⟨q9, rfl⟩
            have HM9 := Lib.hid (HM8.out.below (HK.out q9))
            clear HCC hne HM8
            generalize q9.val = Y at *
            clear q9 HK Cls
            obtain ⟨c0, c1⟩ := HCY.out Y HM9.out.bel
            have HE := Lib.hid (mrg_b (r := r1) hkl (.inl rfl))
            go_wp2_with (at_builtin; refine wp_appendE (E := elE) sEdge rfl rfl _ _ rfl rfl Y.heap.size rfl (ownE_alloc HM9.out.own (.cells #[.int .i64 y1, .int .i64 y2] 39)) (y1, y2) (cells_new (cs := [.int .i64 y1, .int .i64 y2]) rfl) (by have := HM9.out.le; omega) (by have := HM9.out.le; omega) (by rw [World.size_alloc]; have := HM9.out.bel.size; omega) ?_; intro v' w3 hown hgr hat; obtain ⟨s9, c9, rfl⟩ := hown.shape (n := o.length + 1) (by rw [List.length_append]; rfl); have HO := Lib.hid (And.intro hown hgr); clear hown hgr hat)
            go_roundw
            case rel =>
              have h9 := HM9.out.push HO.out.1 HO.out.2 (i' := r1.length) (k' := k + 1) (by rw [HX.out]; exact HE.out) (by omega)
              exact ⟨o ++ [(y1, y2)], r1.length, k + 1, s9, c9, by rw [List.length_append]; rfl, rfl, by go_num, hi, by omega, by rw [List.length_append]; exact h9⟩
            case measure => simp [intOf]; omega
          · obtain rfl : k = r2.length := by omega
            have hor : o = mrg r1 r2 := by
              have h9 := hh.out.eq
              rw [List.drop_length, List.drop_length, mrg, List.append_nil] at h9
              exact h9
            have HOR := Lib.hid hor
            clear hor hil hkl
            go_wp2_with fail
            go_ret
            have hb12 : Below W.heap.size W V2 := HD.out.1.trans ((H1.out.2.2.2.1.mono (Nat.le_of_eq HD.out.2.2.symm)).trans (H2.out.2.2.2.mono (by have := H1.out.2.2.2.1.size; have := HD.out.2.2; omega)))
            have hsz := hb12.size
            refine ⟨sa, sc, o, rfl, OwnE.mono' hh.out.own hsz, ?_, ?_, hb12.trans (hh.out.bel.mono hsz)⟩
            · rw [HOR.out]; exact sortOf_mrg (List.take_append_drop _ l).symm H1.out.2.1 H2.out.2.1
            · have h8 := mrg_len r1 r2
              rw [HOR.out]; omega
end Go.Proofs.Ytjapnkhgijhakaa
