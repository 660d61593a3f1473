/- Plain: the merge by which the reference sorts. -/
import Derived.Test.YtchmjgjagaaomaaGrp
import Derived.Test.YtchmjgjagaaomaaGrc
import Derived.Test.YtchmjgjagaaomaaGa
import Derived.Test.YtchmjgjagaaomaaGrm
namespace Go.Gra
/-- The merge of two sorted lists, each edge once. -/
def mrg : List (Int × Int) → List (Int × Int) → List (Int × Int)
  | [], b => b
  | x :: a, [] => x :: a
  | x :: a, y :: b => if eLt x y then x :: mrg a (y :: b) else if eLt y x then y :: mrg (x :: a) b else mrg a (y :: b)
termination_by a b => a.length + b.length
theorem mem_mrg : ∀ (a b : List (Int × Int)) (e : Int × Int), e ∈ mrg a b ↔ e ∈ a ∨ e ∈ b
  | [], b, e => by rw [mrg]; simp
  | x :: a, [], e => by rw [mrg]; simp
  | x :: a, y :: b, e => by
    rw [mrg]
    split
    · rw [List.mem_cons, mem_mrg a (y :: b)]; simp only [List.mem_cons, or_assoc]
    · rename_i h1
      split
      · rw [List.mem_cons, mem_mrg (x :: a) b]; simp only [List.mem_cons]
        constructor
        · rintro (h | (h | h) | h)
          · exact .inr (.inl h)
          · exact .inl (.inl h)
          · exact .inl (.inr h)
          · exact .inr (.inr h)
        · rintro ((h | h) | h | h)
          · exact .inr (.inl (.inl h))
          · exact .inr (.inl (.inr h))
          · exact .inl h
          · exact .inr (.inr h)
      · rename_i h2
        have hxy := eLt_total h1 h2
        subst hxy
        rw [mem_mrg a (x :: b)]; simp only [List.mem_cons]
        constructor
        · rintro (h | h | h)
          · exact .inl (.inr h)
          · exact .inl (.inl h)
          · exact .inr (.inr h)
        · rintro ((h | h) | h | h)
          · exact .inr (.inl h)
          · exact .inl h
          · exact .inr (.inl h)
          · exact .inr (.inr h)
termination_by a b => a.length + b.length
theorem mrg_sorted : ∀ (a b : List (Int × Int)), a.Pairwise eLt → b.Pairwise eLt → (mrg a b).Pairwise eLt
  | [], b, _, hb => by rw [mrg]; exact hb
  | x :: a, [], ha, _ => by rw [mrg]; exact ha
  | x :: a, y :: b, ha, hb => by
    rw [mrg]
    rw [List.pairwise_cons] at ha hb
    split
    · rename_i h1
      refine List.pairwise_cons.2 ⟨fun e he => ?_, mrg_sorted a (y :: b) ha.2 (List.pairwise_cons.2 hb)⟩
      rcases (mem_mrg _ _ _).1 he with h | h
      · exact ha.1 e h
      · rcases List.mem_cons.1 h with rfl | h
        · exact h1
        · exact eLt_trans h1 (hb.1 e h)
    · split
      · rename_i h2
        refine List.pairwise_cons.2 ⟨fun e he => ?_, mrg_sorted (x :: a) b (List.pairwise_cons.2 ha) hb.2⟩
        rcases (mem_mrg _ _ _).1 he with h | h
        · rcases List.mem_cons.1 h with rfl | h
          · exact h2
          · exact eLt_trans h2 (ha.1 e h)
        · exact hb.1 e h
      · exact mrg_sorted a (y :: b) ha.2 (List.pairwise_cons.2 hb)
termination_by a b => a.length + b.length
/-- Sorting by halves. -/
theorem sortOf_mrg {l l1 l2 r1 r2 : List (Int × Int)} (hl : l = l1 ++ l2) (h1 : SortOf l1 r1) (h2 : SortOf l2 r2) : SortOf l (mrg r1 r2) :=
  ⟨mrg_sorted _ _ h1.srt h2.srt, fun e => by rw [mem_mrg, h1.mem, h2.mem, hl, List.mem_append]⟩
end Go.Gra

/- The reference's sorting: plain steps of the merge, the halves of a row. -/
namespace Go.Gra
open Go.Dfl (nth nth_mem mem_nth nth_eq nth_ext)
theorem mrg_right : ∀ (a : List (Int × Int)), mrg a [] = a
  | [] => by rw [mrg]
  | _ :: _ => by rw [mrg]
theorem mrg_a {r s : List (Int × Int)} {i k : Nat} (hi : i < r.length) (h : k = s.length ∨ (k < s.length ∧ eLt (nth r i) (nth s k))) : mrg (r.drop i) (s.drop k) = nth r i :: mrg (r.drop (i + 1)) (s.drop k) := by
  rcases h with rfl | ⟨hk, hl⟩
  · rw [List.drop_length, mrg_right, mrg_right, drop_nth _ _ hi]
  · rw [drop_nth _ _ hi, drop_nth _ _ hk, mrg, if_pos hl]
theorem mrg_b {r s : List (Int × Int)} {i k : Nat} (hk : k < s.length) (h : i = r.length ∨ (i < r.length ∧ ¬ eLt (nth r i) (nth s k) ∧ eLt (nth s k) (nth r i))) : mrg (r.drop i) (s.drop k) = nth s k :: mrg (r.drop i) (s.drop (k + 1)) := by
  rcases h with rfl | ⟨hi, h1, h2⟩
  · rw [List.drop_length, mrg, mrg, drop_nth _ _ hk]
  · rw [drop_nth _ _ hi, drop_nth _ _ hk, mrg, if_neg h1, if_pos h2]
theorem mrg_c {r s : List (Int × Int)} {i k : Nat} (hi : i < r.length) (hk : k < s.length) (h1 : ¬ eLt (nth r i) (nth s k)) (h2 : ¬ eLt (nth s k) (nth r i)) : mrg (r.drop i) (s.drop k) = mrg (r.drop (i + 1)) (s.drop k) := by
  rw [drop_nth _ _ hi]
  conv => lhs; rw [drop_nth _ _ hk]
  rw [mrg, if_neg h1, if_neg h2, ← drop_nth _ _ hk]
theorem sortOf_short {l : List (Int × Int)} (h : l.length < 2) : SortOf l l := by
  match l, h with
  | [], _ => exact SortOf.self List.Pairwise.nil
  | [x], _ => exact SortOf.self (by simp)
end Go.Gra
namespace Go.Dfl
open Go.RowKit
/-- The halves of a row. -/
theorem pairs_cut {P : Program} {t e : TypeId} {z : Value} {by8 : Nat} (ht : SliceOf P t e z 2 by8) {W : World} {v : Value} {l : List (Int × Int)} (h : Pairs W v l) {k : Nat} (hk : k < l.length) : ∃ u1 u2,
    (∀ W', (Instr.slice t v none (some (.int .i64 (k : Int))) none).run P W' = .ok u1 W') ∧ (∀ W', (Instr.slice t v (some (.int .i64 (k : Int))) none none).run P W' = .ok u2 W') ∧ ∀ Z, Pairs Z v l → Pairs Z u1 (l.take k) ∧ Pairs Z u2 (l.drop k) := by
  obtain ⟨i, hi, _, hs, _⟩ := ht.info
  obtain ⟨a, cap, rfl, h1, h2, h3⟩ := h
  obtain ⟨ha, -, -⟩ := h3 0 (by omega)
  rw [ha]
  have hlt : (l.take k).length = k := by simp; omega
  have hld : (l.drop k).length = l.length - k := by simp
  refine ⟨.slice (some ⟨blk a, ofs a, none⟩) k cap, .slice (some ⟨blk a, ofs a + k * 2, none⟩) (l.length - k) (cap - k), fun W' => ?_, fun W' => ?_, fun Z hZ => ⟨⟨some ⟨blk a, ofs a, none⟩, cap, by rw [hlt], by omega, h2, fun j hj => ?_⟩, ⟨some ⟨blk a, ofs a + k * 2, none⟩, cap - k, by rw [hld], by omega, by omega, fun j hj => ?_⟩⟩⟩
  · have h1' : k ≤ cap := by omega
    simp [Instr.slice, run_underlying ht.und, Instr.sliceBounds, Instr.sliceBound, asIntOf, h1', run_sizeOf _ hi, Addr.add]
  · have h1' : k ≤ l.length := by omega
    have hck : ¬ cap = k := by omega
    have hce : P.cellsOf e = 2 := by simp [Program.cellsOf, hi, hs]
    simp [Instr.slice, run_underlying ht.und, Instr.sliceBounds, Instr.sliceBound, asIntOf, h1', run_sizeOf _ hi, Addr.add, hck, hce]
  · rw [hlt] at hj
    obtain ⟨a2, cap2, he, -, -, h4⟩ := hZ
    simp only [Value.slice.injEq] at he
    obtain ⟨rfl, -, rfl⟩ := he
    obtain ⟨-, h5, h6⟩ := h4 j (by omega)
    refine ⟨rfl, h5, fun q hq => ?_⟩
    have := h6 q hq
    simp only [blk, ofs] at this ⊢
    rw [this]
    simp [nth, hj]
  · rw [hld] at hj
    obtain ⟨a2, cap2, he, -, -, h4⟩ := hZ
    simp only [Value.slice.injEq] at he
    obtain ⟨rfl, -, rfl⟩ := he
    obtain ⟨-, h5, h6⟩ := h4 (k + j) (by omega)
    refine ⟨rfl, h5, fun q hq => ?_⟩
    have := h6 q hq
    simp only [blk, ofs] at this ⊢
    rw [show ∀ x : Nat, x + k * 2 + j * 2 + q = x + (k + j) * 2 + q by intro x; omega, this]
    simp [nth]
end Go.Dfl

/- Contract of the reference's sorted. -/
namespace Go.Proofs.Ytchmjgjagaaomaa
open Go.RowKit Go.Dfl Go.Gra

def RsoR (l : List (Int × Int)) (W : World) (e : Ending) (W' : World) : Prop := ∃ a c r, e = .returned (.slice a r.length c) ∧ OwnE elE W' W.heap.size 35 (.slice a r.length c) r ∧ SortOf l r ∧ r.length ≤ l.length ∧ Below W.heap.size W W'
theorem ownE_empty {w : World} {base B : Nat} {e : TypeId} (h : B = w.heap.size) (hb : base ≤ w.heap.size) : OwnE elE (w.alloc (.cells #[] e)) base e (.slice (some ⟨B, 0, none⟩) 0 0) [] := by
  subst h
  exact World.ownsRow_lit (size := 2) w #[] 0 hb (by unfold maxLen; omega) rfl
theorem ownE_alloc {w : World} {base : Nat} {e : TypeId} {v : Value} {l : List (Int × Int)} (h : OwnE elE w base e v l) (o : Obj) : OwnE elE (w.alloc o) base e v l := OwnE.grown h (grownBy_alloc _ _) (by cases v.ownBlock <;> simp)
/-- 'append(s, l...)' at a row of edges. -/
theorem wp_appendEs {w : World} {base : Nat} {v u : Value} {l m : List (Int × Int)} {ops : Array Oper} {rest : List Oper} {o : Oper} {a : Act} {Q : Exit → Act → World → Prop}
    (hg : o.guard = none) (s x : Operand) (hop : o.op = .call { callee := .builtin .append, args := #[s, x], argTypes := #[22, 22] })
    (hs : a.eval s = v) (hx : a.eval x = u) (hown : OwnE elE w base 35 v l) (hu : Pairs w u m) (hm : 0 < m.length) (hlen : l.length + m.length ≤ 1000000000) (hbase : base ≤ w.heap.size)
    (hK : ∀ v' w', OwnE elE w' base 35 v' (l ++ m) → w.grownBy w' v.ownBlock → wpList Try.prog ops Q rest (a.put o.dst v') w') : wpList Try.prog ops Q (o :: rest) a w := by
  refine wpList_plain hg fun K hK' => ?_
  obtain ⟨i, hi, hz0, hz1, hz2⟩ := sEdge.info
  obtain ⟨ad, cap, rfl, h1, h2, h3⟩ := hu
  obtain ⟨had, -, -⟩ := h3 0 hm
  have hcells : ∀ j y, (m.flatMap elE.c)[j]? = some y → w.cell? ((⟨blk ad, ofs ad, none⟩ : Addr).add j) = some y := fun j y hj => by
    have hlt : j < m.length * 2 := by
      have := (List.getElem?_eq_some_iff.1 hj).1
      rw [flat_len] at this; exact this
    have hjd : j = j / 2 * 2 + j % 2 := by omega
    have h4 := (h3 (j / 2) (by omega)).2.2 (j % 2) (by omega)
    rw [hjd, show j / 2 * 2 = j / 2 * elE.sz from rfl, flat_get elE m (j / 2) (j % 2) (by omega) (show j % 2 < 2 by omega)] at hj
    rw [show (⟨blk ad, ofs ad, none⟩ : Addr).add j = ⟨blk ad, ofs ad + j, none⟩ by unfold Addr.add; split <;> first | rfl | (rename_i h9; simp)]
    rw [show ofs ad + j = ofs ad + j / 2 * 2 + j % 2 by omega, h4, ← hj]
    rcases (by omega : j % 2 = 0 ∨ j % 2 = 1) with h5 | h5 <;> rw [h5] <;> rfl
  obtain ⟨v', w', hr, h5, h6, -, h8⟩ := run_append_own_at (P := Try.prog) w base 22 o.type 35 i _ 2 _ sEdge.und hi hz0 hz1 hz2 rfl (by omega) v l.length (l.flatMap elE.c) hown ⟨blk ad, ofs ad, none⟩ m.length cap (m.flatMap elE.c) (by rw [flat_len]; rfl) hcells (fun y hy => by
    obtain ⟨x, -, hx⟩ := List.mem_flatMap.1 hy
    exact elE.one x y hx) (by unfold maxLen; omega) (by omega) hbase
  rw [← had] at hr
  unfold Oper.wp execOp
  simp only [hop, resolve, invoke, builtin, Sem.run_bind, Sem.run_pure, Result.andThen_ok, List.map_toArray, List.map_cons, List.map_nil, hs, hx, hr]
  refine hK' _ _ (hK v' w' ?_ h6)
  unfold OwnE
  rw [List.length_append, List.flatMap_append]
  exact h5
set_option maxHeartbeats 3200000 in
set_option maxRecDepth 100000 in
theorem rSorted_short (l : List (Int × Int)) (v : Value) (W : World) (h : Pairs W v l) (hl : l.length < 2) : Calls Try.prog 52 #[v] W (RsoR l W) := by
  obtain ⟨ca, cc, rfl, -, -, -⟩ := pairs_rd h
  have hso := sortOf_short hl
  have hq : (l.length : Int) < 2 := by omega
  have H0 := Lib.hid (And.intro h hso)
  clear h hso
  go_enter Try.func52, Try.ntmps52
  by_cases h0 : l.length = 0
  · obtain rfl := List.length_eq_zero_iff.1 h0
    obtain ⟨i, hi, hz0, hz1, hz2⟩ := sEdge.info
    have HO := Lib.hid (ownE_empty (w := W) (base := W.heap.size) (e := 35) rfl (Nat.le_refl _))
    simp only [List.length_nil] at hq ⊢
    rcases ca with _ | ad
    · have hap : ∀ (ty : TypeId) (w : World) (g : Nat), (Builtin.append_ #[22, 22] ty #[.slice (some ⟨g, 0, none⟩) 0 0, .slice none 0 cc]).run Try.prog w = .ok (.slice (some ⟨g, 0, none⟩) 0 0) w := fun ty w g => by
        simp [Builtin.append_, run_underlying Try.underlying22, sizeOf, typeInfo, hi, Builtin.lenOf, Builtin.firstCells, storeCells]
      clear hi hz0 hz1 hz2
      go_wp2_with fail
      go_ret
      exact ⟨some ⟨W.heap.size, 0, none⟩, 0, [], rfl, HO.out, H0.out.2, Nat.le_refl _, (Below.refl _ _).alloc (Nat.le_refl _) _⟩
    · have hap : ∀ (ty : TypeId) (w : World) (g : Nat), (Builtin.append_ #[22, 22] ty #[.slice (some ⟨g, 0, none⟩) 0 0, .slice (some ad) 0 cc]).run Try.prog w = .ok (.slice (some ⟨g, 0, none⟩) 0 0) w := fun ty w g => by
        simp [Builtin.append_, run_underlying Try.underlying22, sizeOf, typeInfo, hi, Builtin.lenOf, Builtin.firstCells, storeCells, loadCells, loadCellsFrom]
      clear hi hz0 hz1 hz2
      go_wp2_with fail
      go_ret
      exact ⟨some ⟨W.heap.size, 0, none⟩, 0, [], rfl, HO.out, H0.out.2, Nat.le_refl _, (Below.refl _ _).alloc (Nat.le_refl _) _⟩
  · have HO := Lib.hid (ownE_empty (w := W) (base := W.heap.size) (e := 35) rfl (Nat.le_refl _))
    have hb1 : Below W.heap.size W (W.alloc (.cells #[] 35)) := (Below.refl _ _).alloc (Nat.le_refl _) _
    have HB := Lib.hid hb1
    clear hb1
    go_wp2_with (at_builtin; refine wp_appendEs rfl _ _ rfl rfl rfl HO.out (H0.out.1.below HB.out) (by omega) (by simp; omega) HB.out.size ?_; intro v' w3 hown hgr; rw [List.nil_append] at hown; obtain ⟨s9, c9, rfl⟩ := hown.shape rfl; have HW := Lib.hid (And.intro hown hgr); clear hown hgr)
    go_ret
    exact ⟨s9, c9, l, rfl, HW.out.1, H0.out.2, Nat.le_refl _, HB.out.grown HW.out.2 HB.out.size fun k e => by have := Option.some.inj e; dsimp only at this; omega⟩
/-- The state of the merge. -/
structure MgW (r1 r2 : List (Int × Int)) (W0 : World) (o : List (Int × Int)) (i k : Nat) (ov : Value) (W : World) : Prop where
  own : OwnE elE W W0.heap.size 35 ov o
  bel : Below W0.heap.size W0 W
  eq : o ++ mrg (r1.drop i) (r2.drop k) = mrg r1 r2
  le : o.length ≤ i + k
theorem MgW.below {r1 r2 : List (Int × Int)} {W0 : World} {o : List (Int × Int)} {i k : Nat} {ov : Value} {W W' : World} (h : MgW r1 r2 W0 o i k ov W) (hb : Below W.heap.size W W') : MgW r1 r2 W0 o i k ov W' :=
  ⟨OwnE.grown h.own (grownBy_below hb) (by cases ov.ownBlock <;> simp), h.bel.trans (hb.mono h.bel.size), h.eq, h.le⟩
theorem MgW.push {r1 r2 : List (Int × Int)} {W0 : World} {o : List (Int × Int)} {i k i' k' : Nat} {ov v' : Value} {W w3 : World} (h : MgW r1 r2 W0 o i k ov W) {x : Int × Int} {c : Obj} (ho : OwnE elE w3 W0.heap.size 35 v' (o ++ [x])) (hg : (W.alloc c).grownBy w3 ov.ownBlock)
    (he : mrg (r1.drop i) (r2.drop k) = x :: mrg (r1.drop i') (r2.drop k')) (hik : i' + k' = i + k + 1) : MgW r1 r2 W0 (o ++ [x]) i' k' v' w3 :=
  ⟨ho, (h.bel.alloc h.bel.size c).grown hg (by rw [World.size_alloc]; have := h.bel.size; omega) (fun k e => (OwnE.lt h.own k e).1), by rw [List.append_assoc, List.singleton_append, ← he]; exact h.eq, by rw [List.length_append, List.length_singleton]; have := h.le; omega⟩
theorem mrg_len : ∀ (a b : List (Int × Int)), (mrg a b).length ≤ a.length + b.length
  | [], b => by rw [mrg]; simp
  | x :: a, [] => by rw [mrg]; simp
  | x :: a, y :: b => by
    rw [mrg]
    split
    · have := mrg_len a (y :: b); simp only [List.length_cons] at this ⊢; omega
    · split
      · have := mrg_len (x :: a) b; simp only [List.length_cons] at this ⊢; omega
      · have := mrg_len a (y :: b); simp only [List.length_cons] at this ⊢; omega
termination_by a b => a.length + b.length
set_option maxHeartbeats 3200000 in
set_option maxRecDepth 100000 in
theorem rSorted_any : ∀ (m : Nat) (l : List (Int × Int)) (v : Value) (W : World), l.length ≤ m → l.length ≤ 1000000 → Pairs W v l → Calls Try.prog 52 #[v] W (RsoR l W) := by
  intro m
  induction m with
  | zero => intro l v W hl _ h; exact rSorted_short l v W h (by omega)
  | succ m ih =>
    intro l v W hl hlm h
    by_cases hs : l.length < 2
    · exact rSorted_short l v W h hs
    · obtain ⟨u1, u2, hu1, hu2, hu⟩ := pairs_cut sEdge h (k := l.length / 2) (by omega)
      obtain ⟨ca, cc, rfl, -, -, -⟩ := pairs_rd h
      have hq : ¬ (l.length : Int) < 2 := by omega
      have hdv : (l.length : Int) / 2 = ((l.length / 2 : Nat) : Int) := by omega
      have hwq : IntKind.i64.wrap ((l.length : Int) / 2) = (l.length : Int) / 2 := IntWalk.i64_in _ (by omega)
      rw [← hdv] at hu1 hu2
      clear hdv
      have H0 := Lib.hid (And.intro h hu)
      have IH := Lib.hid ih
      clear h hu ih
      go_enter Try.func52, Try.ntmps52
      go_upto_region 3 with fail
      refine wp_region_plan (.take 0 (.take 1 (.take 2 (.take 3 (.take 4 (.take 6 (.take 7 (.take 8 (.take 9 (.take 10 (.alt 5 (.alt 11 (.alt 12 (.alt 13 .done .stop) .stop) .stop) .stop))))))))))) (fun _ => True) (by kernel_rfl) (by kernel_rfl) (by kernel_rfl) (by kernel_rfl) trivial ?_
      repeat (
        refine plan_take (v := ?_) rfl (Or.inl ⟨by rfl, ?_⟩) ?_
        rotate_left
        · (intro W hW; go_simp; try with_reducible rfl)
        simp only [Act.put, List.setIfInBounds_toArray, List.getElem_toArray, List.getElem_cons_zero, List.getElem_cons_succ, List.set_cons_succ, List.set_cons_zero])
      have hbd : Below W.heap.size W W.drew := (Below.refl _ _).drew
      have hpd := H0.out.1.below hbd
      have hsz : W.drew.heap.size = W.heap.size := rfl
      have HD := Lib.hid (And.intro hbd (And.intro (H0.out.2 _ hpd) hsz))
      clear hbd hpd hsz hu1 hu2
      generalize W.drew = V at *
      refine plan_alt rfl ?_ plan_stop
      go_wp2_with fail
      refine (IH.out (l.take (l.length / 2)) u1 V (by rw [List.length_take]; omega) (by rw [List.length_take]; omega) HD.out.2.1.1).mono ?_
      rintro e V1 ⟨a1, k1, r1, rfl, o1, t1, e1, b1⟩
      have H1 := Lib.hid (And.intro o1 (And.intro t1 (And.intro e1 (And.intro b1 (HD.out.2.1.2.below b1)))))
      clear o1 t1 e1 b1
      go_wp2_with fail
      refine tail_mk trivial ?_
      refine plan_alt rfl ?_ plan_stop
      go_wp2_with fail
      refine (IH.out (l.drop (l.length / 2)) u2 V1 (by rw [List.length_drop]; omega) (by rw [List.length_drop]; omega) H1.out.2.2.2.2).mono ?_
      rintro e V2 ⟨a2, k2, r2, rfl, o2, t2, e2, b2⟩
      have H2 := Lib.hid (And.intro o2 (And.intro t2 (And.intro e2 b2)))
      clear o2 t2 e2 b2
      go_wp2_with fail
      refine tail_mk trivial ?_
      refine plan_alt rfl ?_ plan_stop
      go_wp2_with fail
      refine tail_mk trivial ?_
      refine plan_alt rfl ?_ plan_stop
      go_wp2_with fail
      refine tail_mk trivial ?_
      refine plan_done ?_
      go_wp2_with fail
      have hp1 : Pairs V2 (.slice a1 r1.length k1) r1 := (own_pairs H1.out.1).below H2.out.2.2.2
      have hp2 : Pairs V2 (.slice a2 r2.length k2) r2 := own_pairs H2.out.1
      obtain ⟨a3, c3, he1, hn1, hx1, hc1⟩ := pairs_rd hp1
      obtain ⟨a4, c4, he2, hn2, hx2, hc2⟩ := pairs_rd hp2
      simp only [Value.slice.injEq] at he1 he2
      obtain ⟨rfl, -, rfl⟩ := he1
      obtain ⟨rfl, -, rfl⟩ := he2
      have hl1 := H1.out.2.2.1
      have hl2 := H2.out.2.2.1
      rw [List.length_take] at hl1
      rw [List.length_drop] at hl2
      have HC := Lib.hid (And.intro hc1 hc2)
      have h0 : MgW r1 r2 V2 [] 0 0 (.slice none 0 0) V2 := ⟨OwnE.nil _ _ _ _, Below.refl _ _, rfl, by simp⟩
      have HM := Lib.hid h0
      clear hp1 hp2 h0 hc1 hc2
      go_loopw [5, 6, 7] (fun s x y wr => ∃ (o : List (Int × Int)) (i k : Nat) (sa : Option Addr) (sc : Nat), s = .slice sa o.length sc ∧ x = .int .i64 i ∧ y = .int .i64 k ∧ i ≤ r1.length ∧ k ≤ r2.length ∧ Hid (MgW r1 r2 V2 o i k (.slice sa o.length sc) wr)) (fun _ x y _ => (r1.length - (intOf x).toNat) + (r2.length - (intOf y).toNat))
      case atStart => exact ⟨[], 0, 0, none, 0, rfl, rfl, rfl, by omega, by omega, HM.out⟩
      case round =>
        obtain ⟨o, i, k, sa, sc, rfl, rfl, rfl, hi, hk, hh⟩ := hrel
        have hrl : r1.length ≤ 1000000 ∧ r2.length ≤ 1000000 := by omega
        obtain ⟨hrl1, hrl2⟩ := hrl
        by_cases hil : i < r1.length
        · have hil' : (i : Int) < (r1.length : Int) := by omega
          have hin : ((i : Int) == (r1.length : Int)) = false := by simp; omega
          obtain ⟨x, hx⟩ : ∃ x, x = nth r1 i := ⟨_, rfl⟩
          obtain ⟨x1, x2⟩ := x
          have HCX := Lib.hid (fun Z (hZ : Below V2.heap.size V2 Z) => (HC.out.1 i hil).2 Z hZ)
          rw [← hx] at HCX
          by_cases hkl : k < r2.length
          · have hkl' : (k : Int) < (r2.length : Int) := by omega
            have hkn : ((k : Int) == (r2.length : Int)) = false := by simp; omega
            obtain ⟨y, hy⟩ : ∃ y, y = nth r2 k := ⟨_, rfl⟩
            obtain ⟨y1, y2⟩ := y
            have HCY := Lib.hid (fun Z (hZ : Below V2.heap.size V2 Z) => (HC.out.2 k hkl).2 Z hZ)
            rw [← hy] at HCY
            obtain ⟨t1, ht1⟩ : ∃ t, t = decide (eLt (x1, x2) (y1, y2)) := ⟨_, rfl⟩
            obtain ⟨t2, ht2⟩ : ∃ t, t = decide (eLt (y1, y2) (x1, x2)) := ⟨_, rfl⟩
            have HT := Lib.hid (And.intro ht1 ht2)
            have HXY := Lib.hid (And.intro hx hy)
            clear ht1 ht2 hx hy
            go_upto_region 8 with fail
            obtain ⟨Cls, hCls⟩ : ∃ Cls : World → Prop, ∀ Z', Cls Z' ↔ Below wr.heap.size wr Z' := ⟨_, fun _ => Iff.rfl⟩
            have hC : Cls wr.drew := (hCls _).2 ((Below.refl _ _).drew)
            have k0 : ∀ q : Wd Cls, Below wr.heap.size wr q.val := fun q => (hCls _).1 q.ok
            have HK := Lib.hid k0
            have HCC := Lib.hid hC
            haveI hne : Nonempty (Wd Cls) := ⟨⟨_, hC⟩⟩
            have e0 : ∀ q : Wd Cls, q.val.cell? ⟨blk a1, ofs a1 + i * 2, none⟩ = some (.int .i64 x1) := fun q => (HCX.out _ (hh.out.bel.trans ((HK.out q).mono hh.out.bel.size))).1
            have e1 : ∀ q : Wd Cls, q.val.cell? ⟨blk a1, ofs a1 + i * 2 + 1, none⟩ = some (.int .i64 x2) := fun q => (HCX.out _ (hh.out.bel.trans ((HK.out q).mono hh.out.bel.size))).2
            have e2 : ∀ q : Wd Cls, q.val.cell? ⟨blk a2, ofs a2 + k * 2, none⟩ = some (.int .i64 y1) := fun q => (HCY.out _ (hh.out.bel.trans ((HK.out q).mono hh.out.bel.size))).1
            have e3 : ∀ q : Wd Cls, q.val.cell? ⟨blk a2, ofs a2 + k * 2 + 1, none⟩ = some (.int .i64 y2) := fun q => (HCY.out _ (hh.out.bel.trans ((HK.out q).mono hh.out.bel.size))).2
            have F1 := Lib.hid (show ∀ q : Wd Cls, Calls Try.prog 30 #[.agg #[.int .i64 x1, .int .i64 x2], .agg #[.int .i64 y1, .int .i64 y2]] q.val fun e w'' => e = .returned (.bool t1) ∧ ∃ q : Wd Cls, w'' = q.val from fun q => class_of ((rLess_any (x1, x2) (y1, y2) _).mono fun e w' ⟨h1, h2⟩ => ⟨by rw [h1, HT.out.1], (hCls _).2 ((k0 q).trans (h2.below.mono (k0 q).size))⟩))
            clear k0 hCls hC
            refine wp_region_class Cls (by kernel_rfl) (by kernel_rfl) HCC.out ?_
            repeat (go_big_quiet_step ((go_at_call 30; exact F1.out _)))
            refine wpQuiet_nil ?_
            rintro _ ⟨q9, rfl⟩
            have HM8 := Lib.hid (hh.out.below (HK.out q9))
            clear e0 e1 e2 e3 F1 HCC hne hh
            generalize q9.val = Z at *
            clear q9 HK Cls
            cases t1 with
            | true =>
              obtain ⟨c0, c1⟩ := HCX.out Z HM8.out.bel
              have hed : eLt (nth r1 i) (nth r2 k) := by rw [← HXY.out.1, ← HXY.out.2]; exact of_decide_eq_true HT.out.1.symm
              have HE := Lib.hid (mrg_a hil (.inr ⟨hkl, hed⟩))
              clear hed
              go_wp2_with (at_builtin; refine wp_appendE (E := elE) sEdge rfl rfl _ _ rfl rfl Z.heap.size rfl (ownE_alloc HM8.out.own (.cells #[.int .i64 x1, .int .i64 x2] 35)) (x1, x2) (cells_new (cs := [.int .i64 x1, .int .i64 x2]) rfl) (by have := HM8.out.le; omega) (by have := HM8.out.le; omega) (by rw [World.size_alloc]; have := HM8.out.bel.size; omega) ?_; intro v' w3 hown hgr hat; obtain ⟨s9, c9, rfl⟩ := hown.shape (n := o.length + 1) (by rw [List.length_append]; rfl); have HO := Lib.hid (And.intro hown hgr); clear hown hgr hat)
              go_roundw
              case rel =>
                have h9 := HM8.out.push HO.out.1 HO.out.2 (i' := i + 1) (k' := k) (by rw [HXY.out.1]; exact HE.out) (by omega)
                exact ⟨o ++ [(x1, x2)], i + 1, k, s9, c9, by rw [List.length_append]; rfl, by go_num, rfl, by omega, hk, by rw [List.length_append]; exact h9⟩
              case measure => simp [intOf]; omega
            | false =>
              have hne1 : ¬ eLt (nth r1 i) (nth r2 k) := by rw [← HXY.out.1, ← HXY.out.2]; exact of_decide_eq_false HT.out.1.symm
              have HNE := Lib.hid hne1
              clear hne1
              go_upto_region 11 with fail
              obtain ⟨Cls, hCls⟩ : ∃ Cls : World → Prop, ∀ Z', Cls Z' ↔ Below Z.heap.size Z Z' := ⟨_, fun _ => Iff.rfl⟩
              have hC : Cls Z.drew := (hCls _).2 ((Below.refl _ _).drew)
              have k0 : ∀ q : Wd Cls, Below Z.heap.size Z q.val := fun q => (hCls _).1 q.ok
              have HK := Lib.hid k0
              have HCC := Lib.hid hC
              haveI hne : Nonempty (Wd Cls) := ⟨⟨_, hC⟩⟩
              have e0 : ∀ q : Wd Cls, q.val.cell? ⟨blk a1, ofs a1 + i * 2, none⟩ = some (.int .i64 x1) := fun q => (HCX.out _ (HM8.out.bel.trans ((HK.out q).mono HM8.out.bel.size))).1
              have e1 : ∀ q : Wd Cls, q.val.cell? ⟨blk a1, ofs a1 + i * 2 + 1, none⟩ = some (.int .i64 x2) := fun q => (HCX.out _ (HM8.out.bel.trans ((HK.out q).mono HM8.out.bel.size))).2
              have e2 : ∀ q : Wd Cls, q.val.cell? ⟨blk a2, ofs a2 + k * 2, none⟩ = some (.int .i64 y1) := fun q => (HCY.out _ (HM8.out.bel.trans ((HK.out q).mono HM8.out.bel.size))).1
              have e3 : ∀ q : Wd Cls, q.val.cell? ⟨blk a2, ofs a2 + k * 2 + 1, none⟩ = some (.int .i64 y2) := fun q => (HCY.out _ (HM8.out.bel.trans ((HK.out q).mono HM8.out.bel.size))).2
              have F1 := Lib.hid (show ∀ q : Wd Cls, Calls Try.prog 30 #[.agg #[.int .i64 y1, .int .i64 y2], .agg #[.int .i64 x1, .int .i64 x2]] q.val fun e w'' => e = .returned (.bool t2) ∧ ∃ q : Wd Cls, w'' = q.val from fun q => class_of ((rLess_any (y1, y2) (x1, x2) _).mono fun e w' ⟨h1, h2⟩ => ⟨by rw [h1, HT.out.2], (hCls _).2 ((k0 q).trans (h2.below.mono (k0 q).size))⟩))
              clear k0 hCls hC
              refine wp_region_class Cls (by kernel_rfl) (by kernel_rfl) HCC.out ?_
              repeat (go_big_quiet_step ((go_at_call 30; exact F1.out _)))
              refine wpQuiet_nil ?_
              rintro _ ⟨q9, rfl⟩
              have HM9 := Lib.hid (HM8.out.below (HK.out q9))
              clear e0 e1 e2 e3 F1 HCC hne HM8
              generalize q9.val = Y at *
              clear q9 HK Cls
              cases t2 with
              | true =>
                obtain ⟨c0, c1⟩ := HCY.out Y HM9.out.bel
                have hed : eLt (nth r2 k) (nth r1 i) := by rw [← HXY.out.1, ← HXY.out.2]; exact of_decide_eq_true HT.out.2.symm
                have HE := Lib.hid (mrg_b hkl (.inr ⟨hil, HNE.out, hed⟩))
                clear hed
                go_wp2_with (at_builtin; refine wp_appendE (E := elE) sEdge rfl rfl _ _ rfl rfl Y.heap.size rfl (ownE_alloc HM9.out.own (.cells #[.int .i64 y1, .int .i64 y2] 35)) (y1, y2) (cells_new (cs := [.int .i64 y1, .int .i64 y2]) rfl) (by have := HM9.out.le; omega) (by have := HM9.out.le; omega) (by rw [World.size_alloc]; have := HM9.out.bel.size; omega) ?_; intro v' w3 hown hgr hat; obtain ⟨s9, c9, rfl⟩ := hown.shape (n := o.length + 1) (by rw [List.length_append]; rfl); have HO := Lib.hid (And.intro hown hgr); clear hown hgr hat)
                go_roundw
                case rel =>
                  have h9 := HM9.out.push HO.out.1 HO.out.2 (i' := i) (k' := k + 1) (by rw [HXY.out.2]; exact HE.out) (by omega)
                  exact ⟨o ++ [(y1, y2)], i, k + 1, s9, c9, by rw [List.length_append]; rfl, rfl, by go_num, hi, by omega, by rw [List.length_append]; exact h9⟩
                case measure => simp [intOf]; omega
              | false =>
                have hne2 : ¬ eLt (nth r2 k) (nth r1 i) := by rw [← HXY.out.1, ← HXY.out.2]; exact of_decide_eq_false HT.out.2.symm
                have HE := Lib.hid (mrg_c hil hkl HNE.out hne2)
                clear hne2
                go_wp2_with fail
                go_roundw
                case rel =>
                  have h9 := HM9.out
                  exact ⟨o, i + 1, k, sa, sc, rfl, by go_num, rfl, by omega, hk, h9.own, h9.bel, by rw [← HE.out]; exact h9.eq, by have := h9.le; omega⟩
                case measure => simp [intOf]; omega
          · obtain rfl : k = r2.length := by omega
            have HX := Lib.hid hx
            clear hx hkl
            go_upto_region 8 with fail
            obtain ⟨Cls, hCls⟩ : ∃ Cls : World → Prop, ∀ Z', Cls Z' ↔ Below wr.heap.size wr Z' := ⟨_, fun _ => Iff.rfl⟩
            have hC : Cls wr.drew := (hCls _).2 ((Below.refl _ _).drew)
            have k0 : ∀ q : Wd Cls, Below wr.heap.size wr q.val := fun q => (hCls _).1 q.ok
            have HK := Lib.hid k0
            have HCC := Lib.hid hC
            haveI hne : Nonempty (Wd Cls) := ⟨⟨_, hC⟩⟩
            clear k0 hCls hC
            refine wp_region_class Cls (by kernel_rfl) (by kernel_rfl) HCC.out ?_
            repeat (go_big_quiet_step (fail))
            refine wpQuiet_nil ?_
            rintro _ ⟨q9, rfl⟩
            have HM8 := Lib.hid (hh.out.below (HK.out q9))
            clear HCC hne hh
            generalize q9.val = Z at *
            clear q9 HK Cls
            obtain ⟨c0, c1⟩ := HCX.out Z HM8.out.bel
            have HE := Lib.hid (mrg_a (s := r2) hil (.inl rfl))
            go_wp2_with (at_builtin; refine wp_appendE (E := elE) sEdge rfl rfl _ _ rfl rfl Z.heap.size rfl (ownE_alloc HM8.out.own (.cells #[.int .i64 x1, .int .i64 x2] 35)) (x1, x2) (cells_new (cs := [.int .i64 x1, .int .i64 x2]) rfl) (by have := HM8.out.le; omega) (by have := HM8.out.le; omega) (by rw [World.size_alloc]; have := HM8.out.bel.size; omega) ?_; intro v' w3 hown hgr hat; obtain ⟨s9, c9, rfl⟩ := hown.shape (n := o.length + 1) (by rw [List.length_append]; rfl); have HO := Lib.hid (And.intro hown hgr); clear hown hgr hat)
            go_roundw
            case rel =>
              have h9 := HM8.out.push HO.out.1 HO.out.2 (i' := i + 1) (k' := r2.length) (by rw [HX.out]; exact HE.out) (by omega)
              exact ⟨o ++ [(x1, x2)], i + 1, r2.length, s9, c9, by rw [List.length_append]; rfl, by go_num, rfl, by omega, hk, by rw [List.length_append]; exact h9⟩
            case measure => simp [intOf]; omega
        · obtain rfl : i = r1.length := by omega
          by_cases hkl : k < r2.length
          · have hkl' : (k : Int) < (r2.length : Int) := by omega
            have hkn : ((k : Int) == (r2.length : Int)) = false := by simp; omega
            obtain ⟨y, hy⟩ : ∃ y, y = nth r2 k := ⟨_, rfl⟩
            obtain ⟨y1, y2⟩ := y
            have HCY := Lib.hid (fun Z (hZ : Below V2.heap.size V2 Z) => (HC.out.2 k hkl).2 Z hZ)
            rw [← hy] at HCY
            have HX := Lib.hid hy
            clear hy hil
            go_upto_region 8 with fail
            obtain ⟨Cls, hCls⟩ : ∃ Cls : World → Prop, ∀ Z', Cls Z' ↔ Below wr.heap.size wr Z' := ⟨_, fun _ => Iff.rfl⟩
            have hC : Cls wr.drew := (hCls _).2 ((Below.refl _ _).drew)
            have k0 : ∀ q : Wd Cls, Below wr.heap.size wr q.val := fun q => (hCls _).1 q.ok
            have HK := Lib.hid k0
            have HCC := Lib.hid hC
            haveI hne : Nonempty (Wd Cls) := ⟨⟨_, hC⟩⟩
            clear k0 hCls hC
            refine wp_region_class Cls (by kernel_rfl) (by kernel_rfl) HCC.out ?_
            repeat (go_big_quiet_step (fail))
            refine wpQuiet_nil ?_
            rintro _ ⟨q9, rfl⟩
            have HM8 := Lib.hid (hh.out.below (HK.out q9))
            clear HCC hne hh
            generalize q9.val = Z at *
            clear q9 HK Cls
            go_upto_region 11 with fail
            obtain ⟨Cls, hCls⟩ : ∃ Cls : World → Prop, ∀ Z', Cls Z' ↔ Below Z.heap.size Z Z' := ⟨_, fun _ => Iff.rfl⟩
            have hC : Cls Z.drew := (hCls _).2 ((Below.refl _ _).drew)
            have k0 : ∀ q : Wd Cls, Below Z.heap.size Z q.val := fun q => (hCls _).1 q.ok
            have HK := Lib.hid k0
            have HCC := Lib.hid hC
            haveI hne : Nonempty (Wd Cls) := ⟨⟨_, hC⟩⟩
            clear k0 hCls hC
            refine wp_region_class Cls (by kernel_rfl) (by kernel_rfl) HCC.out ?_
            repeat (go_big_quiet_step (fail))
            refine wpQuiet_nil ?_
            rintro _ ⟨q9, rfl⟩
            have HM9 := Lib.hid (HM8.out.below (HK.out q9))
            clear HCC hne HM8
            generalize q9.val = Y at *
            clear q9 HK Cls
            obtain ⟨c0, c1⟩ := HCY.out Y HM9.out.bel
            have HE := Lib.hid (mrg_b (r := r1) hkl (.inl rfl))
            go_wp2_with (at_builtin; refine wp_appendE (E := elE) sEdge rfl rfl _ _ rfl rfl Y.heap.size rfl (ownE_alloc HM9.out.own (.cells #[.int .i64 y1, .int .i64 y2] 35)) (y1, y2) (cells_new (cs := [.int .i64 y1, .int .i64 y2]) rfl) (by have := HM9.out.le; omega) (by have := HM9.out.le; omega) (by rw [World.size_alloc]; have := HM9.out.bel.size; omega) ?_; intro v' w3 hown hgr hat; obtain ⟨s9, c9, rfl⟩ := hown.shape (n := o.length + 1) (by rw [List.length_append]; rfl); have HO := Lib.hid (And.intro hown hgr); clear hown hgr hat)
            go_roundw
            case rel =>
              have h9 := HM9.out.push HO.out.1 HO.out.2 (i' := r1.length) (k' := k + 1) (by rw [HX.out]; exact HE.out) (by omega)
              exact ⟨o ++ [(y1, y2)], r1.length, k + 1, s9, c9, by rw [List.length_append]; rfl, rfl, by go_num, hi, by omega, by rw [List.length_append]; exact h9⟩
            case measure => simp [intOf]; omega
          · obtain rfl : k = r2.length := by omega
            have hor : o = mrg r1 r2 := by
              have h9 := hh.out.eq
              rw [List.drop_length, List.drop_length, mrg, List.append_nil] at h9
              exact h9
            have HOR := Lib.hid hor
            clear hor hil hkl
            go_wp2_with fail
            go_ret
            have hb12 : Below W.heap.size W V2 := HD.out.1.trans ((H1.out.2.2.2.1.mono (Nat.le_of_eq HD.out.2.2.symm)).trans (H2.out.2.2.2.mono (by have := H1.out.2.2.2.1.size; have := HD.out.2.2; omega)))
            have hsz := hb12.size
            refine ⟨sa, sc, o, rfl, OwnE.mono' hh.out.own hsz, ?_, ?_, hb12.trans (hh.out.bel.mono hsz)⟩
            · rw [HOR.out]; exact sortOf_mrg (List.take_append_drop _ l).symm H1.out.2.1 H2.out.2.1
            · have h8 := mrg_len r1 r2
              rw [HOR.out]; omega
end Go.Proofs.Ytchmjgjagaaomaa

/- Contract of the reference's Make. -/
namespace Go.Proofs.Ytchmjgjagaaomaa
open Go.RowKit Go.Dfl Go.Gra
set_option maxHeartbeats 3200000 in
set_option maxRecDepth 100000 in
theorem rMake_any (n : Int) (cv : Value) (es : List (Int × Int)) (W : World) (h : Pairs W cv es) (hl : es.length ≤ 32768) : Calls Try.prog 36 #[.int .i64 n, cv] W (MakeR n es W) := by
  obtain ⟨ca, cc, rfl, hlen, hci, hcc⟩ := pairs_rd h
  have hz0 : GZ (W.alloc (.cells #[.int .i64 0, .slice none 0 0] 24)) W.heap.size := heap_alloc_new _ _
  have hb0 : Below W.heap.size W (W.alloc (.cells #[.int .i64 0, .slice none 0 0] 24)) := (Below.refl _ _).alloc (Nat.le_refl _) _
  have H0 := Lib.hid (And.intro hz0 (And.intro hb0 (And.intro hcc h)))
  clear h hcc hz0 hb0
  go_enter Try.func36, Try.ntmps36
  go_upto_region 1 with fail
  refine gen_code (fun Z => GZ Z W.heap.size ∧ Below W.heap.size W Z) ⟨H0.out.1, H0.out.2.1⟩ ?_
  rintro Z0 hz
  obtain ⟨br, hbr⟩ : ∃ b, b = W.heap.size := ⟨_, rfl⟩
  have HBR : Hid (br = W.heap.size ∧ W.heap.size ≤ br) := Lib.hid ⟨hbr, Nat.le_of_eq hbr.symm⟩
  have HZ : Hid (GZ Z0 br ∧ Below W.heap.size W Z0) := Lib.hid (by rw [hbr]; exact hz)
  rw [← hbr]
  clear hz hbr
  by_cases h1 : n < 0
  · have hd : decide (n < 0) = true := by simpa using h1
    obtain ⟨⟨z0, z1⟩, zf0, zf1⟩ := HZ.out.1.rd
    have HGZ := Lib.hid HZ.out.1
    go_wp2_with fail
    refine bodyPost_ret (v := .tuple #[.agg #[.int .i64 0, .slice none 0 0], .int .i64 4]) (by rw [results_cell_tmp rfl]; go_simp; try rfl) rfl ?_
    exact ⟨none, 0, ⟨0, []⟩, 4, rfl, pairs_nil _, (.inl ⟨h1, rfl, rfl⟩), below2s HZ.out.2 HBR.out.2 _ _⟩
  have hd1 : decide (n < 0) = false := by simpa using h1
  by_cases h2 : 8192 < n
  · have hd : decide (8192 < n) = true := by simpa using h2
    obtain ⟨⟨z0, z1⟩, zf0, zf1⟩ := HZ.out.1.rd
    have HGZ := Lib.hid HZ.out.1
    go_wp2_with fail
    refine bodyPost_ret (v := .tuple #[.agg #[.int .i64 0, .slice none 0 0], .int .i64 3]) (by rw [results_cell_tmp rfl]; go_simp; try rfl) rfl ?_
    exact ⟨none, 0, ⟨0, []⟩, 3, rfl, pairs_nil _, (.inr (.inl ⟨h2, rfl, rfl⟩)), below2s HZ.out.2 HBR.out.2 _ _⟩
  have hd2 : decide (8192 < n) = false := by simpa using h2
  have hn0 : 0 ≤ n ∧ n ≤ 8192 := by omega
  have HN0 := Lib.hid hn0
  clear h1 h2 hn0
  go_wp2_with fail
  clear hd1 hd2
  go_loopw [6] (fun x wr => ∃ k : Nat, k ≤ es.length ∧ x = .int .i64 k ∧ Hid (GZ wr br ∧ Below W.heap.size W wr ∧ ∀ i, i < k → inB n (nth es i) = true)) (fun x _ => es.length - (intOf x).toNat)
  case atStart => exact ⟨0, by omega, rfl, HZ.out.1, HZ.out.2, fun i hi => by omega⟩
  case round =>
    obtain ⟨k, hk, rfl, hh⟩ := hrel
    by_cases hlt : k < es.length
    · obtain ⟨p0, p1⟩ := (H0.out.2.2.1 k hlt).2 wr hh.out.2.1
      obtain ⟨e, he⟩ : ∃ e, e = nth es k := ⟨_, rfl⟩
      rw [← he] at p0 p1
      have HE := Lib.hid he
      have HBW := Lib.hid hh.out.2.1
      have hkl : (k : Int) < (es.length : Int) := by omega
      clear he
      obtain ⟨x, y⟩ := e
      dsimp only at p0 p1
      by_cases q1 : x < 0
      · have d1 : decide (x < 0) = true := by simpa using q1
        obtain ⟨⟨z0, z1⟩, zf0, zf1⟩ := hh.out.1.rd
        have HX : Hid (∃ e ∈ es, inB n e = false) := Lib.hid ⟨nth es k, nth_mem _ _ hlt, by rw [← HE.out]; simp only [inB, nodeB, Bool.and_eq_false_iff, decide_eq_false_iff_not]; omega⟩
        go_wp2_with fail
        refine bodyPost_ret (v := .tuple #[.agg #[.int .i64 0, .slice none 0 0], .int .i64 4]) (by rw [results_cell_tmp rfl]; go_simp; try rfl) rfl ?_
        exact ⟨none, 0, ⟨0, []⟩, 4, rfl, pairs_nil _, .inr (.inr (.inl ⟨HN0.out, HX.out, rfl, rfl⟩)), below2s HBW.out HBR.out.2 _ _⟩
      have d1 : decide (x < 0) = false := by simpa using q1
      by_cases q2 : n ≤ x
      · have d2 : decide (n ≤ x) = true := by simpa using q2
        obtain ⟨⟨z0, z1⟩, zf0, zf1⟩ := hh.out.1.rd
        have HX : Hid (∃ e ∈ es, inB n e = false) := Lib.hid ⟨nth es k, nth_mem _ _ hlt, by rw [← HE.out]; simp only [inB, nodeB, Bool.and_eq_false_iff, decide_eq_false_iff_not]; omega⟩
        go_wp2_with fail
        refine bodyPost_ret (v := .tuple #[.agg #[.int .i64 0, .slice none 0 0], .int .i64 4]) (by rw [results_cell_tmp rfl]; go_simp; try rfl) rfl ?_
        exact ⟨none, 0, ⟨0, []⟩, 4, rfl, pairs_nil _, .inr (.inr (.inl ⟨HN0.out, HX.out, rfl, rfl⟩)), below2s HBW.out HBR.out.2 _ _⟩
      have d2 : decide (n ≤ x) = false := by simpa using q2
      by_cases q3 : y < 0
      · have d3 : decide (y < 0) = true := by simpa using q3
        obtain ⟨⟨z0, z1⟩, zf0, zf1⟩ := hh.out.1.rd
        have HX : Hid (∃ e ∈ es, inB n e = false) := Lib.hid ⟨nth es k, nth_mem _ _ hlt, by rw [← HE.out]; simp only [inB, nodeB, Bool.and_eq_false_iff, decide_eq_false_iff_not]; omega⟩
        go_wp2_with fail
        refine bodyPost_ret (v := .tuple #[.agg #[.int .i64 0, .slice none 0 0], .int .i64 4]) (by rw [results_cell_tmp rfl]; go_simp; try rfl) rfl ?_
        exact ⟨none, 0, ⟨0, []⟩, 4, rfl, pairs_nil _, .inr (.inr (.inl ⟨HN0.out, HX.out, rfl, rfl⟩)), below2s HBW.out HBR.out.2 _ _⟩
      have d3 : decide (y < 0) = false := by simpa using q3
      by_cases q4 : n ≤ y
      · have d4 : decide (n ≤ y) = true := by simpa using q4
        obtain ⟨⟨z0, z1⟩, zf0, zf1⟩ := hh.out.1.rd
        have HX : Hid (∃ e ∈ es, inB n e = false) := Lib.hid ⟨nth es k, nth_mem _ _ hlt, by rw [← HE.out]; simp only [inB, nodeB, Bool.and_eq_false_iff, decide_eq_false_iff_not]; omega⟩
        go_wp2_with fail
        refine bodyPost_ret (v := .tuple #[.agg #[.int .i64 0, .slice none 0 0], .int .i64 4]) (by rw [results_cell_tmp rfl]; go_simp; try rfl) rfl ?_
        exact ⟨none, 0, ⟨0, []⟩, 4, rfl, pairs_nil _, .inr (.inr (.inl ⟨HN0.out, HX.out, rfl, rfl⟩)), below2s HBW.out HBR.out.2 _ _⟩
      have d4 : decide (n ≤ y) = false := by simpa using q4
      have HX : Hid (inB n (nth es k) = true) := Lib.hid (by rw [← HE.out]; simp only [inB, nodeB, Bool.and_eq_true, decide_eq_true_eq]; omega)
      go_wp2_with fail
      go_roundw
      case rel => exact ⟨k + 1, by omega, by go_num, hh.out.1, hh.out.2.1, fun i hi => by
        by_cases e : i = k
        · subst e; exact HX.out
        · exact hh.out.2.2 i (by omega)⟩
      case measure => simp [intOf]; omega
    · obtain rfl : k = es.length := by omega
      have hin : ∀ e ∈ es, inB n e = true := fun e he => by
        obtain ⟨i, hi, rfl⟩ := mem_nth he
        exact hh.out.2.2 i hi
      have HI := Lib.hid hin
      clear hin
      go_wp2_with fail
      refine (rSorted_any es.length es _ wr (Nat.le_refl _) (by omega) (H0.out.2.2.2.below (hh.out.2.1))).mono ?_
      rintro e W1 ⟨a, c, r, rfl, o1, s1, l1, b1⟩
      have H1 := Lib.hid (And.intro o1 (And.intro s1 (And.intro b1 (hh.out.1.below b1))))
      obtain ⟨⟨z0, z1⟩, zf0, zf1⟩ := (hh.out.1.below b1).rd
      have hr8 : ¬ (32768 : Int) < (r.length : Int) := by omega
      clear o1 s1 b1
      go_wp2_with fail
      refine bodyPost_ret (v := .tuple #[.agg #[.int .i64 n, .slice a r.length c], .int .i64 0]) (by rw [results_cell_tmp rfl]; go_simp; try rfl) rfl ?_
      have hbw := hh.out.2.1
      have hsz := hbw.size
      refine ⟨a, c, ⟨n, r⟩, 0, rfl, ?_, .inr (.inr (.inr ⟨HN0.out, HI.out, rfl, rfl, H1.out.2.1⟩)), below2s (hbw.trans (H1.out.2.2.1.mono hsz)) HBR.out.2 _ _⟩
      have gf := grownBy_trans (grownBy_setCell W1 ⟨br, 0, none⟩ (.int .i64 n)) (grownBy_setCell _ ⟨br, 1, none⟩ (.slice a r.length c))
      refine own_pairs (OwnE.grown H1.out.1 gf (.inr fun e => ?_))
      have h7 := (OwnE.lt H1.out.1 _ e).1
      have h8 := hh.out.1.lt
      have e9 : (⟨br, 0, none⟩ : Addr).block = br := rfl
      omega
end Go.Proofs.Ytchmjgjagaaomaa
