/- Contract of the reference's Slice. -/
import Derived.Test.YtkfhopnolflchaaRvn
import Derived.Test.YtkfhopnolflchaaDmx
namespace Go.And
open Go.Dfl (nth nth_mem mem_nth nth_eq nth_out)
/-- Whether a constraint belongs to the slice, after k of them. -/
def okB (S : Syst) (vl : List Bool) (c : C) (k : Nat) : Bool := if c.k = 4 then (S.cons.take k).any (fun d => decide (d.k = 3) && decide (d.f = c.f) && nth vl d.b) else nth vl c.b
theorem okB_zero {S : Syst} {vl : List Bool} {c : C} (h : c.k = 4) : okB S vl c 0 = false := by unfold okB; rw [if_pos h]; simp
theorem okB_n4 {S : Syst} {vl : List Bool} {c : C} {k : Nat} (h : c.k ≠ 4) : okB S vl c k = nth vl c.b := by unfold okB; rw [if_neg h]
theorem okB_succ {S : Syst} {vl : List Bool} {c : C} {k f : Nat} (h : c.k = 4) (hf : c.f = f) (hk : k < S.cons.length) : okB S vl c (k + 1) = (okB S vl c k || (decide ((nth S.cons k).k = 3) && decide ((nth S.cons k).f = f) && nth vl (nth S.cons k).b)) := by
  subst hf
  unfold okB
  rw [if_pos h, if_pos h, Go.Dfl.take_snoc _ _ hk, List.any_append]
  simp
def flB (S : Syst) (vl : List Bool) : List Bool := (List.range S.fields).map fun f => S.cons.any fun d => decide (d.k = 3) && decide (d.f = f) && nth vl d.b
theorem flB_len (S : Syst) (vl : List Bool) : (flB S vl).length = S.fields := by simp [flB]
theorem flB_nth {S : Syst} {vl : List Bool} {f : Nat} (h : f < S.fields) : nth (flB S vl) f = S.cons.any fun d => decide (d.k = 3) && decide (d.f = f) && nth vl d.b := by
  simp [flB, nth, h]
theorem flB_iff {S : Syst} {vl : List Bool} {v : Nat} (hS : S.Ok) (hv : ∀ x, nth vl x = true ↔ Vis S v x) (f : Nat) : nth (flB S vl) f = true ↔ LdF S v f := by
  by_cases h : f < S.fields
  · rw [flB_nth h, List.any_eq_true]
    constructor
    · rintro ⟨d, hd, hq⟩
      simp only [Bool.and_eq_true, decide_eq_true_eq] at hq
      exact ⟨d, hd, hq.1.1, hq.1.2, (hv _).1 hq.2⟩
    · rintro ⟨d, hd, h3, hf, hq⟩
      exact ⟨d, hd, by simp [h3, hf, (hv _).2 hq]⟩
  · rw [nth_out _ _ (by rw [flB_len]; omega)]
    constructor
    · intro e; cases e
    · rintro ⟨d, hd, h3, hf, -⟩
      have := (hS d hd).f (.inl h3)
      omega
theorem okB_keep {S : Syst} {vl : List Bool} (hS : S.Ok) {c : C} (hc : c ∈ S.cons) : keepC vl (flB S vl) c = okB S vl c S.cons.length := by
  unfold keepC okB
  by_cases h : c.k = 4
  · rw [if_pos h, List.take_length, flB_nth ((hS c hc).f (.inr h))]
    simp [h]
  · rw [if_neg h]
    simp [h]
end Go.And
namespace Go.Proofs.Ytkfhopnolflchaa
open Go.RowKit Go.Dfl Go.And

/-- The reference's slice while it is made; the sets are those of the system. -/
structure SlQ (s : Sy) (bo : Nat) (Wc : World) (ra : Option Addr) (rc : Nat) (rs : List RC) (l : List R) (W : World) : Prop where
  o0 : W.cell? ⟨bo, 0, none⟩ = some (.int .i64 s.vars)
  o1 : W.cell? ⟨bo, 1, none⟩ = some (.int .i64 s.sites)
  o2 : W.cell? ⟨bo, 2, none⟩ = some (.int .i64 s.fields)
  o3 : W.cell? ⟨bo, 3, none⟩ = some (.slice ra rs.length rc)
  frz : ∀ j, W.frozen? ⟨bo, j, none⟩ = false
  own : OwnE elC W (bo + 1) 37 (.slice ra rs.length rc) rs
  len : rs.length = l.length
  el : ∀ i, i < rs.length → (nth rs i).k = (nth l i).k ∧ (nth rs i).a = (nth l i).a ∧ (nth rs i).b = (nth l i).b ∧ (nth rs i).f = (nth l i).f ∧ Ints Wc (nth rs i).set (nth l i).s
section
variable {s : Sy} {bo : Nat} {Wc : World} {ra : Option Addr} {rc : Nat} {rs : List RC} {l : List R} {W W1 W2 : World}
theorem SlQ.new (s : Sy) (Wc W : World) (t : TypeId) : SlQ s W.heap.size Wc none 0 [] [] (W.alloc (.cells #[.int .i64 s.vars, .int .i64 s.sites, .int .i64 s.fields, .slice none 0 0] t)) := by
  have hn := cells_new (W := W) (cs := [.int .i64 s.vars, .int .i64 s.sites, .int .i64 s.fields, .slice none 0 0]) (t := t) rfl
  exact ⟨hn 0 _ rfl, hn 1 _ rfl, hn 2 _ rfl, hn 3 _ rfl, fun j => frozen_new _ _ _ _, OwnE.nil _ _ _ _, rfl, fun i hi => by simp at hi⟩
theorem SlQ.grown (h : SlQ s bo Wc ra rc rs l W) {row : Option Nat} (hg : W.grownBy W1 row) (hr : ∀ k, row = some k → W.heap.size ≤ k ∨ k < bo) : SlQ s bo Wc ra rc rs l W1 := by
  have lb : bo < W.heap.size := World.block_lt_of_cell? W _ h.o0
  have nb : some bo ≠ row := fun e => by have := hr bo e.symm; omega
  refine ⟨hg.cell h.o0 nb, hg.cell h.o1 nb, hg.cell h.o2 nb, hg.cell h.o3 nb, fun j => ?_, OwnE.grown h.own hg ?_, h.len, h.el⟩
  · rw [World.frozen?_of_block (a := ⟨bo, j, none⟩) (hg.block bo lb nb)]; exact h.frz j
  · cases e : (Value.slice ra rs.length rc).ownBlock with
    | none => exact .inl rfl
    | some k => exact .inr fun e2 => by have := OwnE.lt h.own k e; have := hr k e2.symm; omega
theorem SlQ.push (h : SlQ s bo Wc ra rc rs l W) {x : RC} {c : R} (hx : x.k = c.k ∧ x.a = c.a ∧ x.b = c.b ∧ x.f = c.f) (hs : Ints Wc x.set c.s)
    (g1 : W.grownBy W1 none) {ra2 : Option Addr} {rc2 : Nat} (ho : OwnE elC W2 (bo + 1) 37 (.slice ra2 (rs.length + 1) rc2) (rs ++ [x])) (g2 : W1.grownBy W2 (Value.slice ra rs.length rc).ownBlock) :
    W2.cell? ⟨bo, 3, none⟩ = some (.slice ra rs.length rc) ∧ W2.frozen? ⟨bo, 3, none⟩ = false ∧ SlQ s bo Wc ra2 rc2 (rs ++ [x]) (l ++ [c]) (W2.setCell ⟨bo, 3, none⟩ (.slice ra2 (rs.length + 1) rc2)) := by
  have lb : bo < W.heap.size := World.block_lt_of_cell? W _ h.o0
  have nb : some bo ≠ (Value.slice ra rs.length rc).ownBlock := fun e => by have := (OwnE.lt h.own bo e.symm).1; omega
  have c2 : ∀ {j : Nat} {y : Value}, W.cell? ⟨bo, j, none⟩ = some y → W2.cell? ⟨bo, j, none⟩ = some y := fun hy => g2.cell (g1.cell hy (by simp)) nb
  have f2 : ∀ j, W2.frozen? ⟨bo, j, none⟩ = false := fun j => by
    rw [World.frozen?_of_block (a := ⟨bo, j, none⟩) ((g2.block bo (Nat.lt_of_lt_of_le lb g1.size) nb).trans (g1.block bo lb (by simp)))]; exact h.frz j
  have oth : ∀ {j : Nat} {y : Value}, j ≠ 3 → W.cell? ⟨bo, j, none⟩ = some y → (W2.setCell ⟨bo, 3, none⟩ (.slice ra2 (rs.length + 1) rc2)).cell? ⟨bo, j, none⟩ = some y := fun hj hy => by
    rw [World.cell?_setCell_other _ _ _ _ (by intro e; simp at e; try omega)]; exact c2 hy
  have gs := grownBy_setCell W2 ⟨bo, 3, none⟩ (.slice ra2 (rs.length + 1) rc2)
  have hlen : (rs ++ [x]).length = rs.length + 1 := by simp
  refine ⟨c2 h.o3, f2 3, oth (by omega) h.o0, oth (by omega) h.o1, oth (by omega) h.o2, by rw [hlen]; exact World.cell?_setCell_same W2 _ _ (c2 h.o3), fun j => by rw [World.frozen?_setCell]; exact f2 j, ?_, by simp [h.len], fun i hi => ?_⟩
  · rw [hlen]
    refine OwnE.grown ho gs (.inr fun e => ?_)
    have h1 := (OwnE.lt ho _ e).1
    have h2 : bo = (⟨bo, 3, none⟩ : Addr).block := rfl
    omega
  · rw [hlen] at hi
    rw [nth_append, nth_append]
    by_cases e : i < rs.length
    · rw [if_pos e, if_pos (by have := h.len; omega)]
      exact h.el i e
    · obtain rfl : i = rs.length := by omega
      rw [if_neg e, if_neg (by have := h.len; omega), Nat.sub_self, show rs.length - l.length = 0 by have := h.len; omega]
      exact ⟨hx.1, hx.2.1, hx.2.2.1, hx.2.2.2, hs⟩
theorem SlQ.cons (h : SlQ s bo Wc ra rc rs l W) (hb : Below Wc.heap.size Wc W) : ConsIn W (.slice ra l.length rc) l := by
  refine ⟨rs, h.len, ?_, fun i hi => ?_⟩
  · have := OwnE.sliced h.own
    rw [h.len] at this
    exact this
  · obtain ⟨e1, e2, e3, e4, e5⟩ := h.el i (by rw [h.len]; exact hi)
    exact ⟨e1, e2, e3, e4, e5.below hb⟩
end

set_option maxHeartbeats 6400000 in
set_option maxRecDepth 100000 in
theorem rSlice_any (s : Sy) (cv : Value) (v : Int) (W : World) (hc : ConsIn W cv s.cons) (hs : Sm s) : Calls Try.prog 15 #[SysV s cv, .int .i64 v] W (SliceR s v W) := by
  obtain ⟨ca, cc, rfl, hlen, hci, -⟩ := hc.out
  have hcn := hs.cons
  have HC := Lib.hid (And.intro hc hs)
  clear hc hs
  unfold SysV
  go_enter Try.func15, Try.ntmps15
  go_wp2_with fail
  refine calls_gen (fun Z => SysB W.heap.size s (.slice ca s.cons.length cc) Z ∧ ZQ Z (W.heap.size + 1) ∧ Below W.heap.size W Z) ⟨(SysB.new HC.out.1 24).below ((Below.refl _ _).alloc (Nat.le_refl _) _), ?_, below2' _ _ _⟩ ?_
  · have := heap_alloc_new (W.alloc (.cells #[.int .i64 s.vars, .int .i64 s.sites, .int .i64 s.fields, .slice ca s.cons.length cc] 24)) (.cells #[.int .i64 0, .int .i64 0, .int .i64 0, .slice none 0 0] 24)
    rw [World.size_alloc] at this
    exact this
  rintro Z0 h0
  obtain ⟨bs, hbs⟩ : ∃ bs, bs = W.heap.size := ⟨_, rfl⟩
  obtain ⟨br, hbr⟩ : ∃ br, br = W.heap.size + 1 := ⟨_, rfl⟩
  have H0 : Hid (SysB bs s (.slice ca s.cons.length cc) Z0 ∧ ZQ Z0 br ∧ Below W.heap.size W Z0) := by rw [hbs, hbr]; exact h0
  rw [← hbr, ← hbs]
  have HBR : Hid (W.heap.size ≤ br) := Lib.hid (by omega)
  clear h0 hbs hbr
  refine (rRight_any s (.slice ca s.cons.length cc) v _ H0.out.1.cons HC.out.2).mono ?_
  rintro e W1 ⟨rfl, r1⟩
  have H1 := Lib.hid (And.intro (H0.out.1.below r1) (And.intro (H0.out.2.1.below r1) (H0.out.2.2.trans (r1.mono H0.out.2.2.size))))
  obtain ⟨⟨d0, d1, d2, d3⟩, -⟩ := H1.out.1
  obtain ⟨⟨z0, z1, z2, z3⟩, zf⟩ := H1.out.2.1.rd
  have zf0 := zf 0
  have zf1 := zf 1
  have zf2 := zf 2
  have zf3 := zf 3
  clear H0 r1 zf
  by_cases h0 : dCode s v = 0
  · obtain ⟨hvld, hv0, hv1⟩ := dCode_vld h0
    rw [h0]
    have hOk := hvld.ok
    obtain ⟨n, rfl⟩ : ∃ n : Nat, v = n := ⟨v.toNat, by omega⟩
    have hn : n < s.S.vars := by show n < s.vars.toNat; omega
    have HD := Lib.hid (And.intro h0 (And.intro hvld hOk))
    clear h0 hv0 hv1 hvld hOk
    go_wp2_with fail
    clear d0 d1 d2 d3 z0 z1 z2 z3 zf0 zf1 zf2 zf3
    refine (rVisited_any s (.slice ca s.cons.length cc) n _ H1.out.1.cons HC.out.2 HD.out.2.1 hn).mono ?_
    rintro e W2 ⟨va, vc, vl, rfl, l1, hIV, r2⟩
    obtain ⟨mv, vi, vcell⟩ := lst_rd l1 hIV.len
    have HV := Lib.hid (And.intro hIV vcell)
    have H2 := Lib.hid (And.intro (H1.out.1.below r2) (And.intro (H1.out.2.1.below r2) (H1.out.2.2.trans (r2.mono H1.out.2.2.size))))
    obtain ⟨⟨d0, d1, d2, d3⟩, -⟩ := H2.out.1
    obtain ⟨⟨z0, z1, z2, z3⟩, zf⟩ := H2.out.2.1.rd
    have zf0 := zf 0
    have zf1 := zf 1
    have zf2 := zf 2
    have zf3 := zf 3
    clear H1 r2 zf
    clear l1 hIV vcell
    have HBR2 : Hid (br < W2.heap.size) := Lib.hid (World.block_lt_of_cell? W2 _ z0)
    have HT0 := Lib.hid (SlQ.new s W W2 24)
    have hbt : Below W2.heap.size W2 (W2.alloc (.cells #[.int .i64 s.vars, .int .i64 s.sites, .int .i64 s.fields, .slice none 0 0] 24)) := (Below.refl _ _).alloc (Nat.le_refl _) _
    have HBT := Lib.hid hbt
    clear hbt
    go_wp2_with fail
    clear d0 d1 d2 d3 z0 z1 z2 z3 zf0 zf1 zf2 zf3
    obtain ⟨bo, hbo⟩ : ∃ b, b = W2.heap.size := ⟨_, rfl⟩
    refine wp_gen (fun Z => SlQ s W2.heap.size W none 0 [] [] Z ∧ Below W2.heap.size W2 Z) ⟨HT0.out, HBT.out⟩ ?_
    rintro Z2 hz2
    rw [← hbo] at hz2 ⊢
    have HZ2 := Lib.hid hz2
    have HBO := Lib.hid hbo
    clear hz2 hbo HT0 HBT
    go_loopw [9, 10, 11, 12] (fun x _ _ _ wr => ∃ (i : Nat) (ra : Option Addr) (rc : Nat) (rs : List RC), i ≤ s.cons.length ∧ x = .int .i64 i ∧ Hid (SlQ s bo W ra rc rs ((s.cons.take i).filter (keepB vl (flB s.S vl))) wr ∧ Below bo W2 wr)) (fun x _ _ _ _ => s.cons.length - (intOf x).toNat)
    case atStart => exact ⟨0, none, 0, [], by omega, rfl, HZ2.out⟩
    case round =>
      clear HZ2
      obtain ⟨i, ra, rc, rs, hi, rfl, hh⟩ := hrel
      have hbw := hh.out.2
      rw [HBO.out] at hbw
      obtain ⟨⟨d0, d1, d2, d3⟩, -⟩ := H2.out.1.below hbw
      have hsz : bs < wr.heap.size := World.block_lt_of_cell? wr _ d3
      have hsn : bs ≠ wr.heap.size := by omega
      have hWw : Below W.heap.size W wr := H2.out.2.2.trans (hbw.mono H2.out.2.2.size)
      have HWw := Lib.hid hWw
      have HZw := Lib.hid (H2.out.2.1.below hbw)
      clear d0 d1 d2
      by_cases hil : i < s.cons.length
      · obtain ⟨sa, sc, hcell⟩ := cons_cells HC.out.1 HD.out.2.1 hil
        obtain ⟨p0, p1, p2, p3, p4, -⟩ := hcell wr hWw
        have hIs := (hcell W (Below.refl _ _)).2.2.2.2.2
        have hcS : nth s.S.cons i = (nth s.cons i).C := nth_map' _ _ _ hil
        have hiS : i < s.S.cons.length := by show i < (s.cons.map R.C).length; rw [List.length_map]; exact hil
        have hcm := nth_mem s.S.cons i hiS
        have hOkc := HD.out.2.2 _ hcm
        have hbS := hOkc.b
        have hk5 := hOkc.kind
        have hke : keepB vl (flB s.S vl) (nth s.cons i) = okB s.S vl (nth s.S.cons i) s.cons.length := by
          have h1 : s.cons.length = s.S.cons.length := by show _ = (s.cons.map R.C).length; rw [List.length_map]
          rw [h1, ← okB_keep HD.out.2.2 hcm]; unfold keepB; rw [← hcS]
        have heq : ((nth s.S.cons i).k : Int) = (nth s.cons i).k ∧ ((nth s.S.cons i).a : Int) = (nth s.cons i).a ∧ ((nth s.S.cons i).b : Int) = (nth s.cons i).b ∧ ((nth s.S.cons i).f : Int) = (nth s.cons i).f ∧ (nth s.S.cons i).s.map (fun x : Nat => (x : Int)) = (nth s.cons i).s := by
          have hvc := HD.out.2.1.cons _ (nth_mem _ _ hil)
          rw [hcS]
          have e0 : ((nth s.cons i).k.toNat : Int) = (nth s.cons i).k := by have := hvc.kind; omega
          exact ⟨e0, Int.toNat_of_nonneg hvc.a.1, Int.toNat_of_nonneg hvc.b.1, Int.toNat_of_nonneg hvc.f', cast_toNat fun x hx => (hvc.s x hx).1⟩
        rw [heq.2.2.2.2] at hIs
        have e1 := HV.out.2 wr hbw _ hbS
        have hva : blk va < wr.heap.size := World.block_lt_of_cell? wr _ e1
        have hvn : blk va ≠ wr.heap.size := by omega
        obtain ⟨c, hc⟩ : ∃ c, c = nth s.S.cons i := ⟨_, rfl⟩
        rw [← hc] at p0 p1 p2 p3 p4 hbS hk5 e1 heq hIs
        have HKE := Lib.hid hke
        have HCI := Lib.hid hc
        clear hcell hcS hcm hOkc hc hke hbw hWw
        obtain ⟨ck, c_a, c_b, c_f, c_s⟩ := c
        dsimp only at p0 p1 p2 p3 p4 hbS hk5 e1 heq hIs
        have HEQ : Hid (((ck : Int) = (nth s.cons i).k ∧ (c_a : Int) = (nth s.cons i).a ∧ (c_b : Int) = (nth s.cons i).b ∧ (c_f : Int) = (nth s.cons i).f) ∧ Ints W (.slice sa c_s.length sc) (nth s.cons i).s) := Lib.hid ⟨⟨heq.1, heq.2.1, heq.2.2.1, heq.2.2.2.1⟩, hIs⟩
        clear heq hIs
        have HH := Lib.hid (And.intro (hh.out.1.grown (grownBy_alloc _ (.cells #[.int .i64 (ck : Int), .int .i64 (c_a : Int), .int .i64 (c_b : Int), .int .i64 (c_f : Int), .slice sa c_s.length sc] 37)) (by simp)) (And.intro (hh.out.2.alloc (Nat.le_of_lt (World.block_lt_of_cell? wr _ hh.out.1.o0)) (.cells #[.int .i64 (ck : Int), .int .i64 (c_a : Int), .int .i64 (c_b : Int), .int .i64 (c_f : Int), .slice sa c_s.length sc] 37)) (And.intro (BoxC.new wr ck c_a c_b c_f (.slice sa c_s.length sc) 37) trivial)))
        by_cases hk4 : ck = 4
        · have q4 : ((ck : Int) != 4) = false := by simp; omega
          have q5 : ((ck : Int) == 4) = true := by simp; omega
          have HK4 := Lib.hid hk4
          clear hk4 hk5 hh
          go_wp2_with fail
          obtain ⟨bc, hbc⟩ : ∃ b, b = wr.heap.size := ⟨_, rfl⟩
          refine wp_gen (fun Z => SlQ s bo W ra rc rs ((s.cons.take i).filter (keepB vl (flB s.S vl))) Z ∧ Below bo W2 Z ∧ BoxC Z bc ck c_a c_b c_f (.slice sa c_s.length sc) ∧ True) (by rw [hbc]; exact HH.out) ?_
          rintro Z5 hz5
          rw [← hbc]
          have HZ5 := Lib.hid hz5
          clear hz5 HH HWw HZw p0 p1 p2 p3 p4 e1 d3 hva hvn hsz hsn hbc
          go_loopw [11, 12] (fun o x wr => ∃ k : Nat, k ≤ s.cons.length ∧ x = .int .i64 k ∧ o = .bool (okB s.S vl (nth s.S.cons i) k) ∧ Hid (SlQ s bo W ra rc rs ((s.cons.take i).filter (keepB vl (flB s.S vl))) wr ∧ Below bo W2 wr ∧ BoxC wr bc ck c_a c_b c_f (.slice sa c_s.length sc) ∧ True)) (fun _ x _ => s.cons.length - (intOf x).toNat)
          case atStart => exact ⟨0, by omega, rfl, by rw [okB_zero (by rw [← HCI.out]; exact HK4.out)], HZ5.out⟩
          case round =>
            clear HZ5
            obtain ⟨k, hk, rfl, rfl, h5⟩ := hrel
            by_cases hkl : k < s.cons.length
            · have hbw := h5.out.2.1
              rw [HBO.out] at hbw
              obtain ⟨⟨-, -, -, d3⟩, -⟩ := H2.out.1.below hbw
              have hWw : Below W.heap.size W wr := H2.out.2.2.trans (hbw.mono H2.out.2.2.size)
              obtain ⟨x0, x1, x2, x3, x4⟩ := h5.out.2.2.1
              obtain ⟨sa2, sc2, hcell⟩ := cons_cells HC.out.1 HD.out.2.1 hkl
              obtain ⟨p0, p1, p2, p3, -, -⟩ := hcell wr hWw
              have hkS : k < s.S.cons.length := by show k < (s.cons.map R.C).length; rw [List.length_map]; exact hkl
              have hdb := (HD.out.2.2 _ (nth_mem s.S.cons k hkS)).b
              have e1 := HV.out.2 wr hbw _ hdb
              have hsu := okB_succ (S := s.S) (vl := vl) (c := nth s.S.cons i) (k := k) (f := c_f) (by rw [← HCI.out]; exact HK4.out) (by rw [← HCI.out]) hkS
              obtain ⟨d, hd⟩ : ∃ d, d = nth s.S.cons k := ⟨_, rfl⟩
              rw [← hd] at p0 p1 p2 p3 e1 hdb hsu
              clear hcell hd hbw hWw hkS x1 x2 x4 p1
              obtain ⟨dk, d_a, d_b, d_f, d_s⟩ := d
              dsimp only at p0 p2 p3 e1 hdb hsu
              obtain ⟨ok, hok⟩ : ∃ ok, ok = okB s.S vl (nth s.S.cons i) k := ⟨_, rfl⟩
              rw [← hok] at hsu ⊢
              obtain ⟨t, ht⟩ : ∃ t, t = nth vl d_b := ⟨_, rfl⟩
              rw [← ht] at hsu e1
              have HSU := Lib.hid hsu
              clear hok ht hsu
              cases ok
              · by_cases h3 : dk = 3
                · have q6 : ((dk : Int) == 3) = true := by simp; omega
                  by_cases hf : d_f = c_f
                  · have q7 : ((d_f : Int) == (c_f : Int)) = true := by simp; omega
                    cases t
                    · -- a round of the loop over loads: its value's equation
                      have HS2 := Lib.hid (show okB s.S vl (nth s.S.cons i) (k + 1) = false by rw [HSU.out]; simp)
                      go_wp2_with fail
                      go_quiet (fail)
                      go_wp2_with fail
                      go_roundw
                      case rel => exact ⟨k + 1, by omega, by go_num, by rw [HS2.out], h5.out.1.grown (grownBy_qt (by first | exact Qt.refl _ | exact Qt.drewN _ _ | exact (Qt.drewN _ _).trans (Qt.drewN _ _) | exact ((Qt.drewN _ _).trans (Qt.drewN _ _)).trans (Qt.drewN _ _) | exact Qt.drew _ | exact (Qt.drewN _ _).trans (Qt.drew _))) (by simp), h5.out.2.1.trans (Qt.below (by first | exact Qt.refl _ | exact Qt.drewN _ _ | exact (Qt.drewN _ _).trans (Qt.drewN _ _) | exact ((Qt.drewN _ _).trans (Qt.drewN _ _)).trans (Qt.drewN _ _) | exact Qt.drew _ | exact (Qt.drewN _ _).trans (Qt.drew _)) _), h5.out.2.2.1.grown (grownBy_qt (by first | exact Qt.refl _ | exact Qt.drewN _ _ | exact (Qt.drewN _ _).trans (Qt.drewN _ _) | exact ((Qt.drewN _ _).trans (Qt.drewN _ _)).trans (Qt.drewN _ _) | exact Qt.drew _ | exact (Qt.drewN _ _).trans (Qt.drew _))) (by simp), trivial⟩
                      case measure => simp [intOf]; omega
                    · -- a round of the loop over loads: its value's equation
                      have HS2 := Lib.hid (show okB s.S vl (nth s.S.cons i) (k + 1) = true by rw [HSU.out]; simp [h3, hf])
                      go_wp2_with fail
                      go_quiet (fail)
                      go_wp2_with fail
                      go_roundw
                      case rel => exact ⟨k + 1, by omega, by go_num, by rw [HS2.out], h5.out.1.grown (grownBy_qt (by first | exact Qt.refl _ | exact Qt.drewN _ _ | exact (Qt.drewN _ _).trans (Qt.drewN _ _) | exact ((Qt.drewN _ _).trans (Qt.drewN _ _)).trans (Qt.drewN _ _) | exact Qt.drew _ | exact (Qt.drewN _ _).trans (Qt.drew _))) (by simp), h5.out.2.1.trans (Qt.below (by first | exact Qt.refl _ | exact Qt.drewN _ _ | exact (Qt.drewN _ _).trans (Qt.drewN _ _) | exact ((Qt.drewN _ _).trans (Qt.drewN _ _)).trans (Qt.drewN _ _) | exact Qt.drew _ | exact (Qt.drewN _ _).trans (Qt.drew _)) _), h5.out.2.2.1.grown (grownBy_qt (by first | exact Qt.refl _ | exact Qt.drewN _ _ | exact (Qt.drewN _ _).trans (Qt.drewN _ _) | exact ((Qt.drewN _ _).trans (Qt.drewN _ _)).trans (Qt.drewN _ _) | exact Qt.drew _ | exact (Qt.drewN _ _).trans (Qt.drew _))) (by simp), trivial⟩
                      case measure => simp [intOf]; omega
                  · have q7 : ((d_f : Int) == (c_f : Int)) = false := by simp; omega
                    -- a round of the loop over loads: its value's equation
                    have HS2 := Lib.hid (show okB s.S vl (nth s.S.cons i) (k + 1) = false by rw [HSU.out]; simp [hf])
                    go_wp2_with fail
                    go_quiet (fail)
                    go_wp2_with fail
                    go_roundw
                    case rel => exact ⟨k + 1, by omega, by go_num, by rw [HS2.out], h5.out.1.grown (grownBy_qt (by first | exact Qt.refl _ | exact Qt.drewN _ _ | exact (Qt.drewN _ _).trans (Qt.drewN _ _) | exact ((Qt.drewN _ _).trans (Qt.drewN _ _)).trans (Qt.drewN _ _) | exact Qt.drew _ | exact (Qt.drewN _ _).trans (Qt.drew _))) (by simp), h5.out.2.1.trans (Qt.below (by first | exact Qt.refl _ | exact Qt.drewN _ _ | exact (Qt.drewN _ _).trans (Qt.drewN _ _) | exact ((Qt.drewN _ _).trans (Qt.drewN _ _)).trans (Qt.drewN _ _) | exact Qt.drew _ | exact (Qt.drewN _ _).trans (Qt.drew _)) _), h5.out.2.2.1.grown (grownBy_qt (by first | exact Qt.refl _ | exact Qt.drewN _ _ | exact (Qt.drewN _ _).trans (Qt.drewN _ _) | exact ((Qt.drewN _ _).trans (Qt.drewN _ _)).trans (Qt.drewN _ _) | exact Qt.drew _ | exact (Qt.drewN _ _).trans (Qt.drew _))) (by simp), trivial⟩
                    case measure => simp [intOf]; omega
                · have q6 : ((dk : Int) == 3) = false := by simp; omega
                  -- a round of the loop over loads: its value's equation
                  have HS2 := Lib.hid (show okB s.S vl (nth s.S.cons i) (k + 1) = false by rw [HSU.out]; simp [h3])
                  go_wp2_with fail
                  go_quiet (fail)
                  go_wp2_with fail
                  go_roundw
                  case rel => exact ⟨k + 1, by omega, by go_num, by rw [HS2.out], h5.out.1.grown (grownBy_qt (by first | exact Qt.refl _ | exact Qt.drewN _ _ | exact (Qt.drewN _ _).trans (Qt.drewN _ _) | exact ((Qt.drewN _ _).trans (Qt.drewN _ _)).trans (Qt.drewN _ _) | exact Qt.drew _ | exact (Qt.drewN _ _).trans (Qt.drew _))) (by simp), h5.out.2.1.trans (Qt.below (by first | exact Qt.refl _ | exact Qt.drewN _ _ | exact (Qt.drewN _ _).trans (Qt.drewN _ _) | exact ((Qt.drewN _ _).trans (Qt.drewN _ _)).trans (Qt.drewN _ _) | exact Qt.drew _ | exact (Qt.drewN _ _).trans (Qt.drew _)) _), h5.out.2.2.1.grown (grownBy_qt (by first | exact Qt.refl _ | exact Qt.drewN _ _ | exact (Qt.drewN _ _).trans (Qt.drewN _ _) | exact ((Qt.drewN _ _).trans (Qt.drewN _ _)).trans (Qt.drewN _ _) | exact Qt.drew _ | exact (Qt.drewN _ _).trans (Qt.drew _))) (by simp), trivial⟩
                  case measure => simp [intOf]; omega
              · -- a round of the loop over loads: its value's equation
                have HS2 := Lib.hid (show okB s.S vl (nth s.S.cons i) (k + 1) = true by rw [HSU.out]; simp)
                go_wp2_with fail
                go_quiet (fail)
                go_wp2_with fail
                go_roundw
                case rel => exact ⟨k + 1, by omega, by go_num, by rw [HS2.out], h5.out.1.grown (grownBy_qt (by first | exact Qt.refl _ | exact Qt.drewN _ _ | exact (Qt.drewN _ _).trans (Qt.drewN _ _) | exact ((Qt.drewN _ _).trans (Qt.drewN _ _)).trans (Qt.drewN _ _) | exact Qt.drew _ | exact (Qt.drewN _ _).trans (Qt.drew _))) (by simp), h5.out.2.1.trans (Qt.below (by first | exact Qt.refl _ | exact Qt.drewN _ _ | exact (Qt.drewN _ _).trans (Qt.drewN _ _) | exact ((Qt.drewN _ _).trans (Qt.drewN _ _)).trans (Qt.drewN _ _) | exact Qt.drew _ | exact (Qt.drewN _ _).trans (Qt.drew _)) _), h5.out.2.2.1.grown (grownBy_qt (by first | exact Qt.refl _ | exact Qt.drewN _ _ | exact (Qt.drewN _ _).trans (Qt.drewN _ _) | exact ((Qt.drewN _ _).trans (Qt.drewN _ _)).trans (Qt.drewN _ _) | exact Qt.drew _ | exact (Qt.drewN _ _).trans (Qt.drew _))) (by simp), trivial⟩
                case measure => simp [intOf]; omega
            · obtain rfl : k = s.cons.length := by omega
              have hbw := h5.out.2.1
              rw [HBO.out] at hbw
              obtain ⟨⟨-, -, -, d3⟩, -⟩ := H2.out.1.below hbw
              clear hbw
              -- the test of ok; (Eq.refl (okB s.S vl (nth s.S.cons i) s.cons.length)): its value's equation
              have o3 := h5.out.1.o3
              have o3f := h5.out.1.frz 3
              obtain ⟨x0, x1, x2, x3, x4⟩ := h5.out.2.2.1
              obtain ⟨ok, hok⟩ : ∃ ok, ok = okB s.S vl (nth s.S.cons i) s.cons.length := ⟨_, rfl⟩
              have HOK : Hid (okB s.S vl (nth s.S.cons i) s.cons.length = ok) := Lib.hid (by rw [hok]; first | done | exact (Eq.refl (okB s.S vl (nth s.S.cons i) s.cons.length)))
              rw [← hok]
              have H5 := Lib.hid h5.out
              clear h5 hok
              cases ok
              · go_wp2_with fail
                go_roundw
                case rel => exact ⟨i + 1, ra, rc, rs, by omega, by go_num, by rw [take_filter hil, if_neg (by rw [HKE.out, HOK.out]; simp), List.append_nil]; exact H5.out.1, H5.out.2.1⟩
                case measure => simp [intOf]; omega
              · have hrl : rs.length ≤ 101 := by have := H5.out.1.len; rw [this]; exact Nat.le_trans (List.length_filter_le _ _) (by simp; omega)
                have hbo : bo + 1 ≤ wr.heap.size := World.block_lt_of_cell? wr _ H5.out.1.o0
                go_wp2_with (at_builtin; refine wp_appendE (E := elC) sCon rfl rfl _ _ rfl (v := .slice ra rs.length rc) (l := rs) (base := bo + 1) rfl wr.heap.size rfl (OwnE.grown H5.out.1.own (grownBy_alloc _ _) (by cases (Value.slice ra rs.length rc).ownBlock <;> simp)) (⟨ck, c_a, c_b, c_f, sa, c_s.length, sc⟩ : RC) (cells_new (W := wr) (cs := [.int .i64 (ck : Int), .int .i64 (c_a : Int), .int .i64 (c_b : Int), .int .i64 (c_f : Int), .slice sa c_s.length sc]) (t := 37) rfl) (by omega) (by omega) (by simp; omega) ?_; intro v9 W9 o9 g9 l9; obtain ⟨s9, c9, rfl⟩ := OwnE.shape o9 (n := rs.length + 1) (by simp); obtain ⟨t1, t2, hP⟩ := H5.out.1.push (c := nth s.cons i) (x := (⟨ck, c_a, c_b, c_f, sa, c_s.length, sc⟩ : RC)) HEQ.out.1 HEQ.out.2 (grownBy_alloc _ _) o9 g9; have HP := Lib.hid (And.intro hP (And.intro o9 g9)); clear hP o9 g9 l9)
                go_roundw
                case rel => exact ⟨i + 1, s9, c9, _, by omega, by go_num, by rw [take_filter hil, if_pos (by rw [HKE.out, HOK.out])]; exact HP.out.1, by
                  have b1 := H5.out.2.1.alloc (by omega) (.cells #[.int .i64 (ck : Int), .int .i64 (c_a : Int), .int .i64 (c_b : Int), .int .i64 (c_f : Int), .slice sa c_s.length sc] 37)
                  have b2 := b1.grown HP.out.2.2 (by simp; omega) (fun m hm => by have := (OwnE.lt H5.out.1.own m hm).1; omega)
                  exact b2.setCell (show bo ≤ (⟨bo, 3, none⟩ : Addr).block from Nat.le_refl _) _⟩
                case measure => simp [intOf]; omega
        · have q4 : ((ck : Int) != 4) = true := by simp; omega
          have q5 : ((ck : Int) == 4) = false := by simp; omega
          have HK4 := Lib.hid hk4
          clear hk4 hk5 hh
          have hq : ∀ k, okB s.S vl (nth s.S.cons i) k = nth vl c_b := fun k => by
            have h1 : c_b = (nth s.S.cons i).b := by rw [← HCI.out]
            rw [okB_n4 (by rw [← HCI.out]; exact HK4.out), h1]
          have HQ := Lib.hid hq
          clear hq
          obtain ⟨t, ht⟩ : ∃ t, t = nth vl c_b := ⟨_, rfl⟩
          rw [← ht] at e1 HQ
          clear ht
          go_wp2_with fail
          obtain ⟨bc, hbc⟩ : ∃ b, b = wr.heap.size := ⟨_, rfl⟩
          refine wp_gen (fun Z => SlQ s bo W ra rc rs ((s.cons.take i).filter (keepB vl (flB s.S vl))) Z ∧ Below bo W2 Z ∧ BoxC Z bc ck c_a c_b c_f (.slice sa c_s.length sc) ∧ True) (by rw [hbc]; exact HH.out) ?_
          rintro Z5 hz5
          rw [← hbc]
          have HZ5 := Lib.hid hz5
          clear hz5 HH HWw HZw p0 p1 p2 p3 p4 e1 d3 hva hvn hsz hsn hbc
          go_loopw [11, 12] (fun o x wr => x = .int .i64 ((0 : Nat) : Int) ∧ o = .bool t ∧ Hid (SlQ s bo W ra rc rs ((s.cons.take i).filter (keepB vl (flB s.S vl))) wr ∧ Below bo W2 wr ∧ BoxC wr bc ck c_a c_b c_f (.slice sa c_s.length sc) ∧ True)) (fun _ _ _ => 0)
          case atStart => exact ⟨rfl, rfl, HZ5.out⟩
          case round =>
            clear HZ5
            obtain ⟨rfl, rfl, h5⟩ := hrel
            have hbw := h5.out.2.1
            rw [HBO.out] at hbw
            obtain ⟨⟨-, -, -, d3⟩, -⟩ := H2.out.1.below hbw
            have hl0 : (0 : Int) < (s.cons.length : Int) := by omega
            clear hbw
            rw [show ((0 : Nat) : Int) = 0 from rfl]
            -- the test of ok; (HQ.out s.cons.length): its value's equation
            have o3 := h5.out.1.o3
            have o3f := h5.out.1.frz 3
            obtain ⟨x0, x1, x2, x3, x4⟩ := h5.out.2.2.1
            obtain ⟨ok, hok⟩ : ∃ ok, ok = t := ⟨_, rfl⟩
            have HOK : Hid (okB s.S vl (nth s.S.cons i) s.cons.length = ok) := Lib.hid (by rw [hok]; first | done | exact (HQ.out s.cons.length))
            rw [← hok]
            have H5 := Lib.hid h5.out
            clear h5 hok
            cases ok
            · go_wp2_with fail
              go_roundw
              case rel => exact ⟨i + 1, ra, rc, rs, by omega, by go_num, by rw [take_filter hil, if_neg (by rw [HKE.out, HOK.out]; simp), List.append_nil]; exact H5.out.1, H5.out.2.1⟩
              case measure => simp [intOf]; omega
            · have hrl : rs.length ≤ 101 := by have := H5.out.1.len; rw [this]; exact Nat.le_trans (List.length_filter_le _ _) (by simp; omega)
              have hbo : bo + 1 ≤ wr.heap.size := World.block_lt_of_cell? wr _ H5.out.1.o0
              go_wp2_with (at_builtin; refine wp_appendE (E := elC) sCon rfl rfl _ _ rfl (v := .slice ra rs.length rc) (l := rs) (base := bo + 1) rfl wr.heap.size rfl (OwnE.grown H5.out.1.own (grownBy_alloc _ _) (by cases (Value.slice ra rs.length rc).ownBlock <;> simp)) (⟨ck, c_a, c_b, c_f, sa, c_s.length, sc⟩ : RC) (cells_new (W := wr) (cs := [.int .i64 (ck : Int), .int .i64 (c_a : Int), .int .i64 (c_b : Int), .int .i64 (c_f : Int), .slice sa c_s.length sc]) (t := 37) rfl) (by omega) (by omega) (by simp; omega) ?_; intro v9 W9 o9 g9 l9; obtain ⟨s9, c9, rfl⟩ := OwnE.shape o9 (n := rs.length + 1) (by simp); obtain ⟨t1, t2, hP⟩ := H5.out.1.push (c := nth s.cons i) (x := (⟨ck, c_a, c_b, c_f, sa, c_s.length, sc⟩ : RC)) HEQ.out.1 HEQ.out.2 (grownBy_alloc _ _) o9 g9; have HP := Lib.hid (And.intro hP (And.intro o9 g9)); clear hP o9 g9 l9)
              go_roundw
              case rel => exact ⟨i + 1, s9, c9, _, by omega, by go_num, by rw [take_filter hil, if_pos (by rw [HKE.out, HOK.out])]; exact HP.out.1, by
                have b1 := H5.out.2.1.alloc (by omega) (.cells #[.int .i64 (ck : Int), .int .i64 (c_a : Int), .int .i64 (c_b : Int), .int .i64 (c_f : Int), .slice sa c_s.length sc] 37)
                have b2 := b1.grown HP.out.2.2 (by simp; omega) (fun m hm => by have := (OwnE.lt H5.out.1.own m hm).1; omega)
                exact b2.setCell (show bo ≤ (⟨bo, 3, none⟩ : Addr).block from Nat.le_refl _) _⟩
              case measure => simp [intOf]; omega
      · obtain rfl : i = s.cons.length := by omega
        have o0 := hh.out.1.o0
        have o1 := hh.out.1.o1
        have o2 := hh.out.1.o2
        have o3 := hh.out.1.o3
        obtain ⟨⟨z0, z1, z2, z3⟩, zf⟩ := HZw.out.rd
        have zf0 := zf 0
        have zf1 := zf 1
        have zf2 := zf 2
        have zf3 := zf 3
        obtain ⟨N, hN⟩ : ∃ N, N = rs.length := ⟨_, rfl⟩
        rw [← hN] at o3
        have hNc : N = (s.cut vl (flB s.S vl)).cons.length := by
          rw [hN, hh.out.1.len, List.take_length]; rfl
        have HN := Lib.hid hNc
        have HH := Lib.hid hh.out
        clear zf hh hbw hWw hN hNc
        go_wp2_with fail
        refine bodyPost_ret (v := .tuple #[.agg #[.int .i64 s.vars, .int .i64 s.sites, .int .i64 s.fields, .slice ra N rc], .int .i64 0]) (by rw [results_cell_tmp rfl]; go_simp; try rfl) rfl ?_
        refine ⟨ra, rc, s.cut vl (flB s.S vl), by rw [HD.out.1, ← HN.out]; rfl, ?_, .inr ⟨HD.out.1, vl, flB s.S vl, by simpa using HV.out.1, flB_len _ _, flB_iff HD.out.2.2 (by simpa using HV.out.1.iff), rfl⟩, below4 HWw.out HBR.out _ _ _ _⟩
        have hl : (s.cut vl (flB s.S vl)).cons = (s.cons.take s.cons.length).filter (keepB vl (flB s.S vl)) := by rw [List.take_length]; rfl
        rw [hl]
        have hbr := HBR2.out
        refine (HH.out.1.grown (grown4 wr br _ _ _ _) (fun k e => by simp at e; subst e; exact .inr (by rw [HBO.out]; exact hbr))).cons (below4 HWw.out HBR.out _ _ _ _)
  · have hz : (dCode s v != 0) = true := by simpa using h0
    have HZ0 := Lib.hid h0
    obtain ⟨code, hcd⟩ : ∃ c, c = dCode s v := ⟨_, rfl⟩
    rw [← hcd] at hz ⊢
    have HCD := Lib.hid hcd
    clear h0 hcd
    go_wp2_with fail
    refine bodyPost_ret (v := .tuple #[.agg #[.int .i64 0, .int .i64 0, .int .i64 0, .slice none 0 0], .int .i64 code]) (by rw [results_cell_tmp rfl]; go_simp; try rfl) rfl ?_
    refine ⟨none, 0, ⟨0, 0, 0, []⟩, by rw [← HCD.out]; rfl, nilCons _, .inl ⟨HZ0.out, rfl⟩, below4 H1.out.2.2 HBR.out _ _ _ _⟩
end Go.Proofs.Ytkfhopnolflchaa
