/- The closure of body. -/
import Derived.Test.YtlijimdkadobmaaDng
namespace Go.Gra
open Go.Dfl (nth nth_mem mem_nth nth_eq nth_ext nth_set)
/-- One visit: the members are the head and the list. -/
def bso (g : G) (r h : Nat) (o : List Nat) (x : Nat) : List Nat := if x ∈ h :: o ∨ ¬ x ∈ postL g r then o else o ++ [x]
end Go.Gra
namespace Go.Proofs.Ytlijimdkadobmaa
open Go.RowKit Go.Dfl Go.Gra
/-- The state of body: the marks (box bv), the list (box bo), the tree (box bt), everything new from W1 on. -/
structure BoW (g : G) (r hd n cap bv bt bo B : Nat) (s : Option Addr) (u oo p : Value) (vs : List Value) (W1 : World) (o : List Nat) (ov : Value) (W : World) : Prop where
  bx : W.cell? ⟨bv, 0, none⟩ = some (.slice s n cap)
  row : Go.Dfl.Own Value.bool W W1.heap.size 4 (.slice s n cap) (visB n (hd :: o))
  lx : W.cell? ⟨bo, 0, none⟩ = some ov
  lfr : W.frozen? ⟨bo, 0, none⟩ = false
  lst : OwnI W B 3 ov (o.map fun x : Nat => (x : Int))
  sb : (Value.slice s n cap).ownBlock = some (blk s)
  ne : bv ≠ bo ∧ blk s ≠ bv ∧ blk s ≠ bo ∧ blk s < B ∧ bv < B ∧ bo < B ∧ W1.heap.size ≤ bv ∧ W1.heap.size ≤ bo ∧ W1.heap.size ≤ B ∧ B ≤ W.heap.size
  bel : Below W1.heap.size W1 W
  tv : TV g r u oo p vs W1
  tx : (W1.cell? ⟨bt, 0, none⟩ = some u ∧ W1.cell? ⟨bt, 1, none⟩ = some oo ∧ W1.cell? ⟨bt, 2, none⟩ = some p) ∧ bt < W1.heap.size
  len : o.length ≤ n
section
variable {g : G} {r hd n cap bv bt bo B : Nat} {s : Option Addr} {u oo p : Value} {vs : List Value} {W1 : World} {o : List Nat} {ov : Value} {W W' : World}
theorem BoW.below (h : BoW g r hd n cap bv bt bo B s u oo p vs W1 o ov W) (hb : Below W.heap.size W W') : BoW g r hd n cap bv bt bo B s u oo p vs W1 o ov W' := by
  obtain ⟨n1, n2, n3, n4, n5, n6, n7, n8, n9, n10⟩ := h.ne
  have hg := grownBy_below hb
  have l2 : bo < W.heap.size := World.block_lt_of_cell? W ⟨bo, 0, none⟩ h.lx
  exact ⟨hg.cell h.bx (by simp), h.row.below hb, hg.cell h.lx (by simp), by rw [World.frozen?_of_block (a := ⟨bo, 0, none⟩) (hb.block bo l2)]; exact h.lfr, h.lst.below hb, h.sb, ⟨n1, n2, n3, n4, n5, n6, n7, n8, n9, Nat.le_trans n10 hb.size⟩, h.bel.trans (hb.mono h.bel.size), h.tv, h.tx, h.len⟩
theorem BoW.tree (h : BoW g r hd n cap bv bt bo B s u oo p vs W1 o ov W) : (W.cell? ⟨bt, 0, none⟩ = some u ∧ W.cell? ⟨bt, 1, none⟩ = some oo ∧ W.cell? ⟨bt, 2, none⟩ = some p) ∧ TV g r u oo p vs W := by
  obtain ⟨⟨t0, t1, t2⟩, t3⟩ := h.tx
  exact ⟨⟨by rw [h.bel.cell (p := ⟨bt, 0, none⟩) t3]; exact t0, by rw [h.bel.cell (p := ⟨bt, 1, none⟩) t3]; exact t1, by rw [h.bel.cell (p := ⟨bt, 2, none⟩) t3]; exact t2⟩, h.tv.below h.bel⟩
end
theorem own_bool {w : World} {base : Nat} {s : Option Addr} {n cap : Nat} {l : List Bool} (h : Go.Dfl.Own Value.bool w base 4 (.slice s n cap) l) (hl : l.length = n) {x : Nat} (hx : x < n) :
    w.cell? ⟨blk s, ofs s + x, none⟩ = some (.bool (nth l x)) ∧ (∀ Y, (Instr.indexAt 49 (.slice s n cap) (.int .i64 (x : Int))).run Try.prog Y = .ok (.pointer (some ⟨blk s, ofs s + x, none⟩)) Y) ∧ w.frozen? ⟨blk s, ofs s + x, none⟩ = false := by
  obtain ⟨a9, c9, he, hm9, hidx, hcell, -⟩ := h.lst.out1 sBoolG
  rw [hl] at he hm9 hidx hcell
  simp only [Value.slice.injEq] at he
  obtain ⟨rfl, -, rfl⟩ := he
  exact ⟨hcell x hx, fun Y => by have := hidx .i64 (x : Int) (by omega) (by omega) Y; rw [Int.toNat_natCast] at this; exact this, h.frozen (by omega) _⟩
def BvR (g : G) (r hd n cap bv bt bo B : Nat) (s : Option Addr) (u oo p : Value) (vs : List Value) (W1 : World) (o : List Nat) (x : Nat) (e : Ending) (W' : World) : Prop :=
  e = .returned (.tuple #[]) ∧ ∃ ov', BoW g r hd n cap bv bt bo B s u oo p vs W1 (bso g r hd o x) ov' W'
set_option maxHeartbeats 1600000 in
set_option maxRecDepth 100000 in
theorem bvisit_any (g : G) (r hd n cap bv bt bo B : Nat) (s : Option Addr) (u oo p : Value) (vs : List Value) (W1 : World) (o : List Nat) (ov : Value) (W : World) (x : Nat) (h : BoW g r hd n cap bv bt bo B s u oo p vs W1 o ov W) (hx : x < n) (hn8 : n ≤ 8192) (hN : n = g.n.toNat) (hod : (hd :: o).Nodup) (hom : ∀ y ∈ hd :: o, y < n) :
    Calls Try.prog 46 #[.int .i64 (x : Int), .pointer (some ⟨bv, 0, none⟩), .pointer (some ⟨bt, 0, none⟩), .pointer (some ⟨bo, 0, none⟩)] W (BvR g r hd n cap bv bt bo B s u oo p vs W1 o x) := by
  have b1 := h.bx
  obtain ⟨⟨t0, t1, t2⟩, htv⟩ := h.tree
  obtain ⟨ci, hii, -⟩ := own_bool h.row (visB_len _ _) hx
  rw [visB_nth hx] at ci
  have H0 := Lib.hid h
  have HN := Lib.hid hN
  clear hN
  by_cases hm : x ∈ hd :: o
  · rw [decide_eq_true hm] at ci
    have HR : Hid (bso g r hd o x = o) := Lib.hid (by unfold bso; rw [if_pos (.inl hm)])
    clear hm htv h
    go_enter Try.func46, Try.ntmps46
    go_wp2_with fail
    refine bodyPost_ret (results_none rfl _ _ _) rfl ?_
    exact ⟨rfl, ov, by rw [HR.out]; exact H0.out⟩
  · rw [decide_eq_false hm] at ci
    have HTV := Lib.hid htv
    have HM := Lib.hid hm
    clear hm htv h
    go_enter Try.func46, Try.ntmps46
    go_wp2_with fail
    refine (reachable_any g r u oo p vs (x : Int) W HTV.out).mono ?_
    rintro e W2 ⟨rfl, b2⟩
    have h2 := H0.out.below b2
    have HB2 := Lib.hid h2
    cases hr : reachB g r (x : Int)
    · have HR : Hid (bso g r hd o x = o) := Lib.hid (by
        have hnp : ¬ x ∈ postL g r := fun hp => by
          unfold reachB at hr
          rw [nodeB_nat (by rw [← HN.out]; exact hx), Int.toNat_natCast, decide_eq_true hp] at hr
          exact absurd hr (by decide)
        unfold bso
        rw [if_pos (.inr hnp)])
      clear hr h2 b2
      go_wp2_with fail
      refine bodyPost_ret (results_none rfl _ _ _) rfl ?_
      exact ⟨rfl, ov, by rw [HR.out]; exact HB2.out⟩
    · have hxp : x ∈ postL g r := by
        unfold reachB at hr
        rw [Int.toNat_natCast, Bool.and_eq_true, decide_eq_true_eq] at hr
        exact hr.2
      have HR : Hid (bso g r hd o x = o ++ [x]) := Lib.hid (by
        unfold bso; rw [if_neg]
        rintro (h9 | h9)
        · exact HM.out h9
        · exact h9 hxp)
      have hle : o.length + 2 ≤ n := by
        have h9 := nodup_len n (x :: hd :: o) (List.nodup_cons.2 ⟨HM.out, hod⟩) (fun y hy => by
          rcases List.mem_cons.1 hy with rfl | hy
          · exact hx
          · exact hom y hy)
        simpa using h9
      obtain ⟨ci2, -, fi2⟩ := own_bool h2.row (visB_len _ _) hx
      have b12 := h2.bx
      obtain ⟨n1, n2, n3, n4, n5, n6, n7, n8, n9, n10⟩ := h2.ne
      have gS := grownBy_setCell W2 ⟨blk s, ofs s + x, none⟩ (.bool true)
      have hw0 : OwnI (W2.setCell ⟨blk s, ofs s + x, none⟩ (.bool true)) B 3 ov (o.map fun x : Nat => (x : Int)) := h2.lst.setOther (p := ⟨blk s, ofs s + x, none⟩) (fun e => by have := (h2.lst.lt _ e).1; dsimp only at this; omega) _
      have hrw := h2.row.set x true
      rw [visB_set hx] at hrw
      have hz0 : (W2.setCell ⟨blk s, ofs s + x, none⟩ (.bool true)).heap.size = W2.heap.size := World.size_setCell _ _ _
      have lx1 : (W2.setCell ⟨blk s, ofs s + x, none⟩ (.bool true)).cell? ⟨bo, 0, none⟩ = some ov := gS.cell h2.lx (fun e => n3 (Option.some.inj e).symm)
      have lx2 : ((W2.setCell ⟨blk s, ofs s + x, none⟩ (.bool true)).alloc (.cells #[.int .i64 (x : Int)] 3)).cell? ⟨bo, 0, none⟩ = some ov := (grownBy_alloc _ _).cell lx1 (by simp)
      have lf1 : ((W2.setCell ⟨blk s, ofs s + x, none⟩ (.bool true)).alloc (.cells #[.int .i64 (x : Int)] 3)).frozen? ⟨bo, 0, none⟩ = false := by
        rw [World.frozen?_of_block (a := ⟨bo, 0, none⟩) ((grownBy_alloc _ _).block bo (by rw [hz0]; omega) (by simp)), World.frozen?_setCell]; exact h2.lfr
      have hol : ∀ q, ov.ownBlock = some q → q ≠ bo := fun q e => by have := (h2.lst.lt _ e).1; omega
      obtain ⟨os, oc, rfl⟩ := h2.lst.shape (n := o.length) (by rw [List.length_map])
      have hll : (o.map fun x : Nat => (x : Int)).length < 17592186044416 := by rw [List.length_map]; omega
      have hB1 : B ≤ (W2.setCell ⟨blk s, ofs s + x, none⟩ (.bool true)).heap.size := by rw [hz0]; exact n10
      have hbo2 : bo < ((W2.setCell ⟨blk s, ofs s + x, none⟩ (.bool true)).alloc (.cells #[.int .i64 (x : Int)] 3)).heap.size := by rw [World.size_alloc, hz0]; omega
      have hbn : bo ≠ W2.heap.size := by omega
      have HX := Lib.hid (And.intro hw0 (And.intro hrw (And.intro lx2 (And.intro lf1 (And.intro hol (And.intro hbo2 hle))))))
      clear hr h2 b2 hxp hw0 hrw lx2 lf1 hol hle hbo2 n1 n2 n3 n4 n5 n6 n7 n8 n9 n10 gS
      go_wp2_with (at_builtin; refine wp_append1at (f := Value.int .i64) sIntG rfl _ rfl _ _ rfl B _ (o.map fun x : Nat => (x : Int)) rfl (HX.out.1.alloc _) (x : Int) ⟨W2.heap.size, 0, none⟩ rfl (by have h1 := cell_alloc1 (W2.setCell ⟨blk s, ofs s + x, none⟩ (.bool true)) (.int .i64 (x : Int)) 3; rw [World.size_setCell] at h1; exact h1) rfl hll (by omega) (le_alloc _ hB1) ?_; intro v' w3 hown hgr hat; obtain ⟨s9, c9, rfl⟩ := hown.shape (n := o.length + 1) (by rw [List.length_append, List.length_map]; rfl); have e1 : w3.cell? ⟨bo, 0, none⟩ = some (.slice os o.length oc) := hgr.cell HX.out.2.2.1 (fun e => HX.out.2.2.2.2.1 _ e.symm rfl); have f1 : w3.frozen? ⟨bo, 0, none⟩ = false := (by rw [World.frozen?_of_block (a := ⟨bo, 0, none⟩) (hgr.block _ HX.out.2.2.2.2.2.1 (fun e => HX.out.2.2.2.2.1 _ e.symm rfl))]; exact HX.out.2.2.2.1); have HO := Lib.hid (And.intro hown (And.intro hgr hat)); clear hown hgr hat)
      refine bodyPost_ret (results_none rfl _ _ _) rfl ?_
      obtain ⟨x1, x2, x3, x4, x5, x6, x7⟩ := HX.out
      obtain ⟨o1, o2, o3⟩ := HO.out
      obtain ⟨n1, n2, n3, n4, n5, n6, n7, n8, n9, n10⟩ := HB2.out.ne
      have hlt := HB2.out.lst.lt
      have gS := grownBy_setCell W2 ⟨blk s, ofs s + x, none⟩ (.bool true)
      have gA := grownBy_alloc (W2.setCell ⟨blk s, ofs s + x, none⟩ (.bool true)) (.cells #[.int .i64 (x : Int)] 3)
      have gB := grownBy_setCell w3 ⟨bo, 0, none⟩ (.slice s9 (o.length + 1) c9)
      have hz3 := o2.size
      rw [World.size_alloc, hz0] at hz3
      have hsb := HB2.out.sb
      have hnr : ∀ q, q < B → some q ≠ (Value.slice os o.length oc).ownBlock := fun q hq e => by have := (hlt q e.symm).1; omega
      refine ⟨rfl, .slice s9 (o.length + 1) c9, ?_⟩
      rw [HR.out]
      refine ⟨?_, ?_, World.cell?_setCell_same w3 _ _ e1, by rw [World.frozen?_setCell]; exact f1, ?_, hsb, ⟨n1, n2, n3, n4, n5, n6, n7, n8, n9, by rw [World.size_setCell]; omega⟩, ?_, HB2.out.tv, HB2.out.tx, by rw [List.length_append, List.length_singleton]; omega⟩
      · exact gB.cell (o2.cell (gA.cell (gS.cell b12 (fun e => n2 (Option.some.inj e).symm)) (by simp)) (hnr bv n5)) (fun e => n1 (Option.some.inj e))
      · exact ((x2.grown gA (by rw [hsb]; simp)).grown o2 (.inr (by rw [hsb]; exact hnr _ n4))).grown gB (.inr (by rw [hsb]; exact fun e => n3 (Option.some.inj e)))
      · rw [List.map_append]
        exact o1.grown gB (.inr fun e => by have := (o1.lt _ e).1; dsimp only at this; omega)
      · exact (((HB2.out.bel.setCell (p := ⟨blk s, ofs s + x, none⟩) (HB2.out.row.lt _ hsb).1 _).alloc (by rw [World.size_setCell]; omega) _).grown o2 (by rw [World.size_alloc, World.size_setCell]; omega) (fun q e => by have := (hlt q e).1; omega)).setCell (p := ⟨bo, 0, none⟩) n8 _
end Go.Proofs.Ytlijimdkadobmaa
