/- Contract of Reach's visit. -/
import Derived.Test.YtchmjgjagaaomaaGrq
import Derived.Test.YtchmjgjagaaomaaGa
import Derived.Maps.AppendAt
namespace Go.Dfl
open Go.RowKit
/-- 'append(s, x)', and where the row lies afterwards. -/
theorem wp_append1at {α : Type} {f : α → Value} {P : Program} {t e : TypeId} {z : Value} {by8 : Nat} (ht : SliceOf P t e z 1 by8) (hz : z.cells.size = 1) (w : World) {ops : Array Oper} {rest : List Oper} {o : Oper} {a : Act} {Q : Exit → Act → World → Prop}
    (hg : o.guard = none) (s x : Operand) (hop : o.op = .call { callee := .builtin .append, args := #[s, x], argTypes := #[t, t] })
    (base : Nat) (v : Value) (l : List α) (hs : a.eval s = v) (hown : Own f w base e v l) (y : α) (ad : Addr) (hx : a.eval x = .slice (some ad) 1 1) (hy : w.cell? ad = some (f y)) (h1 : (f y).oneCell' = true)
    (hlen : l.length < 17592186044416) (h8 : by8 ≤ 8) (hbase : base ≤ w.heap.size)
    (hK : ∀ v' w', Own f w' base e v' (l ++ [y]) → w.grownBy w' v.ownBlock → (v'.ownBlock = v.ownBlock ∨ v'.ownBlock = some w.heap.size) → wpList P ops Q rest (a.put o.dst v') w') : wpList P ops Q (o :: rest) a w := by
  obtain ⟨i, hi, hz0, hz1, hz2⟩ := ht.info
  refine wpList_append_own_at w hg s x t hop base e i z 1 by8 ht.und hi hz0 hz1 hz2 hz (by omega) v l.length (l.map f) hs hown ad 1 1 [f y] hx rfl ?_ (by simpa using h1) (by unfold maxLen; omega) ?_ hbase ?_
  · intro j u hj
    cases j with
    | zero => simp at hj; subst hj; simpa [Addr.add] using hy
    | succ j => simp at hj
  · exact Nat.le_trans (Nat.mul_le_mul (by omega : l.length + 1 ≤ 17592186044416) h8) (by omega)
  · intro v' w' h2 h3 _ h4
    exact hK v' w' (by unfold Own; simpa using h2) h3 h4
end Go.Dfl
namespace Go.Gra
/-- One visit. -/
def vst (o : List Nat) (x : Nat) : List Nat := if x ∈ o then o else o ++ [x]
def visB (n : Nat) (o : List Nat) : List Bool := (List.range n).map fun i => decide (i ∈ o)
theorem nodup_len : ∀ (n : Nat) (l : List Nat), l.Nodup → (∀ x ∈ l, x < n) → l.length ≤ n
  | 0, [], _, _ => by simp
  | 0, a :: l, _, h => by have := h a (by simp); omega
  | n + 1, l, hl, h => by
    by_cases hm : n ∈ l
    · have h1 := nodup_len n (l.erase n) (hl.erase n) fun x hx => by
        have h2 := (hl.mem_erase_iff).1 hx
        have := h x h2.2
        omega
      rw [List.length_erase_of_mem hm] at h1; omega
    · have h1 := nodup_len n l hl fun x hx => by
        have := h x hx
        have h3 : x ≠ n := fun e => hm (e ▸ hx)
        omega
      omega
theorem visB_len (n : Nat) (o : List Nat) : (visB n o).length = n := by simp [visB]
theorem visB_nth {n : Nat} {o : List Nat} {x : Nat} (h : x < n) : Go.Dfl.nth (visB n o) x = decide (x ∈ o) := by
  rw [Go.Dfl.nth_eq _ _ (by rw [visB_len]; exact h)]; simp [visB]
theorem visB_set {n : Nat} {o : List Nat} {x : Nat} (h : x < n) : (visB n o).set x true = visB n (o ++ [x]) := by
  refine Go.Dfl.nth_ext (by rw [List.length_set, visB_len, visB_len]) fun i hi => ?_
  rw [List.length_set, visB_len] at hi
  rw [Go.Dfl.nth_set, visB_len, visB_nth hi]
  by_cases e : x = i
  · subst e; rw [if_pos ⟨rfl, h⟩, visB_nth h]; simp
  · rw [if_neg (fun h => e h.1), visB_nth hi]
    simp only [List.mem_append, List.mem_singleton]
    by_cases h2 : i ∈ o
    · simp [h2]
    · simp [h2]; exact fun h => e h.symm
end Go.Gra
namespace Go.Proofs.Ytchmjgjagaaomaa
open Go.RowKit Go.Dfl Go.Gra

theorem own_isCells {α : Type} {f : α → Value} {w : World} {base : Nat} {e : TypeId} {v : Value} {l : List α} (h : Go.Dfl.Own f w base e v l) {k : Nat} (hk : v.ownBlock = some k) {o : Obj} (ho : w.heap[k]? = some o) : o.isCells = true := by
  obtain ⟨-, ⟨h3, -⟩ | ⟨g, cap, cur, h3, -, h5, -⟩⟩ := h
  · rw [h3] at hk; simp [Value.ownBlock] at hk
  · rw [h3] at hk
    have e3 : g = k := by simpa [Value.ownBlock] using hk
    subst e3
    rw [ho] at h5
    obtain rfl := Option.some.inj h5
    rfl
theorem nodup_snoc {o : List Nat} {x : Nat} (h : o.Nodup) (hx : ¬ x ∈ o) : (o ++ [x]).Nodup := by
  rw [List.nodup_append]
  exact ⟨h, by simp, fun a ha b hb e => by rw [List.mem_singleton.1 hb] at e; exact hx (e ▸ ha)⟩
/-- The state of Reach: the row of marks (its box bv), the list (its box bo). -/
structure RcW (bv bo B0 B n cap : Nat) (s : Option Addr) (o : List Nat) (ov : Value) (W : World) : Prop where
  bx : W.cell? ⟨bv, 0, none⟩ = some (.slice s n cap)
  row : Go.Dfl.Own Value.bool W B0 4 (.slice s n cap) (visB n o)
  lx : W.cell? ⟨bo, 0, none⟩ = some ov
  lfr : W.frozen? ⟨bo, 0, none⟩ = false
  lst : OwnI W B 3 ov (o.map fun x : Nat => (x : Int))
  sep : ∀ k, (Value.slice s n cap).ownBlock = some k → k ≠ bv ∧ k ≠ bo ∧ k < B
  ne : bv ≠ bo ∧ bv < B ∧ bo < B ∧ B0 ≤ bv ∧ B0 ≤ bo ∧ B0 ≤ B ∧ B ≤ W.heap.size
  mem : ∀ x ∈ o, x < n
  nd : o.Nodup
/-- What a visit leaves alone. -/
structure RcK (bo B0 : Nat) (rv ov ov' : Value) (W W' : World) : Prop where
  below : Below B0 W W'
  oth : KeepsOthers W W'
  blk : ∀ k, k < W.heap.size → k ≠ bo → rv.ownBlock ≠ some k → ov.ownBlock ≠ some k → W'.heap[k]? = W.heap[k]?
  at_ : ov'.ownBlock = ov.ownBlock ∨ ∀ k, ov'.ownBlock = some k → W.heap.size ≤ k
theorem RcW.len {bv bo B0 B n cap : Nat} {s : Option Addr} {o : List Nat} {ov : Value} {W : World} (h : RcW bv bo B0 B n cap s o ov W) : o.length ≤ n := by
  have h1 := nodup_len n o h.nd h.mem
  exact h1
def VisR (bv bo B0 B n cap : Nat) (s : Option Addr) (o : List Nat) (ov : Value) (x : Nat) (W : World) (e : Ending) (W' : World) : Prop :=
  e = .returned (.tuple #[]) ∧ ∃ ov', RcW bv bo B0 B n cap s (vst o x) ov' W' ∧ RcK bo B0 (.slice s n cap) ov ov' W W'
set_option maxHeartbeats 1600000 in
set_option maxRecDepth 100000 in
theorem visit_any (bv bo B0 B n cap : Nat) (s : Option Addr) (o : List Nat) (ov : Value) (x : Nat) (W : World) (h : RcW bv bo B0 B n cap s o ov W) (hx : x < n) (hn : n ≤ 8192) (hol : o.length ≤ n) :
    Calls Try.prog 55 #[.int .i64 (x : Int), .pointer (some ⟨bv, 0, none⟩), .pointer (some ⟨bo, 0, none⟩)] W (VisR bv bo B0 B n cap s o ov x W) := by
  have b1 := h.bx
  have l1 := h.lx
  have lf := h.lfr
  obtain ⟨a, c, he, hm, hidx, hcell, hbl⟩ := h.row.lst.out1 sBoolG
  rw [visB_len] at he hm hidx hcell hbl
  simp only [Value.slice.injEq] at he
  obtain ⟨rfl, -, rfl⟩ := he
  have ci := hcell x hx
  have hii := hidx .i64 (x : Int) (by omega) (by omega)
  have hf0 := h.row.frozen (by rw [visB_len]; omega) (ofs s + x)
  have hbk := hbl x hx
  rw [Int.toNat_natCast] at hii
  have hob : (Value.slice s n cap).ownBlock = some (blk s) ∧ ofs s = 0 := by
    obtain ⟨-, ⟨h2, h3⟩ | ⟨g, cap2, cur, hv, -⟩⟩ := h.row
    · simp only [Value.slice.injEq] at h2; omega
    · simp only [Value.slice.injEq] at hv
      obtain ⟨rfl, -, -⟩ := hv
      exact ⟨rfl, rfl⟩
  obtain ⟨hsv, hso, hsB⟩ := h.sep _ hob.1
  obtain ⟨hvo, hvB, hoB, h0v, h0o, h0B, hBW⟩ := h.ne
  rw [visB_nth hx] at ci
  clear hidx hcell hbl
  by_cases hm2 : x ∈ o
  · have hd : decide (x ∈ o) = true := by simpa using hm2
    rw [hd] at ci
    have HV : Hid (vst o x = o ∧ RcW bv bo B0 B n cap s o ov W) := Lib.hid ⟨by unfold vst; rw [if_pos hm2], h⟩
    clear h hd hm2 hob
    go_enter Try.func55, Try.ntmps55
    go_wp2_with fail
    refine bodyPost_ret (results_none rfl _ _ _) rfl ?_
    exact ⟨rfl, ov, by rw [HV.out.1]; exact HV.out.2, Below.refl _ _, KeepsOthers.refl _, fun _ _ _ _ _ => rfl, .inl rfl⟩
  · have hd : decide (x ∈ o) = false := by simpa using hm2
    rw [hd] at ci
    obtain ⟨os, oc, rfl⟩ := h.lst.shape (n := o.length) (by rw [List.length_map])
    have hov : ∀ k, (Value.slice os o.length oc).ownBlock = some k → B ≤ k ∧ k < W.heap.size := h.lst.lt
    have hnb : (Value.slice os o.length oc).ownBlock ≠ some (blk s) := fun e => by have := hov _ e; omega
    have hno : some bo ≠ (Value.slice os o.length oc).ownBlock := fun e => by have := hov _ e.symm; omega
    have hw0 : OwnI (W.setCell ⟨blk s, ofs s + x, none⟩ (.bool true)) B 3 (.slice os o.length oc) (o.map fun x : Nat => (x : Int)) := h.lst.setOther (p := ⟨blk s, ofs s + x, none⟩) hnb _
    have hrw := h.row.set x true
    rw [visB_set hx] at hrw
    have hsz0 : (W.setCell ⟨blk s, ofs s + x, none⟩ (.bool true)).heap.size = W.heap.size := by simp
    have HV : Hid (vst o x = o ++ [x] ∧ RcW bv bo B0 B n cap s o (.slice os o.length oc) W) := Lib.hid ⟨by unfold vst; rw [if_neg hm2], h⟩
    have HX := Lib.hid (And.intro hob.1 (And.intro hob.2 (And.intro hov (And.intro hnb (And.intro hno (And.intro hw0 (And.intro hrw (And.intro hsz0 hm2))))))))
    clear h hd hm2 hob hov hnb hno hw0 hrw hsz0
    have hbos : bo ≠ W.heap.size := by omega
    have hbls : blk s ≠ W.heap.size := by omega
    have hll : (o.map fun x : Nat => (x : Int)).length < 17592186044416 := by rw [List.length_map]; omega
    have HL := Lib.hid hll
    clear hll
    go_enter Try.func55, Try.ntmps55
    go_wp2_with (at_builtin; refine wp_append1at (f := Value.int .i64) sIntG rfl _ rfl _ _ rfl B _ (o.map fun x : Nat => (x : Int)) rfl (HX.out.2.2.2.2.2.1.alloc _) (x : Int) ⟨W.heap.size, 0, none⟩ rfl (by have h1 := cell_alloc1 (W.setCell ⟨blk s, ofs s + x, none⟩ (.bool true)) (.int .i64 (x : Int)) 3; rw [World.size_setCell] at h1; exact h1) rfl HL.out (by omega) (le_alloc _ (by rw [World.size_setCell]; exact hBW)) ?_; intro v' w3 hown hgr hat; obtain ⟨s9, c9, rfl⟩ := hown.shape (n := o.length + 1) (by rw [List.length_append, List.length_map]; rfl); have e1 := hgr.cell (a := ⟨bo, 0, none⟩) (v := .slice os o.length oc) ((grownBy_alloc (W.setCell ⟨blk s, ofs s + x, none⟩ (.bool true)) (.cells #[.int .i64 (x : Int)] 3)).cell (by rw [World.cell?_setCell_other _ _ _ _ (by intro e; have := congrArg Addr.block e; (try dsimp only at this); omega)]; exact HV.out.2.lx) (by simp)) HX.out.2.2.2.2.1; have f1 : w3.frozen? ⟨bo, 0, none⟩ = false := (by rw [World.frozen?_of_block (a := ⟨bo, 0, none⟩) ((hgr.block _ (by rw [World.size_alloc, World.size_setCell]; (try dsimp only); omega) HX.out.2.2.2.2.1).trans ((grownBy_alloc (W.setCell ⟨blk s, ofs s + x, none⟩ (.bool true)) (.cells #[.int .i64 (x : Int)] 3)).block _ (by rw [World.size_setCell]; (try dsimp only); omega) (by simp))), World.frozen?_setCell]; exact lf); have HO := Lib.hid (And.intro hown (And.intro hgr hat)); clear hown hgr hat)
    refine bodyPost_ret (results_none rfl _ _ _) rfl ?_
    have hx9 := HX.out
    have hrc := HV.out.2
    have gS := grownBy_setCell W ⟨blk s, ofs s + x, none⟩ (.bool true)
    have gA := grownBy_alloc (W.setCell ⟨blk s, ofs s + x, none⟩ (.bool true)) (.cells #[.int .i64 (x : Int)] 3)
    have gR := HO.out.2.1
    have gB := grownBy_setCell w3 ⟨bo, 0, none⟩ (.slice s9 (o.length + 1) c9)
    have hz2 : ((W.setCell ⟨blk s, ofs s + x, none⟩ (.bool true)).alloc (.cells #[.int .i64 (x : Int)] 3)).heap.size = W.heap.size + 1 := by rw [World.size_alloc, World.size_setCell]
    have hz3 := gR.size
    rw [hz2] at hz3
    have hB0s : B0 ≤ blk s := (hrc.row.lt _ hx9.1).1
    have e1' : (⟨blk s, ofs s + x, none⟩ : Addr).block = blk s := rfl
    have e2' : (⟨bo, 0, none⟩ : Addr).block = bo := rfl
    refine ⟨rfl, _, ⟨?_, ?_, World.cell?_setCell_same w3 _ _ e1, by rw [World.frozen?_setCell]; exact f1, ?_, hrc.sep, ⟨hvo, hvB, hoB, h0v, h0o, h0B, by rw [World.size_setCell]; omega⟩, ?_, ?_⟩, ⟨?_, ?_, ?_, ?_⟩⟩
    · exact gB.cell (gR.cell (gA.cell (gS.cell b1 (fun e => hsv (Option.some.inj e).symm)) (by simp)) (fun e => by have := hx9.2.2.1 bv e.symm; omega)) (fun e => hvo (Option.some.inj e))
    · rw [HV.out.1]
      exact ((hx9.2.2.2.2.2.2.1.grown gA (by rw [hx9.1]; simp)).grown gR (.inr (by rw [hx9.1]; exact fun e => hx9.2.2.2.1 e.symm))).grown gB (.inr (by rw [hx9.1]; exact fun e => hso (Option.some.inj e)))
    · rw [HV.out.1, List.map_append]
      exact HO.out.1.grown gB (.inr fun e => by have := (HO.out.1.lt _ e).1; omega)
    · rw [HV.out.1]
      intro y hy
      rcases List.mem_append.1 hy with hy | hy
      · exact hrc.mem y hy
      · obtain rfl := List.mem_singleton.1 hy; exact hx
    · rw [HV.out.1]
      exact nodup_snoc hrc.nd hx9.2.2.2.2.2.2.2.2
    · exact ((((Below.refl B0 W).setCell (p := ⟨blk s, ofs s + x, none⟩) hB0s _).alloc (by rw [World.size_setCell]; omega) _).grown gR (by rw [hz2]; omega) (fun k e => by have := hx9.2.2.1 k e; omega)).setCell (p := ⟨bo, 0, none⟩) h0o _
    · refine (((KeepsOthers.setCell W _ _).trans (KeepsOthers.alloc _ _)).trans (KeepsOthers.of_grownBy gR fun j o' e ho => ?_)).trans (KeepsOthers.setCell _ _ _)
      exact own_isCells (hx9.2.2.2.2.2.1.alloc _) e ho
    · intro k hk hkb hks hko
      rw [gB.block k (by omega) (fun e => hkb (Option.some.inj e)), gR.block k (by rw [hz2]; omega) (fun e => hko e.symm), gA.block k (by rw [World.size_setCell]; exact hk) (by simp), gS.block k hk (fun e => hks (by rw [hx9.1]; exact e.symm))]
    · rcases HO.out.2.2 with h1 | h1
      · exact .inl h1
      · rw [hz2] at h1
        exact .inr fun k e => by rw [h1] at e; have := Option.some.inj e; omega
end Go.Proofs.Ytchmjgjagaaomaa
