/- Contract of Reach's visit. -/
import Derived.Test.YtchmjgjagaaomaaGq
import Derived.Test.YtchmjgjagaaomaaGa
import Derived.Maps.AppendAt
import Derived.Test.YtchmjgjagaaomaaGb
import Derived.Laws.EntriesVeiled
namespace Go.Dfl
open Go.RowKit
/-- 'append(s, x)', and where the row lies afterwards. -/
theorem wp_append1at {α : Type} {f : α → Value} {P : Program} {t e : TypeId} {z : Value} {by8 : Nat} (ht : SliceOf P t e z 1 by8) (hz : z.cells.size = 1) (w : World) {ops : Array Oper} {rest : List Oper} {o : Oper} {a : Act} {Q : Exit → Act → World → Prop}
    (hg : o.guard = none) (s x : Operand) (hop : o.op = .call { callee := .builtin .append, args := #[s, x], argTypes := #[t, t] })
    (base : Nat) (v : Value) (l : List α) (hs : a.eval s = v) (hown : Own f w base e v l) (y : α) (ad : Addr) (hx : a.eval x = .slice (some ad) 1 1) (hy : w.cell? ad = some (f y)) (h1 : (f y).oneCell' = true)
    (hlen : l.length < 17592186044416) (h8 : by8 ≤ 8) (hbase : base ≤ w.heap.size)
    (hK : ∀ v' w', Own f w' base e v' (l ++ [y]) → w.grownBy w' v.ownBlock → (v'.ownBlock = v.ownBlock ∨ v'.ownBlock = some w.heap.size) → wpList P ops Q rest (a.put o.dst v') w') : wpList P ops Q (o :: rest) a w := by
  obtain ⟨i, hi, hz0, hz1, hz2⟩ := ht.info
  refine wpList_append_own_at w hg s x t hop base e i z 1 by8 ht.und hi hz0 hz1 hz2 hz (by omega) v l.length (l.map f) hs hown ad 1 1 [f y] hx rfl ?_ (by simpa using h1) (by unfold maxLen; omega) ?_ hbase ?_
  · intro j u hj
    cases j with
    | zero => simp at hj; subst hj; simpa [Addr.add] using hy
    | succ j => simp at hj
  · exact Nat.le_trans (Nat.mul_le_mul (by omega : l.length + 1 ≤ 17592186044416) h8) (by omega)
  · intro v' w' h2 h3 _ h4
    exact hK v' w' (by unfold Own; simpa using h2) h3 h4
end Go.Dfl
namespace Go.Gra
/-- One visit. -/
def vst (o : List Nat) (x : Nat) : List Nat := if x ∈ o then o else o ++ [x]
def visB (n : Nat) (o : List Nat) : List Bool := (List.range n).map fun i => decide (i ∈ o)
theorem nodup_len : ∀ (n : Nat) (l : List Nat), l.Nodup → (∀ x ∈ l, x < n) → l.length ≤ n
  | 0, [], _, _ => by simp
  | 0, a :: l, _, h => by have := h a (by simp); omega
  | n + 1, l, hl, h => by
    by_cases hm : n ∈ l
    · have h1 := nodup_len n (l.erase n) (hl.erase n) fun x hx => by
        have h2 := (hl.mem_erase_iff).1 hx
        have := h x h2.2
        omega
      rw [List.length_erase_of_mem hm] at h1; omega
    · have h1 := nodup_len n l hl fun x hx => by
        have := h x hx
        have h3 : x ≠ n := fun e => hm (e ▸ hx)
        omega
      omega
theorem visB_len (n : Nat) (o : List Nat) : (visB n o).length = n := by simp [visB]
theorem visB_nth {n : Nat} {o : List Nat} {x : Nat} (h : x < n) : Go.Dfl.nth (visB n o) x = decide (x ∈ o) := by
  rw [Go.Dfl.nth_eq _ _ (by rw [visB_len]; exact h)]; simp [visB]
theorem visB_set {n : Nat} {o : List Nat} {x : Nat} (h : x < n) : (visB n o).set x true = visB n (o ++ [x]) := by
  refine Go.Dfl.nth_ext (by rw [List.length_set, visB_len, visB_len]) fun i hi => ?_
  rw [List.length_set, visB_len] at hi
  rw [Go.Dfl.nth_set, visB_len, visB_nth hi]
  by_cases e : x = i
  · subst e; rw [if_pos ⟨rfl, h⟩, visB_nth h]; simp
  · rw [if_neg (fun h => e h.1), visB_nth hi]
    simp only [List.mem_append, List.mem_singleton]
    by_cases h2 : i ∈ o
    · simp [h2]
    · simp [h2]; exact fun h => e h.symm
end Go.Gra
namespace Go.Proofs.Ytchmjgjagaaomaa
open Go.RowKit Go.Dfl Go.Gra

theorem own_isCells {α : Type} {f : α → Value} {w : World} {base : Nat} {e : TypeId} {v : Value} {l : List α} (h : Go.Dfl.Own f w base e v l) {k : Nat} (hk : v.ownBlock = some k) {o : Obj} (ho : w.heap[k]? = some o) : o.isCells = true := by
  obtain ⟨-, ⟨h3, -⟩ | ⟨g, cap, cur, h3, -, h5, -⟩⟩ := h
  · rw [h3] at hk; simp [Value.ownBlock] at hk
  · rw [h3] at hk
    have e3 : g = k := by simpa [Value.ownBlock] using hk
    subst e3
    rw [ho] at h5
    obtain rfl := Option.some.inj h5
    rfl
theorem nodup_snoc {o : List Nat} {x : Nat} (h : o.Nodup) (hx : ¬ x ∈ o) : (o ++ [x]).Nodup := by
  rw [List.nodup_append]
  exact ⟨h, by simp, fun a ha b hb e => by rw [List.mem_singleton.1 hb] at e; exact hx (e ▸ ha)⟩
/-- The state of Reach: the row of marks (its box bv), the list (its box bo). -/
structure RcW (bv bo B0 B n cap : Nat) (s : Option Addr) (o : List Nat) (ov : Value) (W : World) : Prop where
  bx : W.cell? ⟨bv, 0, none⟩ = some (.slice s n cap)
  row : Go.Dfl.Own Value.bool W B0 4 (.slice s n cap) (visB n o)
  lx : W.cell? ⟨bo, 0, none⟩ = some ov
  lfr : W.frozen? ⟨bo, 0, none⟩ = false
  lst : OwnI W B 3 ov (o.map fun x : Nat => (x : Int))
  sep : ∀ k, (Value.slice s n cap).ownBlock = some k → k ≠ bv ∧ k ≠ bo ∧ k < B
  ne : bv ≠ bo ∧ bv < B ∧ bo < B ∧ B0 ≤ bv ∧ B0 ≤ bo ∧ B0 ≤ B ∧ B ≤ W.heap.size
  mem : ∀ x ∈ o, x < n
  nd : o.Nodup
/-- What a visit leaves alone. -/
structure RcK (bo B0 : Nat) (rv ov ov' : Value) (W W' : World) : Prop where
  below : Below B0 W W'
  oth : KeepsOthers W W'
  blk : ∀ k, k < W.heap.size → k ≠ bo → rv.ownBlock ≠ some k → ov.ownBlock ≠ some k → W'.heap[k]? = W.heap[k]?
  at_ : ov'.ownBlock = ov.ownBlock ∨ ∀ k, ov'.ownBlock = some k → W.heap.size ≤ k
theorem RcW.len {bv bo B0 B n cap : Nat} {s : Option Addr} {o : List Nat} {ov : Value} {W : World} (h : RcW bv bo B0 B n cap s o ov W) : o.length ≤ n := by
  have h1 := nodup_len n o h.nd h.mem
  exact h1
def VisR (bv bo B0 B n cap : Nat) (s : Option Addr) (o : List Nat) (ov : Value) (x : Nat) (W : World) (e : Ending) (W' : World) : Prop :=
  e = .returned (.tuple #[]) ∧ ∃ ov', RcW bv bo B0 B n cap s (vst o x) ov' W' ∧ RcK bo B0 (.slice s n cap) ov ov' W W'
set_option maxHeartbeats 1600000 in
set_option maxRecDepth 100000 in
theorem visit_any (bv bo B0 B n cap : Nat) (s : Option Addr) (o : List Nat) (ov : Value) (x : Nat) (W : World) (h : RcW bv bo B0 B n cap s o ov W) (hx : x < n) (hn : n ≤ 8192) (hol : o.length ≤ n) :
    Calls Try.prog 55 #[.int .i64 (x : Int), .pointer (some ⟨bv, 0, none⟩), .pointer (some ⟨bo, 0, none⟩)] W (VisR bv bo B0 B n cap s o ov x W) := by
  have b1 := h.bx
  have l1 := h.lx
  have lf := h.lfr
  obtain ⟨a, c, he, hm, hidx, hcell, hbl⟩ := h.row.lst.out1 sBoolG
  rw [visB_len] at he hm hidx hcell hbl
  simp only [Value.slice.injEq] at he
  obtain ⟨rfl, -, rfl⟩ := he
  have ci := hcell x hx
  have hii := hidx .i64 (x : Int) (by omega) (by omega)
  have hf0 := h.row.frozen (by rw [visB_len]; omega) (ofs s + x)
  have hbk := hbl x hx
  rw [Int.toNat_natCast] at hii
  have hob : (Value.slice s n cap).ownBlock = some (blk s) ∧ ofs s = 0 := by
    obtain ⟨-, ⟨h2, h3⟩ | ⟨g, cap2, cur, hv, -⟩⟩ := h.row
    · simp only [Value.slice.injEq] at h2; omega
    · simp only [Value.slice.injEq] at hv
      obtain ⟨rfl, -, -⟩ := hv
      exact ⟨rfl, rfl⟩
  obtain ⟨hsv, hso, hsB⟩ := h.sep _ hob.1
  obtain ⟨hvo, hvB, hoB, h0v, h0o, h0B, hBW⟩ := h.ne
  rw [visB_nth hx] at ci
  clear hidx hcell hbl
  by_cases hm2 : x ∈ o
  · have hd : decide (x ∈ o) = true := by simpa using hm2
    rw [hd] at ci
    have HV : Hid (vst o x = o ∧ RcW bv bo B0 B n cap s o ov W) := Lib.hid ⟨by unfold vst; rw [if_pos hm2], h⟩
    clear h hd hm2 hob
    go_enter Try.func55, Try.ntmps55
    go_wp2_with fail
    refine bodyPost_ret (results_none rfl _ _ _) rfl ?_
    exact ⟨rfl, ov, by rw [HV.out.1]; exact HV.out.2, Below.refl _ _, KeepsOthers.refl _, fun _ _ _ _ _ => rfl, .inl rfl⟩
  · have hd : decide (x ∈ o) = false := by simpa using hm2
    rw [hd] at ci
    obtain ⟨os, oc, rfl⟩ := h.lst.shape (n := o.length) (by rw [List.length_map])
    have hov : ∀ k, (Value.slice os o.length oc).ownBlock = some k → B ≤ k ∧ k < W.heap.size := h.lst.lt
    have hnb : (Value.slice os o.length oc).ownBlock ≠ some (blk s) := fun e => by have := hov _ e; omega
    have hno : some bo ≠ (Value.slice os o.length oc).ownBlock := fun e => by have := hov _ e.symm; omega
    have hw0 : OwnI (W.setCell ⟨blk s, ofs s + x, none⟩ (.bool true)) B 3 (.slice os o.length oc) (o.map fun x : Nat => (x : Int)) := h.lst.setOther (p := ⟨blk s, ofs s + x, none⟩) hnb _
    have hrw := h.row.set x true
    rw [visB_set hx] at hrw
    have hsz0 : (W.setCell ⟨blk s, ofs s + x, none⟩ (.bool true)).heap.size = W.heap.size := by simp
    have HV : Hid (vst o x = o ++ [x] ∧ RcW bv bo B0 B n cap s o (.slice os o.length oc) W) := Lib.hid ⟨by unfold vst; rw [if_neg hm2], h⟩
    have HX := Lib.hid (And.intro hob.1 (And.intro hob.2 (And.intro hov (And.intro hnb (And.intro hno (And.intro hw0 (And.intro hrw (And.intro hsz0 hm2))))))))
    clear h hd hm2 hob hov hnb hno hw0 hrw hsz0
    have hbos : bo ≠ W.heap.size := by omega
    have hbls : blk s ≠ W.heap.size := by omega
    have hll : (o.map fun x : Nat => (x : Int)).length < 17592186044416 := by rw [List.length_map]; omega
    have HL := Lib.hid hll
    clear hll
    go_enter Try.func55, Try.ntmps55
    go_wp2_with (at_builtin; refine wp_append1at (f := Value.int .i64) sIntG rfl _ rfl _ _ rfl B _ (o.map fun x : Nat => (x : Int)) rfl (HX.out.2.2.2.2.2.1.alloc _) (x : Int) ⟨W.heap.size, 0, none⟩ rfl (by have h1 := cell_alloc1 (W.setCell ⟨blk s, ofs s + x, none⟩ (.bool true)) (.int .i64 (x : Int)) 3; rw [World.size_setCell] at h1; exact h1) rfl HL.out (by omega) (le_alloc _ (by rw [World.size_setCell]; exact hBW)) ?_; intro v' w3 hown hgr hat; obtain ⟨s9, c9, rfl⟩ := hown.shape (n := o.length + 1) (by rw [List.length_append, List.length_map]; rfl); have e1 := hgr.cell (a := ⟨bo, 0, none⟩) (v := .slice os o.length oc) ((grownBy_alloc (W.setCell ⟨blk s, ofs s + x, none⟩ (.bool true)) (.cells #[.int .i64 (x : Int)] 3)).cell (by rw [World.cell?_setCell_other _ _ _ _ (by intro e; have := congrArg Addr.block e; (try dsimp only at this); omega)]; exact HV.out.2.lx) (by simp)) HX.out.2.2.2.2.1; have f1 : w3.frozen? ⟨bo, 0, none⟩ = false := (by rw [World.frozen?_of_block (a := ⟨bo, 0, none⟩) ((hgr.block _ (by rw [World.size_alloc, World.size_setCell]; (try dsimp only); omega) HX.out.2.2.2.2.1).trans ((grownBy_alloc (W.setCell ⟨blk s, ofs s + x, none⟩ (.bool true)) (.cells #[.int .i64 (x : Int)] 3)).block _ (by rw [World.size_setCell]; (try dsimp only); omega) (by simp))), World.frozen?_setCell]; exact lf); have HO := Lib.hid (And.intro hown (And.intro hgr hat)); clear hown hgr hat)
    refine bodyPost_ret (results_none rfl _ _ _) rfl ?_
    have hx9 := HX.out
    have hrc := HV.out.2
    have gS := grownBy_setCell W ⟨blk s, ofs s + x, none⟩ (.bool true)
    have gA := grownBy_alloc (W.setCell ⟨blk s, ofs s + x, none⟩ (.bool true)) (.cells #[.int .i64 (x : Int)] 3)
    have gR := HO.out.2.1
    have gB := grownBy_setCell w3 ⟨bo, 0, none⟩ (.slice s9 (o.length + 1) c9)
    have hz2 : ((W.setCell ⟨blk s, ofs s + x, none⟩ (.bool true)).alloc (.cells #[.int .i64 (x : Int)] 3)).heap.size = W.heap.size + 1 := by rw [World.size_alloc, World.size_setCell]
    have hz3 := gR.size
    rw [hz2] at hz3
    have hB0s : B0 ≤ blk s := (hrc.row.lt _ hx9.1).1
    have e1' : (⟨blk s, ofs s + x, none⟩ : Addr).block = blk s := rfl
    have e2' : (⟨bo, 0, none⟩ : Addr).block = bo := rfl
    refine ⟨rfl, _, ⟨?_, ?_, World.cell?_setCell_same w3 _ _ e1, by rw [World.frozen?_setCell]; exact f1, ?_, hrc.sep, ⟨hvo, hvB, hoB, h0v, h0o, h0B, by rw [World.size_setCell]; omega⟩, ?_, ?_⟩, ⟨?_, ?_, ?_, ?_⟩⟩
    · exact gB.cell (gR.cell (gA.cell (gS.cell b1 (fun e => hsv (Option.some.inj e).symm)) (by simp)) (fun e => by have := hx9.2.2.1 bv e.symm; omega)) (fun e => hvo (Option.some.inj e))
    · rw [HV.out.1]
      exact ((hx9.2.2.2.2.2.2.1.grown gA (by rw [hx9.1]; simp)).grown gR (.inr (by rw [hx9.1]; exact fun e => hx9.2.2.2.1 e.symm))).grown gB (.inr (by rw [hx9.1]; exact fun e => hso (Option.some.inj e)))
    · rw [HV.out.1, List.map_append]
      exact HO.out.1.grown gB (.inr fun e => by have := (HO.out.1.lt _ e).1; omega)
    · rw [HV.out.1]
      intro y hy
      rcases List.mem_append.1 hy with hy | hy
      · exact hrc.mem y hy
      · obtain rfl := List.mem_singleton.1 hy; exact hx
    · rw [HV.out.1]
      exact nodup_snoc hrc.nd hx9.2.2.2.2.2.2.2.2
    · exact ((((Below.refl B0 W).setCell (p := ⟨blk s, ofs s + x, none⟩) hB0s _).alloc (by rw [World.size_setCell]; omega) _).grown gR (by rw [hz2]; omega) (fun k e => by have := hx9.2.2.1 k e; omega)).setCell (p := ⟨bo, 0, none⟩) h0o _
    · refine (((KeepsOthers.setCell W _ _).trans (KeepsOthers.alloc _ _)).trans (KeepsOthers.of_grownBy gR fun j o' e ho => ?_)).trans (KeepsOthers.setCell _ _ _)
      exact own_isCells (hx9.2.2.2.2.2.1.alloc _) e ho
    · intro k hk hkb hks hko
      rw [gB.block k (by omega) (fun e => hkb (Option.some.inj e)), gR.block k (by rw [hz2]; omega) (fun e => hko e.symm), gA.block k (by rw [World.size_setCell]; exact hk) (by simp), gS.block k hk (fun e => hks (by rw [hx9.1]; exact e.symm))]
    · rcases HO.out.2.2 with h1 | h1
      · exact .inl h1
      · rw [hz2] at h1
        exact .inr fun k e => by rw [h1] at e; have := Option.some.inj e; omega
end Go.Proofs.Ytchmjgjagaaomaa

/- Contract of Reach. -/
namespace Go.Gra
/-- The nodes that are asked for, as they are visited. -/
def fold0 (n : Int) (l : List Int) : List Nat := l.foldl (fun o v => if nodeB n v then vst o v.toNat else o) []
theorem fold0_snoc (n : Int) (l : List Int) (v : Int) : fold0 n (l ++ [v]) = if nodeB n v then vst (fold0 n l) v.toNat else fold0 n l := by simp [fold0, List.foldl_append]
theorem vst_len (o : List Nat) (x : Nat) : o.length ≤ (vst o x).length := by unfold vst; split <;> simp
theorem vstl_len : ∀ (l o : List Nat), o.length ≤ (l.foldl vst o).length
  | [], _ => Nat.le_refl _
  | x :: l, o => Nat.le_trans (vst_len o x) (vstl_len l (vst o x))
/-- The queue from its i-th node on, for k rounds at most. -/
def bfsG (es : List (Int × Int)) : Nat → Nat → List Nat → List Nat
  | 0, _, o => o
  | k + 1, i, o => if i < o.length then bfsG es k (i + 1) ((suc es (Go.Dfl.nth o i)).foldl vst o) else o
/-- What is reached. -/
def reachL (g : G) (l : List Int) : List Nat := bfsG g.es (g.n.toNat + 1) 0 (fold0 g.n l)
end Go.Gra
namespace Go.Proofs.Ytchmjgjagaaomaa
open Go.RowKit Go.Dfl Go.Gra Go.Shelf
attribute [local go_sem] Oper.semAt_some

theorem RcW.new {W2 : World} {s : Option Addr} {n cap B0 : Nat} (h : Go.Dfl.Own Value.bool W2 B0 4 (.slice s n cap) (List.replicate n false)) (hB : B0 ≤ W2.heap.size) (fv : Value) (t1 t2 t3 : TypeId) :
    RcW W2.heap.size (W2.heap.size + 1) B0 (W2.heap.size + 1 + 1 + 1) n cap s [] (.slice none 0 0) (((W2.alloc (.cells #[.slice s n cap] t1)).alloc (.cells #[.slice none 0 0] t2)).alloc (.cells #[fv] t3)) ∧ (((W2.alloc (.cells #[.slice s n cap] t1)).alloc (.cells #[.slice none 0 0] t2)).alloc (.cells #[fv] t3)).cell? ⟨W2.heap.size + 1 + 1, 0, none⟩ = some fv := by
  have g1 := grownBy_alloc W2 (.cells #[.slice s n cap] t1)
  have g2 := grownBy_alloc (W2.alloc (.cells #[.slice s n cap] t1)) (.cells #[.slice none 0 0] t2)
  have g3 := grownBy_alloc ((W2.alloc (.cells #[.slice s n cap] t1)).alloc (.cells #[.slice none 0 0] t2)) (.cells #[fv] t3)
  have c1 := cell_alloc1 W2 (.slice s n cap) t1
  have c2 := cell_alloc1 (W2.alloc (.cells #[.slice s n cap] t1)) (.slice none 0 0) t2
  have h2 := heap_alloc_new (W2.alloc (.cells #[.slice s n cap] t1)) (.cells #[.slice none 0 0] t2)
  have c3 := cell_alloc1 ((W2.alloc (.cells #[.slice s n cap] t1)).alloc (.cells #[.slice none 0 0] t2)) fv t3
  have h3 := g3.block _ (Array.getElem?_eq_some_iff.1 h2).1 (by simp)
  rw [h2] at h3
  rw [World.size_alloc] at c2 h3
  rw [World.size_alloc, World.size_alloc] at c3
  have hv : visB n [] = List.replicate n false := by
    unfold visB
    rw [List.eq_replicate_iff]
    exact ⟨by simp, fun b hb => by simp at hb; exact hb.2⟩
  refine ⟨⟨g3.cell (g2.cell c1 (by simp)) (by simp), ?_, g3.cell c2 (by simp), by unfold World.frozen?; dsimp only; rw [h3]; simp, Go.Dfl.Own.nil _ _ _ _, fun k e => ?_, ⟨by omega, by omega, by omega, by omega, by omega, by omega, by simp⟩, fun x hx => by simp at hx, List.nodup_nil⟩, c3⟩
  · rw [hv]; exact ((h.alloc _).alloc _).alloc _
  · have := h.lt k e; omega
/-- The state between the rounds. -/
structure RS (W1 : World) (bv n cap : Nat) (s : Option Addr) (o : List Nat) (ov : Value) (Z : World) : Prop where
  rc : RcW bv (bv + 1) W1.heap.size (bv + 1 + 1 + 1) n cap s o ov Z
  bel : Below W1.heap.size W1 Z
  fn : Z.cell? ⟨bv + 1 + 1, 0, none⟩ = some (.func (.func 55) #[] #[.pointer (some ⟨bv, 0, none⟩), .pointer (some ⟨bv + 1, 0, none⟩)])
theorem RS.step {W1 : World} {bv n cap : Nat} {s : Option Addr} {o o' : List Nat} {ov ov' : Value} {Z Z' : World} (h : RS W1 bv n cap s o ov Z) (hs : ∀ k, (Value.slice s n cap).ownBlock = some k → k < bv) (hr : RcW bv (bv + 1) W1.heap.size (bv + 1 + 1 + 1) n cap s o' ov' Z') (hk : RcK (bv + 1) W1.heap.size (.slice s n cap) ov ov' Z Z') : RS W1 bv n cap s o' ov' Z' := by
  refine ⟨hr, h.bel.trans hk.below, ?_⟩
  have hl := World.block_lt_of_cell? Z ⟨bv + 1 + 1, 0, none⟩ h.fn
  rw [World.cell?_of_block (a := ⟨bv + 1 + 1, 0, none⟩) (hk.blk (bv + 1 + 1) hl (by omega) (fun e => by have := hs _ e; omega) (fun e => by have := (h.rc.lst.lt _ e).1; omega))]
  exact h.fn
theorem RS.grown {W1 : World} {bv n cap : Nat} {s : Option Addr} {o : List Nat} {ov : Value} {Z Z' : World} {row : Option Nat} (h : RS W1 bv n cap s o ov Z) (hs : ∀ k, (Value.slice s n cap).ownBlock = some k → k < bv) (hg : Z.grownBy Z' row) (hr : ∀ k, row = some k → bv + 1 + 1 + 1 ≤ k ∧ ov.ownBlock ≠ some k) : RS W1 bv n cap s o ov Z' := by
  obtain ⟨h1, h2, h3, h4, h5, h6, h7⟩ := h.rc.ne
  have hlo := World.block_lt_of_cell? Z ⟨bv + 1, 0, none⟩ h.rc.lx
  refine ⟨⟨hg.cell h.rc.bx fun e => ?_, h.rc.row.grown hg ?_, hg.cell h.rc.lx fun e => ?_, ?_, h.rc.lst.grown hg ?_, h.rc.sep, ⟨h1, h2, h3, h4, h5, h6, Nat.le_trans h7 hg.size⟩, h.rc.mem, h.rc.nd⟩, h.bel.grown hg h.bel.size fun k e => ?_, hg.cell h.fn fun e => ?_⟩
  · have := (hr _ e.symm).1; dsimp only at this; omega
  · cases e : (Value.slice s n cap).ownBlock with
    | none => exact .inl rfl
    | some k => exact .inr fun e2 => by have := hs _ e; have := (hr _ e2.symm).1; omega
  · have := (hr _ e.symm).1; dsimp only at this; omega
  · rw [World.frozen?_of_block (a := ⟨bv + 1, 0, none⟩) (hg.block _ hlo fun e => by have := (hr _ e.symm).1; dsimp only at this; omega)]; exact h.rc.lfr
  · cases e : ov.ownBlock with
    | none => exact .inl rfl
    | some k => exact .inr fun e2 => (hr _ e2.symm).2 e
  · have := (hr _ e).1; omega
  · have := (hr _ e.symm).1; dsimp only at this; omega
def ReachR (g : G) (l : List Int) (W : World) (e : Ending) (W' : World) : Prop := ∃ a c L, e = .returned (.slice a L.length c) ∧ Ints W' (.slice a L.length c) L ∧ Below W.heap.size W W' ∧
  ((gCode g ≠ 0 ∧ L = []) ∨ (gCode g = 0 ∧ L.Pairwise (· < ·) ∧ ∀ y : Int, y ∈ L ↔ 0 ≤ y ∧ y.toNat ∈ reachL g l))
set_option maxHeartbeats 3200000 in
set_option maxRecDepth 100000 in
theorem gReach_any (g : G) (cv fv : Value) (l : List Int) (W : World) (h : Pairs W cv g.es) (hf : Ints W fv l) : Calls Try.prog 38 #[GV g cv, fv] W (ReachR g l W) := by
  obtain ⟨ca, cc, rfl, -, -, -⟩ := pairs_rd h
  obtain ⟨fa, fc, rfl, hfm, hfi, hfc, hfb⟩ := hf.out1 sIntG
  have hal := (Below.refl W.heap.size W).alloc (Nat.le_refl _) (.cells #[.int .i64 g.n, .slice ca g.es.length cc] 24)
  have H0 := Lib.hid (And.intro (h.below hal) (And.intro hal (And.intro (BoxG.new W g.n (.slice ca g.es.length cc) 24) (And.intro hfc hfb))))
  clear h hal hf hfc hfb
  unfold GV
  refine (callsIn_wide (n := 5)).1 ?_
  refine callsIn_of_wp_marks Try.func38 rfl trivial ?_ rfl
  simp only [Try.ntmps38, List.size_toArray, List.length_cons, List.length_nil, Nat.reduceAdd, Nat.reduceSub, Array.replicate_succ, Array.replicate_zero, List.push_toArray, List.append_toArray, List.nil_append, List.cons_append]
  refine wpIn_wide.2 ?_
  go_wp2_with fail
  have hck := gCheck_any g (.slice ca g.es.length cc) _ H0.out.1
  unfold GV at hck
  refine hck.mono ?_
  rintro e W1 ⟨rfl, r1⟩
  have H1 := Lib.hid (And.intro (H0.out.1.below r1) (And.intro (H0.out.2.1.trans (r1.mono H0.out.2.1.size)) (H0.out.2.2.1.below r1)))
  clear r1 hck
  obtain ⟨c0, c1⟩ := H1.out.2.2
  have n1 : W.heap.size < W1.heap.size := H1.out.2.2.lt
  generalize hbs : W.heap.size = bs at *
  have HBS := Lib.hid hbs
  have n2 : bs ≠ W1.heap.size := by omega
  clear hbs
  by_cases hc : gCode g = 0
  · have q0 : (gCode g != 0) = false := by simpa using hc
    have hvg := gCode_ok.1 hc
    obtain ⟨n, hn⟩ : ∃ n : Nat, g.n = n := ⟨g.n.toNat, by have := hvg.n0; omega⟩
    have hn8 : n ≤ 8192 := by have := hvg.n1; omega
    have HV := Lib.hid (And.intro hvg (And.intro hn hc))
    clear hvg hc
    rw [hn] at c0 ⊢
    clear hn
    go_wp2_with (at_make; refine wp_make (f := Value.bool) false sBoolG rfl _ rfl _ _ rfl .i64 .i64 _ _ n rfl rfl rfl rfl (by omega) (by unfold maxLen; omega) ?_)
    intro s cap W2 hrow hb2
    have hw2 := RcW.new hrow hb2.size (.func (.func 55) #[] #[.pointer (some ⟨W2.heap.size, 0, none⟩), .pointer (some ⟨W2.heap.size + 1, 0, none⟩)]) 31 32 73
    have HW2 := Lib.hid (And.intro hw2 hb2)
    have hz2 := hb2.size
    have hs2 : ∀ k, (Value.slice s n cap).ownBlock = some k → k < W2.heap.size := fun k e => (hrow.lt k e).2
    have hb3 : Below W1.heap.size W1 (((W2.alloc (.cells #[.slice s n cap] 31)).alloc (.cells #[.slice none 0 0] 32)).alloc (.cells #[.func (.func 55) #[] #[.pointer (some ⟨W2.heap.size, 0, none⟩), .pointer (some ⟨W2.heap.size + 1, 0, none⟩)]] 73)) := (((hb2.alloc hz2 _).alloc (by rw [World.size_alloc]; omega) _).alloc (by rw [World.size_alloc, World.size_alloc]; omega) _)
    have HS2 := Lib.hid (And.intro hs2 hb3)
    clear hw2 hb2 hrow hs2 hb3
    go_wp2_with fail
    refine gen_code (fun Z => RS W1 W2.heap.size n cap s [] (.slice none 0 0) Z) ⟨HW2.out.1.1, HS2.out.2, HW2.out.1.2⟩ ?_
    intro Z0 hz0
    have HZ0 := Lib.hid hz0
    have HSB := Lib.hid HS2.out.1
    clear hz0 HS2 HW2
    generalize hbv : W2.heap.size = bv at *
    clear hbv
    go_loopw [23] (fun x wr => ∃ k : Nat, k ≤ l.length ∧ x = .int .i64 k ∧ Hid (∃ ov, RS W1 bv n cap s (fold0 n (l.take k)) ov wr)) (fun x _ => l.length - (intOf x).toNat)
    case atStart => exact ⟨0, by omega, rfl, _, HZ0.out⟩
    case round =>
      obtain ⟨k, hk, rfl, hh⟩ := hrel
      obtain ⟨ov, hrs⟩ := hh.out
      have HRS := Lib.hid hrs
      have hbW := hrs.bel
      obtain ⟨c0', c1'⟩ := H1.out.2.2.below hbW
      rw [HV.out.2.1] at c0'
      have hfn := hrs.fn
      clear hrs
      by_cases hlt : k < l.length
      · have hv := (H1.out.2.1.trans (hbW.mono (Nat.le_of_lt n1))).cell (p := ⟨blk fa, ofs fa + k, none⟩) (H0.out.2.2.2.2 k hlt)
        rw [H0.out.2.2.2.1 k hlt] at hv
        obtain ⟨y, hy⟩ : ∃ y, y = nth l k := ⟨_, rfl⟩
        rw [← hy] at hv
        have HY := Lib.hid hy
        clear hy hbW
        cases hnd : nodeB n y
        · go_wp2_with (go_at_call 42; refine (node_any _ _ _).mono ?_; rintro e w' ⟨rfl, hw⟩; rw [hw]; clear hw w')
          go_roundw
          case rel => exact ⟨k + 1, by omega, by go_num, ov, by rw [take_snoc _ _ hlt, fold0_snoc, ← HY.out, hnd]; exact HRS.out⟩
          case measure => simp [intOf]; omega
        · obtain ⟨hy0, hy1⟩ := nodeB_iff.1 hnd
          obtain ⟨x, rfl⟩ : ∃ x : Nat, y = x := ⟨y.toNat, by omega⟩
          have hx : x < n := by omega
          have hvi := visit_any bv (bv + 1) W1.heap.size (bv + 1 + 1 + 1) n cap s _ ov x wr HRS.out.rc hx hn8 HRS.out.rc.len
          have HVI := Lib.hid hvi
          clear hvi hy0 hy1
          go_wp2_with (first | (go_at_call 42; refine (node_any _ _ _).mono ?_; rintro e w' ⟨rfl, hw⟩; rw [hw]; clear hw w') | (go_at_call 55; refine HVI.out.mono ?_; rintro e w' ⟨rfl, ov', r1, r2⟩; have HR := Lib.hid (HRS.out.step HSB.out r1 r2); clear r1 r2))
          go_roundw
          case rel => exact ⟨k + 1, by omega, by go_num, ov', by rw [take_snoc _ _ hlt, fold0_snoc, ← HY.out, if_pos hnd]; exact HR.out⟩
          case measure => simp [intOf]; omega
      · obtain rfl : k = l.length := by omega
        rw [List.take_length] at HRS hh
        obtain ⟨o0, ho0⟩ : ∃ o, o = fold0 n l := ⟨_, rfl⟩
        rw [← ho0] at HRS
        have HO0 := Lib.hid ho0
        clear hh ho0 hfn c0' c1' hbW hfi hfm hlt hk
        go_wp2_with fail
        refine wp_loop_marks [false, false, false, false, false, false, false, false, false, false, true, true, false, false, false, false, false, false, false, false, false, false, false, false, false, false, false, false, false, false, false, false, false, false, false, true, true, true, true, true, true, true, true, true, true, true, true, true, true, true, true, false, false, false, false, false, false, false] (n + 1) (fun k l Ds wr => ∃ (i : Nat) (o : List Nat), slot l 10 = .int .i64 i ∧ i ≤ o.length ∧ k + i = n + 1 ∧ Hid (bfsG g.es k i o = bfsG g.es (n + 1) 0 o0 ∧ OpenM (bv + 1 + 1 + 1) Ds wr ∧ ∃ ov, RS W1 bv n cap s o ov wr)) ?atStart ?round
        case atStart => exact ⟨0, o0, rfl, by omega, by omega, rfl, OpenM.nil _ _, _, HRS.out⟩
        case round =>
          (intro gk wr Ds; dsimp only [FrA, slot]; intros; rename_i hrel Jm Km hJm hKm)
          obtain ⟨i, o, rfl, hi, hki, hh⟩ := hrel
          obtain ⟨hbf, hop, ov, hrs⟩ := hh.out
          obtain ⟨os, oc, rfl⟩ := hrs.rc.lst.shape (n := o.length) (by rw [List.length_map])
          have l1 := hrs.rc.lx
          obtain ⟨d0, d1⟩ := H1.out.2.2.below hrs.bel
          rw [HV.out.2.1] at d0
          have hfn := hrs.fn
          have hon := hrs.rc.len
          have HR2 := Lib.hid (And.intro hbf (And.intro hop hrs))
          clear hbf hop
          by_cases hlt : i < o.length
          · obtain ⟨a9, c9, he, hm9, hidx, hcell, -⟩ := hrs.rc.lst.lst.out1 sIntG
            rw [List.length_map] at he hm9 hidx hcell
            simp only [Value.slice.injEq] at he
            obtain ⟨rfl, -, rfl⟩ := he
            have hci := hcell i hlt
            rw [show nth (o.map fun x : Nat => (x : Int)) i = ((nth o i : Nat) : Int) by rw [nth_eq _ _ (by rw [List.length_map]; exact hlt), nth_eq _ _ hlt, List.getElem_map]] at hci
            have hii := hidx .i64 (i : Int) (by omega) (by omega)
            rw [Int.toNat_natCast] at hii
            have hil : (i : Int) < (o.length : Int) := by omega
            clear hrs hidx hcell
            go_upto_region 15 with fail
            refine wp_region_tail 5 (by kernel_rfl) (by kernel_rfl) ?_
            intro w2 hw2
            subst hw2
            simp only [List.take_succ_cons, List.take_zero, List.drop_succ_cons, List.drop_zero]
            repeat still_step
            refine wpStill_nil ?_
            have hsu : ∀ Z, Calls Try.prog 56 #[.agg #[.int .i64 n, .slice ca g.es.length cc], .int .i64 ((nth o i : Nat) : Int)] Z fun e W' => e = .returned (.func (.func 70) #[] #[.pointer (some ⟨Z.heap.size, 0, none⟩), .pointer (some ⟨Z.heap.size + 1, 0, none⟩)]) ∧ W' = (Z.alloc (.cells #[.int .i64 n, .slice ca g.es.length cc] 24)).alloc (.cells #[.int .i64 ((nth o i : Nat) : Int)] 3) := fun Z => by have h1 := succ_any g (.slice ca g.es.length cc) (nth o i : Nat) Z; unfold GV at h1; rw [HV.out.2.1] at h1; exact h1
            have HSU := Lib.hid hsu
            clear hsu
            go_wp2_with (go_at_call 56; refine (HSU.out _).mono ?_; rintro e w' ⟨rfl, hw⟩; rw [hw]; clear hw w')
            have hbz : Below wr.heap.size wr ((wr.alloc (.cells #[.int .i64 (n : Int), .slice ca g.es.length cc] 24)).alloc (.cells #[.int .i64 ((nth o i : Nat) : Int)] 3)).drew := (((Below.refl wr.heap.size wr).alloc (Nat.le_refl _) _).alloc (by rw [World.size_alloc]; omega) _).drew
            have hpw := H1.out.1.below HR2.out.2.2.bel
            have hrd := (RdS.new (v := nth o i) hpw).below ((Below.refl _ _).drew)
            rw [HV.out.2.1] at hrd
            have hsz3 : (((wr.alloc (.cells #[.int .i64 (n : Int), .slice ca g.es.length cc] 24)).alloc (.cells #[.int .i64 ((nth o i : Nat) : Int)] 3)).drew).heap.size = wr.heap.size + 2 := by
              show ((wr.alloc (.cells #[.int .i64 (n : Int), .slice ca g.es.length cc] 24)).alloc (.cells #[.int .i64 ((nth o i : Nat) : Int)] 3)).heap.size = _
              rw [World.size_alloc, World.size_alloc]
            have hbvz := HR2.out.2.2.rc.ne.2.2.2.2.2.2
            have hDs : ∀ D ∈ Ds, D < wr.heap.size := fun D hD => (Array.getElem?_eq_some_iff.1 (HR2.out.2.1.op D hD).2).1
            have hovz : ∀ k, (Value.slice os o.length oc).ownBlock = some k → k < wr.heap.size := fun k e => (HR2.out.2.2.rc.lst.lt k e).2
            have hP := And.intro (HR2.out.2.2.grown HSB.out (grownBy_below hbz) (by simp)) (And.intro (HR2.out.2.1.grown (grownBy_below hbz) (by simp)) (And.intro (hpw.below hbz) (And.intro hrd hsz3)))
            refine gen_code (fun Z => RS W1 bv n cap s o (.slice os o.length oc) Z ∧ OpenM (bv + 1 + 1 + 1) Ds Z ∧ Pairs Z (.slice ca g.es.length cc) g.es ∧ RdS g (nth o i) wr.heap.size (wr.heap.size + 1) ca cc Z ∧ Z.heap.size = wr.heap.size + 2) hP ?_
            intro Z3 hz3
            have H3 := Lib.hid (And.intro hz3 (And.intro hbvz (And.intro hDs hovz)))
            have HBF := Lib.hid HR2.out.1
            clear hP hz3 hbz hpw hrd hsz3 hbvz hDs hovz l1 d0 d1 hfn hh HR2 hci hii HSU
            generalize hzz : wr.heap.size = z at *
            clear hzz
            refine (wpIn_wide (n := 5)).1 ?_
            refine wpIn_rangeFunc_ownG rfl (by omega) (gf := 70) (lb := #[.pointer (some ⟨z, 0, none⟩), .pointer (some ⟨z + 1, 0, none⟩)]) rfl trivial (enters_of Try.func70 (by kernel_rfl) rfl)
              (suc_stops g HV.out.1 (nth o i) z (z + 1) ca cc _ 4 (by omega) H3.out.1.2.2.1 H3.out.1.2.2.2.1) (fun h k => h.trans k) ?hKb (Below.refl _ _) (fun _ => rfl)
              (fun pre Z => ∃ ov', RS W1 bv n cap s ((vals pre).foldl vst o) ov' Z ∧ OpenM (bv + 1 + 1 + 1) Ds Z ∧ (∀ k, ov'.ownBlock = some k → k ≠ z ∧ k ≠ z + 1) ∧ z + 2 ≤ Z.heap.size) (fun _ _ _ => False)
              ?own (fun _ _ _ _ _ hs _ _ => hs) ⟨_, H3.out.1.1, H3.out.1.2.1, fun k e => by have := H3.out.2.2.2 k e; omega, by have := H3.out.1.2.2.2.2; omega⟩ ?a1 ?assign ?body ?done ?stop
            case hKb =>
              intro Z l' o' o'' hlz hlo ho hwk
              have hbc : bcOf g ca z < z + 1 := bcOf_lt (H1.out.1) (by have := H3.out.2.1; omega) (by omega)
              rw [H3.out.1.2.2.2.2] at hlz
              exact KpS.grown (grownBy_putObj' Z l' o'') (fun k e => by have e2 := Option.some.inj e; omega)
            case own =>
              rintro pre A B row ⟨ov', h1, h2, h3, h4⟩ hg hr
              rw [H3.out.1.2.2.2.2] at hr
              have hz := H3.out.2.1
              refine ⟨ov', h1.grown HSB.out hg (fun k e => ⟨by have := (hr k e).1; omega, fun e2 => ?_⟩), h2.grown hg (fun k e hm => by have := (hr k e).1; have := H3.out.2.2.1 k hm; omega), h3, Nat.le_trans h4 hg.size⟩
              obtain ⟨-, ob, ho1, ho2⟩ := hr k e
              rw [own_isCells h1.rc.lst e2 ho1] at ho2
              cases ho2
            case assign =>
              intro l' x Z K hK
              gi_wp2
              exact hK
            case body =>
              rintro l' pre x Z ⟨ov', h1, h2, h3, h4⟩ hlt'
              have hx : x.1 < n := by have h9 := x.2; have e9 := HV.out.2.1; omega
              have hvi := visit_any bv (bv + 1) W1.heap.size (bv + 1 + 1 + 1) n cap s _ ov' x.1 Z h1.rc hx hn8 h1.rc.len
              have HVI := Lib.hid hvi
              have hfz := h1.fn
              have HI := Lib.hid (And.intro h1 (And.intro h2 (And.intro h3 h4)))
              clear hvi h1 h2 h3 h4 hx hlt'
              gi_wp2_with (refine ⟨trivial, ?_⟩; gi_at_call 55; refine (CallsIn.inRound l' (callsIn_wide.2 HVI.out)).mono ?_; rintro e w' ⟨rfl, ov'', r1, r2⟩; have HR := Lib.hid (And.intro (HI.out.1.step HSB.out r1 r2) r2); clear r1 r2)
              obtain ⟨k1, k2⟩ := HR.out
              obtain ⟨i1, i2, i3, i4⟩ := HI.out
              have hbo := bcOf_or (bg := z) H1.out.1
              have hz9 := H3.out.2.1
              have hzz := H3.out.1.2.2.2.2
              refine ⟨k2.oth.from _, fun k hk hkl => ?_, ov'', ?_, ?_, fun k e => ?_, ?_⟩
              · have hbs1 := i1.rc.ne
                refine k2.blk k hkl ?_ (fun e => ?_) (fun e => ?_)
                · omega
                · have := HSB.out k e; have := (i1.rc.row.lt k e).1; omega
                · have := i3 k e; have := (i1.rc.lst.lt k e).1; omega
              · rw [vals_snoc, List.foldl_append]; exact k1
              · exact i2.kept fun D hD => by rw [k2.oth.same D _ (i2.op D hD).2 rfl, (i2.op D hD).2]
              · rcases k2.at_ with e2 | e2
                · rw [e2] at e; exact i3 k e
                · have := e2 k e; omega
              · exact Nat.le_trans i4 k2.oth.size
            case done =>
              rintro D ys Z hD hys ⟨ov', h1, h2, h3, h4⟩ hK
              rw [hys] at h1
              have hz9 := H3.out.2.1
              rw [H3.out.1.2.2.2.2] at hD
              have hop : OpenM (bv + 1 + 1 + 1) (D :: Ds) Z := h2.cons (by omega) (fun hm => by have := H3.out.2.2.1 D hm; omega) hK
              have hle := vstl_len (suc g.es (nth o i)) o
              obtain ⟨kk, rfl⟩ : ∃ kk, gk = kk + 1 := ⟨gk - 1, by omega⟩
              have hb2 : bfsG g.es kk (i + 1) ((suc g.es (nth o i)).foldl vst o) = bfsG g.es (n + 1) 0 o0 := by
                rw [← HBF.out]
                conv => rhs; unfold bfsG
                rw [if_pos hlt]
              have HE := Lib.hid (And.intro hb2 (And.intro hop h1))
              clear hb2 hop h1 h2 h3 h4 hK hys
              go_wp2_with fail
              (refine Handed.intro (kk) ?measure ?_; rotate_left; go_step; refine InvD.intro (D :: Ds) ?_; dsimp only [FrE, slot]; (repeat apply Exists.intro); refine ⟨?rel, rfl⟩; try dsimp only)
              case rel => exact ⟨i + 1, _, by go_num, by omega, by omega, HE.out.1, HE.out.2.1, _, HE.out.2.2⟩
              case measure => omega
            case stop =>
              rintro D c pre Z _ _ h _
              exact h.elim
          · obtain rfl : i = o.length := by omega
            have hL : o = bfsG g.es (n + 1) 0 o0 := by
              rw [← HR2.out.1]
              cases gk with
              | zero => rfl
              | succ kk => unfold bfsG; rw [if_neg (Nat.lt_irrefl _)]
            have HL := Lib.hid hL
            have hof := Of_any _ _ wr hrs.rc.lst.lst
            have HOF := Lib.hid hof
            have hval : (o.map fun x : Nat => (x : Int)).all valB = true := by
              rw [List.all_eq_true]
              intro y hy
              obtain ⟨x, hx, rfl⟩ := List.mem_map.1 hy
              have := hrs.rc.mem x hx
              simp [valB]; omega
            have HVL := Lib.hid hval
            clear hL hof hval hrs d0 d1 hfn hh hlt hi
            go_wp2_with (go_at_call 57; refine HOF.out.mono ?_; rintro e w4 (⟨q0', -⟩ | ⟨-, v4, r4, rfl, q1, q2, q3, q4, q5, q6⟩); (rw [HVL.out] at q0'; cases q0'); have HF := Lib.hid (And.intro q1 (And.intro q2 (And.intro q4 (And.intro q5 q6)))); clear q1 q2 q3 q4 q5 q6)
            refine (List_any _ r4 w4 HF.out.1.1 HF.out.2.1 (by have := HF.out.2.2.1; omega)).mono ?_
            rintro e w5 ⟨v5, rfl, s1, s2⟩
            obtain ⟨a5, c5, rfl⟩ := s1.shape (n := (els r4).length) rfl
            have HG := Lib.hid (And.intro s1 s2)
            clear s1 s2
            go_wp2_with fail
            have hf5 := HF.out
            have hg5 := HG.out
            have ho4 := (HR2.out.2.1.grown (grownBy_below hf5.2.2.2.2) (by simp)).grown (grownBy_below hg5.2) (by simp)
            have hbe : Below bs W w5 := ((H1.out.2.1.trans (HR2.out.2.2.bel.mono (Nat.le_of_lt n1))).trans (hf5.2.2.2.2.mono (by have := HR2.out.2.2.bel.size; omega))).trans (hg5.2.mono (by have := HR2.out.2.2.bel.size; have := hf5.2.2.2.2.size; omega))
            have hbsb : bs ≤ bv + 1 + 1 + 1 := by have := HR2.out.2.2.rc.ne; omega
            obtain ⟨f1, f2⟩ := shut_inv (B := bv + 1 + 1 + 1) (p := fun X => OwnI X w4.heap.size 3 (.slice a5 (els r4).length c5) (els r4) ∧ Below bs W X) (fun X D hD hX hp => ⟨hp.1.grown (grownBy_putObj' X D (.deferred none)) (own_ne_obj hp.1 hX rfl), hp.2.grown (grownBy_putObj' X D (.deferred none)) (by rw [← HBS.out]; exact hp.2.size) (fun k e => by have e2 := Option.some.inj e; omega)⟩) ho4 ⟨hg5.1, hbe⟩
            refine leaves_marks ho4 ⟨_, results_tmp rfl _ _ _, a5, c5, els r4, rfl, f1.lst, by rw [HBS.out]; exact f2, .inr ⟨HV.out.2.2, els_asc r4, fun y => ?_⟩⟩
            have hre : reachL g l = o := by unfold reachL; rw [HV.out.2.1, Int.toNat_natCast, ← HO0.out, ← HL.out]
            rw [mem_els, hre]
            constructor
            · rintro ⟨m, rfl, hm⟩
              rw [hf5.2.2.2.1, decide_eq_true_eq, List.mem_map] at hm
              obtain ⟨x, hx, e⟩ := hm
              refine ⟨by omega, ?_⟩
              rw [show ((m : Int)).toNat = x by omega]; exact hx
            · rintro ⟨hy0, hy1⟩
              refine ⟨y.toNat, by omega, ?_⟩
              rw [hf5.2.2.2.1, decide_eq_true_eq, List.mem_map]
              exact ⟨y.toNat, hy1, rfl⟩
  · have hz : (gCode g != 0) = true := by simpa using hc
    have HN := Lib.hid hc
    clear hc
    go_wp2_with fail
    exact ⟨_, results_tmp rfl _ _ _, none, 0, [], rfl, Lst.nil _ _, by rw [HBS.out]; exact H1.out.2.1, .inl ⟨HN.out, rfl⟩⟩
end Go.Proofs.Ytchmjgjagaaomaa

/- Plain: what the queue reaches. -/
namespace Go.Gra
open Go.Dfl (nth nth_mem mem_nth nth_eq nth_ext)
/-- b is reached from a. -/
inductive Rch (es : List (Int × Int)) : Nat → Nat → Prop
  | refl (a : Nat) : Rch es a a
  | step {a b c : Nat} : Rch es a b → c ∈ suc es b → Rch es a c
theorem mem_vst {o : List Nat} {x y : Nat} : y ∈ vst o x ↔ y ∈ o ∨ y = x := by
  unfold vst
  split
  · rename_i h
    constructor
    · exact .inl
    · rintro (h1 | rfl)
      · exact h1
      · exact h
  · simp
theorem mem_vstl : ∀ {l o : List Nat} {y : Nat}, y ∈ l.foldl vst o ↔ y ∈ o ∨ y ∈ l
  | [], o, y => by simp
  | x :: l, o, y => by
    rw [List.foldl_cons, mem_vstl, mem_vst, List.mem_cons, or_assoc]
theorem vst_nodup {o : List Nat} (h : o.Nodup) (x : Nat) : (vst o x).Nodup := by
  unfold vst
  split
  · exact h
  · rename_i hx
    rw [List.nodup_append]
    exact ⟨h, by simp, fun a ha b hb e => by rw [List.mem_singleton.1 hb] at e; exact hx (e ▸ ha)⟩
theorem vstl_nodup : ∀ {l o : List Nat}, o.Nodup → (l.foldl vst o).Nodup
  | [], _, h => h
  | x :: l, o, h => by rw [List.foldl_cons]; exact vstl_nodup (l := l) (vst_nodup h x)
theorem vst_nth {o : List Nat} {x j : Nat} (h : j < o.length) : nth (vst o x) j = nth o j := by
  unfold vst
  split
  · rfl
  · rw [nth_eq _ _ (by rw [List.length_append]; omega), nth_eq _ _ h, List.getElem_append_left h]
theorem vstl_nth : ∀ {l o : List Nat} {j : Nat}, j < o.length → nth (l.foldl vst o) j = nth o j
  | [], _, _, _ => rfl
  | x :: l, o, j, h => by rw [List.foldl_cons, vstl_nth (Nat.lt_of_lt_of_le h (vst_len o x)), vst_nth h]
theorem suc_node {g : G} (h : VG g) {a y : Nat} (hy : y ∈ suc g.es a) : y < g.n.toNat := by
  obtain ⟨e, he, -, rfl⟩ := mem_suc.1 hy
  have := h.inn e he
  omega
theorem bfs_spec {g : G} (h : VG g) : ∀ (k i : Nat) (o : List Nat), o.Nodup → (∀ x ∈ o, x < g.n.toNat) → i ≤ o.length → k + i = g.n.toNat + 1 → (∀ j, j < i → ∀ y ∈ suc g.es (nth o j), y ∈ o) →
    (∀ x ∈ o, x ∈ bfsG g.es k i o) ∧ (∀ x ∈ bfsG g.es k i o, ∀ y ∈ suc g.es x, y ∈ bfsG g.es k i o) ∧ (∀ x ∈ bfsG g.es k i o, ∃ z ∈ o, Rch g.es z x) ∧ (bfsG g.es k i o).Nodup ∧ ∀ x ∈ bfsG g.es k i o, x < g.n.toNat
  | 0, i, o, hd, hm, hi, hk, _ => by
    have := nodup_len _ o hd hm
    omega
  | k + 1, i, o, hd, hm, hi, hk, hp => by
    unfold bfsG
    by_cases hlt : i < o.length
    · rw [if_pos hlt]
      have hle := vstl_len (suc g.es (nth o i)) o
      obtain ⟨h1, h2, h3, h4, h5⟩ := bfs_spec h k (i + 1) ((suc g.es (nth o i)).foldl vst o) (vstl_nodup hd) (fun x hx => by
        rcases mem_vstl.1 hx with h1 | h1
        · exact hm x h1
        · exact suc_node h h1) (by omega) (by omega) (fun j hj y hy => by
        rw [vstl_nth (by omega)] at hy
        by_cases e : j = i
        · subst e; exact mem_vstl.2 (.inr hy)
        · exact mem_vstl.2 (.inl (hp j (by omega) y hy)))
      refine ⟨fun x hx => h1 x (mem_vstl.2 (.inl hx)), h2, fun x hx => ?_, h4, h5⟩
      obtain ⟨z, hz, hr⟩ := h3 x hx
      rcases mem_vstl.1 hz with h6 | h6
      · exact ⟨z, h6, hr⟩
      · refine ⟨nth o i, nth_mem _ _ hlt, ?_⟩
        clear hx h1 h2 h3 h4 h5
        induction hr with
        | refl => exact (Rch.refl _).step h6
        | step _ h8 ih => exact ih.step h8
    · rw [if_neg hlt]
      obtain rfl : i = o.length := by omega
      refine ⟨fun x hx => hx, fun x hx y hy => ?_, fun x hx => ⟨x, hx, .refl x⟩, hd, hm⟩
      obtain ⟨j, hj, rfl⟩ := mem_nth hx
      exact hp j hj y hy
theorem mem_fold0 {n : Int} : ∀ {l : List Int} {o : List Nat} {y : Nat}, y ∈ l.foldl (fun o v => if nodeB n v then vst o v.toNat else o) o ↔ y ∈ o ∨ ∃ v ∈ l, nodeB n v = true ∧ v.toNat = y
  | [], o, y => by simp
  | v :: l, o, y => by
    rw [List.foldl_cons, mem_fold0]
    by_cases hv : nodeB n v = true
    · rw [if_pos hv, mem_vst]
      constructor
      · rintro ((h1 | rfl) | ⟨u, h1, h2⟩)
        · exact .inl h1
        · exact .inr ⟨v, by simp, hv, rfl⟩
        · exact .inr ⟨u, List.mem_cons_of_mem _ h1, h2⟩
      · rintro (h1 | ⟨u, h1, h2, h3⟩)
        · exact .inl (.inl h1)
        · rcases List.mem_cons.1 h1 with rfl | h1
          · exact .inl (.inr h3.symm)
          · exact .inr ⟨u, h1, h2, h3⟩
    · rw [if_neg hv]
      constructor
      · rintro (h1 | ⟨u, h1, h2⟩)
        · exact .inl h1
        · exact .inr ⟨u, List.mem_cons_of_mem _ h1, h2⟩
      · rintro (h1 | ⟨u, h1, h2, h3⟩)
        · exact .inl h1
        · rcases List.mem_cons.1 h1 with rfl | h1
          · exact absurd h2 hv
          · exact .inr ⟨u, h1, h2, h3⟩
theorem fold0_nodup {n : Int} : ∀ {l : List Int} {o : List Nat}, o.Nodup → (l.foldl (fun o v => if nodeB n v then vst o v.toNat else o) o).Nodup
  | [], _, h => h
  | v :: l, o, h => by
    rw [List.foldl_cons]
    split
    · exact fold0_nodup (vst_nodup h _)
    · exact fold0_nodup h
/-- What Reach reaches. -/
theorem mem_reachL {g : G} (h : VG g) {l : List Int} {y : Nat} : y ∈ reachL g l ↔ ∃ v ∈ l, nodeB g.n v = true ∧ Rch g.es v.toNat y := by
  have hm : ∀ x ∈ fold0 g.n l, x < g.n.toNat := fun x hx => by
    rcases mem_fold0.1 hx with h1 | ⟨v, -, h2, rfl⟩
    · simp at h1
    · have := nodeB_iff.1 h2; omega
  obtain ⟨h1, h2, h3, -, -⟩ := bfs_spec h (g.n.toNat + 1) 0 (fold0 g.n l) (fold0_nodup List.nodup_nil) hm (by omega) (by omega) (fun j hj => by omega)
  constructor
  · intro hy
    obtain ⟨z, hz, hr⟩ := h3 y hy
    rcases mem_fold0.1 hz with h4 | ⟨v, hv, h5, rfl⟩
    · simp at h4
    · exact ⟨v, hv, h5, hr⟩
  · rintro ⟨v, hv, h4, hr⟩
    have h0 : v.toNat ∈ reachL g l := h1 _ (mem_fold0.2 (.inr ⟨v, hv, h4, rfl⟩))
    generalize v.toNat = a at hr h0
    induction hr with
    | refl => exact h0
    | step _ h8 ih => exact h2 _ ih _ h8
end Go.Gra
