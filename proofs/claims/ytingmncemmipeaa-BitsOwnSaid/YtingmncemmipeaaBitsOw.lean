/- BitsOwn: for any two sets, writing into a result changes no argument. Conditions: none. -/
import Derived.Test.YtingmncemmipeaaBitsCh
import Derived.Test.YtingmncemmipeaaRow
import Derived.Test.YtingmncemmipeaaMix
namespace Go.Dfl
theorem wp_gen {P : Program} {c : Code} {Q : Exit → Act → World → Prop} {a : Act} {w : World} (p : World → Prop) (hw : p w) (h : ∀ W, p W → Code.wp P c Q a W) : Code.wp P c Q a w := h w hw
end Go.Dfl
namespace Go.Proofs.Ytingmncemmipeaa
open Go.ChangeShapes Go.WideShapes Go.ChangeAt Go.RowKit Go.Deep Go.Dfl

/-- A slice of words that may be written, from block Bp on. -/
def Wr (Bp : Nat) (W : World) (v : Value) : Prop :=
  ∃ a n c, v = .slice a n c ∧ n ≤ 4096 ∧ ∀ k, k < n → a = some ⟨blk a, ofs a, none⟩ ∧ Bp ≤ blk a ∧ blk a < W.heap.size ∧ W.frozen? ⟨blk a, ofs a + k, none⟩ = false ∧ ∃ x : Nat, W64 x ∧ W.cell? ⟨blk a, ofs a + k, none⟩ = some (.int .u64 (x : Int))

theorem Wr.below {Bp : Nat} {W W' : World} {v : Value} (h : Wr Bp W v) (hb : Below W.heap.size W W') : Wr Bp W' v := by
  obtain ⟨a, n, c, rfl, h1, h2⟩ := h
  refine ⟨a, n, c, rfl, h1, fun k hk => ?_⟩
  obtain ⟨g1, g2, g3, g4, x, g5, g6⟩ := h2 k hk
  exact ⟨g1, g2, Nat.lt_of_lt_of_le g3 hb.size, by rw [hb.frozen (p := ⟨blk a, ofs a + k, none⟩) g3]; exact g4, x, g5, by rw [hb.cell (p := ⟨blk a, ofs a + k, none⟩) g3]; exact g6⟩
theorem Wr.set {Bp : Nat} {W : World} {v : Value} (h : Wr Bp W v) (p : Addr) (y : Nat) (hy : W64 y) : Wr Bp (W.setCell p (.int .u64 (y : Int))) v := by
  obtain ⟨a, n, c, rfl, h1, h2⟩ := h
  refine ⟨a, n, c, rfl, h1, fun k hk => ?_⟩
  obtain ⟨g1, g2, g3, g4, x, g5, g6⟩ := h2 k hk
  refine ⟨g1, g2, by simpa using g3, by rw [World.frozen?_setCell]; exact g4, ?_⟩
  by_cases e : p = ⟨blk a, ofs a + k, none⟩
  · subst e; exact ⟨y, hy, World.cell?_setCell_same' _ _ _ (by rw [g6]; rfl)⟩
  · exact ⟨x, g5, by rw [World.cell?_setCell_other _ _ _ _ e]; exact g6⟩
theorem Fresh.wr {W : World} {base Bp : Nat} {v : Value} {r : List Nat} (h : Fresh W base v r) (hW : Wds r) (hl : r.length ≤ 4096) (hb : Bp ≤ base) : Wr Bp W v := by
  obtain ⟨hw, hf⟩ := h
  obtain ⟨a, cap, rfl, h1, h2, h3⟩ := hw
  refine ⟨a, _, cap, rfl, hl, fun k hk => ?_⟩
  obtain ⟨g1, g2, g3⟩ := h3 k hk
  obtain ⟨f1, f2⟩ := hf a _ cap rfl (by omega)
  exact ⟨g1, by omega, g2, f2 _, nth r k, hW k, by simpa [wv] using g3 0 (by omega)⟩
theorem Wr.nil (Bp : Nat) (W : World) : Wr Bp W (.slice none 0 0) := ⟨none, 0, 0, rfl, by omega, fun k hk => by omega⟩

theorem Wr.grown {Bp : Nat} {W W' : World} {v : Value} {row : Option Nat} (h : Wr Bp W v) (hg : W.grownBy W' row) (hne : ∀ a n c, v = .slice a n c → 0 < n → some (blk a) ≠ row) : Wr Bp W' v := by
  obtain ⟨a, n, c, rfl, h1, h2⟩ := h
  refine ⟨a, n, c, rfl, h1, fun k hk => ?_⟩
  obtain ⟨g1, g2, g3, g4, x, g5, g6⟩ := h2 k hk
  have hb := hg.block (blk a) g3 (hne a n c rfl (by omega))
  exact ⟨g1, g2, Nat.lt_of_lt_of_le g3 hg.size, by rw [World.frozen?_of_block (a := ⟨blk a, ofs a + k, none⟩) hb]; exact g4, x, g5, by rw [World.cell?_of_block (a := ⟨blk a, ofs a + k, none⟩) hb]; exact g6⟩
theorem Wr.lt {Bp : Nat} {W : World} {v : Value} (h : Wr Bp W v) {a : Option Addr} {n c : Nat} (hv : v = .slice a n c) (hn : 0 < n) : Bp ≤ blk a ∧ blk a < W.heap.size := by
  obtain ⟨a', n', c', rfl, h1, h2⟩ := h
  simp at hv
  obtain ⟨rfl, rfl, rfl⟩ := hv
  exact ⟨(h2 0 hn).2.1, (h2 0 hn).2.2.1⟩
theorem Wr.mono {Bp Bq : Nat} {W : World} {v : Value} (h : Wr Bp W v) (hb : Bq ≤ Bp) : Wr Bq W v := by
  obtain ⟨a, n, c, rfl, h1, h2⟩ := h
  refine ⟨a, n, c, rfl, h1, fun k hk => ?_⟩
  obtain ⟨g1, g2, g3⟩ := h2 k hk
  exact ⟨g1, by omega, g3⟩

/-- The results, and the list of them. -/
structure OwInv (Wp : World) (vo : Value) (vs : List Value) (W : World) : Prop where
  out : Own (fun x : Value => x) W Wp.heap.size 25 vo vs
  wr : ∀ i, i < vs.length → Wr Wp.heap.size W (nth vs i)
  ap : ∀ i, i < vs.length → ∀ a n c, nth vs i = .slice a n c → 0 < n → vo.ownBlock ≠ some (blk a)
  bel : Below Wp.heap.size Wp W

theorem ow_make {Wp W4 W5 W6 : World} {o4 o5 : Obj} {v1 v2 v3 v4 v5 vo : Value} (h1 : Wr Wp.heap.size W4 v1) (h2 : Wr Wp.heap.size W4 v2) (h3 : Wr Wp.heap.size W4 v3) (h4 : Wr Wp.heap.size W4 v4) (h5 : Wr (W4.heap.size + 1) W5 v5) (hp : Wp.heap.size ≤ W4.heap.size)
    (hb5 : Below (W4.heap.size + 1) (W4.alloc o4) W5) (hbp : Below Wp.heap.size Wp W5) (ho : Own (fun x : Value => x) W6 Wp.heap.size 25 vo ([v1, v2, v3, v4] ++ [v5])) (hg : (W5.alloc o5).grownBy W6 (some W4.heap.size)) (hl : vo.ownBlock = some W4.heap.size ∨ vo.ownBlock = some (W5.alloc o5).heap.size) :
    OwInv Wp vo [v1, v2, v3, v4, v5] W6 := by
  have hz : W4.heap.size + 1 ≤ W5.heap.size := by have := hb5.size; simpa using this
  have old : ∀ v, Wr Wp.heap.size W4 v → Wr Wp.heap.size W6 v ∧ ∀ a n c, v = .slice a n c → 0 < n → vo.ownBlock ≠ some (blk a) := by
    intro v h
    have hlt := fun a n c (hv : v = .slice a n c) (hn : 0 < n) => (h.lt hv hn).2
    refine ⟨?_, fun a n c hv hn => ?_⟩
    · have ha := h.grown (grownBy_alloc _ o4) (by simp)
      have hb := ha.below (W' := W5) (by simpa using hb5)
      exact (hb.grown (grownBy_alloc _ o5) (by simp)).grown hg fun a n c hv hn => by have := hlt a n c hv hn; simp; omega
    · have := hlt a n c hv hn
      rcases hl with e | e <;> rw [e] <;> simp <;> omega
  have n5 : Wr Wp.heap.size W6 v5 ∧ ∀ a n c, v5 = .slice a n c → 0 < n → vo.ownBlock ≠ some (blk a) := by
    have hlt := fun a n c (hv : v5 = .slice a n c) (hn : 0 < n) => h5.lt hv hn
    refine ⟨(((h5.mono (by omega)).grown (grownBy_alloc _ o5) (by simp)).grown hg fun a n c hv hn => by have := hlt a n c hv hn; simp; omega), fun a n c hv hn => ?_⟩
    have := hlt a n c hv hn
    rcases hl with e | e <;> rw [e] <;> simp <;> omega
  have all : ∀ i, i < 5 → Wr Wp.heap.size W6 (nth [v1, v2, v3, v4, v5] i) ∧ ∀ a n c, nth [v1, v2, v3, v4, v5] i = .slice a n c → 0 < n → vo.ownBlock ≠ some (blk a) := by
    intro i hi
    rcases (by omega : i = 0 ∨ i = 1 ∨ i = 2 ∨ i = 3 ∨ i = 4) with rfl | rfl | rfl | rfl | rfl
    · exact old v1 h1
    · exact old v2 h2
    · exact old v3 h3
    · exact old v4 h4
    · exact n5
  refine ⟨ho, fun i hi => (all i hi).1, fun i hi => (all i hi).2, ?_⟩
  exact (hbp.alloc hbp.size _).grown hg (by have := hbp.size; simp; omega) fun k hk => by simp at hk; omega

theorem OwInv.set {Wp W : World} {vo : Value} {vs : List Value} (h : OwInv Wp vo vs W) {i k : Nat} (hi : i < vs.length) {a : Option Addr} {n c : Nat} (hv : nth vs i = .slice a n c) (hk : k < n) (hB : Wp.heap.size ≤ blk a) (y : Nat) (hy : W64 y) :
    OwInv Wp vo vs (W.setCell ⟨blk a, ofs a + k, none⟩ (.int .u64 (y : Int))) :=
  ⟨h.out.setOther (h.ap i hi a n c hv (by omega)) _, fun j hj => (h.wr j hj).set _ y hy, h.ap, h.bel.setCell hB _⟩
theorem OwInv.qt {Wp W W' : World} {vo : Value} {vs : List Value} (h : OwInv Wp vo vs W) (hq : Qt W W') : OwInv Wp vo vs W' :=
  ⟨h.out.qt hq, fun j hj => (h.wr j hj).below (hq.below _), h.ap, h.bel.trans (hq.below _)⟩



theorem xor_max (x : Nat) : ∃ y : Nat, W64 y ∧ bits BinOp.xor IntKind.u64 IntKind.u64.max (x : Int) = (y : Int) := by
  have h : bits BinOp.xor IntKind.u64 IntKind.u64.max (x : Int) = IntKind.u64.wrap ((BitVec.ofInt 64 IntKind.u64.max ^^^ BitVec.ofInt 64 (x : Int)).toNat : Int) := rfl
  rw [h, IntKind.wrap_u64]
  generalize ((BitVec.ofInt 64 IntKind.u64.max ^^^ BitVec.ofInt 64 (x : Int)).toNat) = m
  exact ⟨m % 18446744073709551616, Nat.mod_lt _ (by omega), by omega⟩

theorem sRowsU : SliceOf Try.prog 53 25 (.slice none 0 0) 1 24 := ⟨Try.underlying53, info_parts (P := Try.prog) (e := 25) (by kernel_rfl)⟩

set_option maxHeartbeats 6400000 in
set_option maxRecDepth 100000 in
theorem BitsOwn_walk (v : Value) (a : List Nat) (u : Value) (b : List Nat) (x : Int) (w : World) (hA : Words w v a) (ha : Wds a) (hB : Words w u b) (hb : Wds b) (hx : -9223372036854775808 ≤ x ∧ x ≤ 9223372036854775807) :
    Calls Try.prog 9 #[v, u, .int .i64 x] w (TruePost w) := by
  obtain ⟨pa, ca, rfl, hm, -⟩ := hA.out1 sBits
  obtain ⟨pb, cb, rfl, hm', -⟩ := hB.out1 sBits
  have HX := Lib.hid (And.intro ha hb)
  have HI := Lib.hid (And.intro hA hB)
  clear ha hb hA hB
  by_cases hl1 : 1100 < a.length
  · go_enter Try.func9, Try.ntmps9
    go_wp2_with fail
    refine (awake_any _).mono ?_; rintro e w5 ⟨rfl, b5⟩
    go_wp2_with fail
    go_ret
    exact ⟨rfl, b5⟩
  have hd1 : decide (1100 < a.length) = false := by simpa using hl1
  by_cases hl2 : 1100 < b.length
  · go_enter Try.func9, Try.ntmps9
    go_wp2_with fail
    refine (awake_any _).mono ?_; rintro e w5 ⟨rfl, b5⟩
    go_wp2_with fail
    go_ret
    exact ⟨rfl, b5⟩
  have hd2 : decide (1100 < b.length) = false := by simpa using hl2
  go_enter Try.func9, Try.ntmps9
  go_wp2_with (first
    | (at_builtin; refine wp_appendS (f := wv) sBits rfl rfl (.tmp 23) (.tmp 24) rfl w.heap.size (.slice (some ⟨w.heap.size, 0, none⟩) 0 0) [] rfl (.slice pa a.length ca) a rfl (own_empty _ rfl (Nat.le_refl _)) ((HI.out.1.below ((Below.refl _ _).alloc (Nat.le_refl _) _)).src) (fun _ _ => rfl) (by simp; omega) (by omega) (by simp) ?_; intro v25 w25 o25 g25 l25; have h25 : Below w.heap.size w w25 := ((Below.refl _ _).alloc (Nat.le_refl _) _).trans (((Below.refl _ _).grown g25 (by simp) (fun k hk => by have := Option.some.inj hk; simp at this; omega))); have hz25 : w.heap.size + 1 ≤ w25.heap.size := (by have := g25.size; simpa using this); obtain ⟨s25, c25, rfl⟩ := o25.shape (n := a.length) (by simp); clear g25 l25)
    | (at_builtin; refine wp_appendS (f := wv) sBits rfl rfl (.tmp 26) (.tmp 27) rfl w25.heap.size (.slice (some ⟨w25.heap.size, 0, none⟩) 0 0) [] rfl (.slice pb b.length cb) b rfl (own_empty _ rfl (Nat.le_refl _)) ((HI.out.2.below (h25.alloc h25.size _)).src) (fun _ _ => rfl) (by simp; omega) (by omega) (by simp) ?_; intro v28 Wp o28 g28 l28; obtain ⟨s28, c28, rfl⟩ := o28.shape (n := b.length) (by simp)))
  have h28 : Below w25.heap.size w25 Wp := ((Below.refl _ _).alloc (Nat.le_refl _) _).trans (((Below.refl _ _).grown g28 (by simp) (fun k hk => by have := Option.some.inj hk; simp at this; omega)))
  have hp : Words Wp (.slice s25 a.length c25) a := Lst.below (by simpa using o25.lst) h28
  have hq : Words Wp (.slice s28 b.length c28) b := by simpa using o28.lst
  have hWp : Below w.heap.size w Wp := h25.trans (h28.mono h25.size)
  have HP := Lib.hid (And.intro hp (And.intro hq hWp))
  clear hp hq hWp o25 h25 o28 g28 l28 h28 hz25
  have h0 : Below Wp.heap.size Wp Wp := Below.refl _ _
  go_wp2_with fail
  refine (Union_any _ _ a b _ (HP.out.1.below h0) (HP.out.2.1.below h0) HX.out.1 HX.out.2 1100 (by omega) (by omega) (by omega)).mono ?_; rintro e W1 ⟨v1, r1, rfl, f1, d1, -, l1, -, q1⟩
  have h1 : Below Wp.heap.size Wp W1 := h0.trans (q1.mono h0.size)
  obtain ⟨s1, c1, hv1, -⟩ := f1.1.out1 sBits
  subst hv1
  go_wp2_with fail
  refine (Minus_any _ _ a b _ (HP.out.1.below h1) (HP.out.2.1.below h1) HX.out.1 HX.out.2 (by omega)).mono ?_; rintro e W2 ⟨v2, r2, rfl, f2, d2, -, l2, -, q2⟩
  have h2 : Below Wp.heap.size Wp W2 := h1.trans (q2.mono h1.size)
  obtain ⟨s2, c2, hv2, -⟩ := f2.1.out1 sBits
  subst hv2
  go_wp2_with fail
  refine (Both_any _ _ a b _ (HP.out.1.below h2) (HP.out.2.1.below h2) HX.out.1 HX.out.2 1100 (by omega) (by omega)).mono ?_; rintro e W3 ⟨v3, r3, rfl, f3, d3, -, l3, -, q3⟩
  have h3 : Below Wp.heap.size Wp W3 := h2.trans (q3.mono h2.size)
  obtain ⟨s3, c3, hv3, -⟩ := f3.1.out1 sBits
  subst hv3
  go_wp2_with fail
  refine (Without_any _ a x _ (HP.out.1.below h3) HX.out.1 (by omega) hx.2).mono ?_; rintro e W4 ⟨v4, r4, rfl, f4, d4, -, l4, -, q4⟩
  have h4 : Below Wp.heap.size Wp W4 := h3.trans (q4.mono h3.size)
  obtain ⟨s4, c4, hv4, -⟩ := f4.1.out1 sBits
  subst hv4
  go_wp2_with fail
  have h4' : Below Wp.heap.size Wp (W4.alloc (.cells #[.slice s1 r1.length c1, .slice s2 r2.length c2, .slice s3 r3.length c3, .slice s4 r4.length c4] 25)) := h4.alloc h4.size _
  have e1 := ((f1.wr d1 (by omega) (Nat.le_refl _)).mono h0.size)
  have e2 := ((f2.wr d2 (by omega) (Nat.le_refl _)).mono h1.size)
  have e3 := ((f3.wr d3 (by omega) (Nat.le_refl _)).mono h2.size)
  have e4 := ((f4.wr d4 (by omega) (Nat.le_refl _)).mono h3.size)
  have HE := Lib.hid (And.intro (((e1.below q2).below q3).below q4) (And.intro ((e2.below q3).below q4) (And.intro (e3.below q4) e4)))
  clear e1 e2 e3 e4 f1 f2 f3 f4 d1 d2 d3 d4 q1 q2 q3 q4
  refine (With_any _ a x _ (HP.out.1.below h4') HX.out.1 (by omega)).mono ?_
  rintro e W5 (⟨-, rfl, q5⟩ | ⟨-, v5, r5, rfl, f5, d5, -, l5, -, q5⟩)
  · have q5' := q5.below (W4.alloc (.cells #[.slice s1 r1.length c1, .slice s2 r2.length c2, .slice s3 r3.length c3, .slice s4 r4.length c4] 25)).heap.size
    have w5 : Wr (W4.heap.size + 1) W5 (.slice none 0 0) := Wr.nil _ _
    have h5 := h4'.trans (q5'.mono h4'.size)
    have o41 := (World.ownsRow_lit (size := 1) (base := Wp.heap.size) (e := 25) W4 #[.slice s1 r1.length c1, .slice s2 r2.length c2, .slice s3 r3.length c3, .slice s4 r4.length c4] 4 h4.size (by unfold maxLen; omega) rfl)
    have o41' : Own (fun x : Value => x) W5 Wp.heap.size 25 (.slice (some ⟨W4.heap.size, 0, none⟩) 4 4) [.slice s1 r1.length c1, .slice s2 r2.length c2, .slice s3 r3.length c3, .slice s4 r4.length c4] := Own.below (by simpa [Own] using o41) q5'
    have H5 := Lib.hid (And.intro o41' (And.intro h5 (And.intro w5 q5')))
    have hz5 := h5.size
    clear o41 o41' q5' q5 h4' w5
    go_wp2_with (at_builtin; refine wp_appendS (f := fun x : Value => x) sRowsU rfl rfl _ _ rfl Wp.heap.size (.slice (some ⟨W4.heap.size, 0, none⟩) 4 4) _ rfl (.slice (some ⟨W5.heap.size, 0, none⟩) 1 1) [.slice none 0 0] rfl (H5.out.1.alloc _) (src_one _ (cell_at1 rfl)) (by simp [Value.oneCell']) (by simp) (by omega) (le_alloc _ hz5) ?_; intro v51 W6 o51 g51 l51; obtain ⟨s51, c51, rfl⟩ := o51.shape (n := 5) rfl)
    have hO := ow_make HE.out.1 HE.out.2.1 HE.out.2.2.1 HE.out.2.2.2 H5.out.2.2.1 h4.size (by simpa using H5.out.2.2.2) H5.out.2.1 o51 g51 l51
    have HO := Lib.hid hO
    have hvl : ([.slice s1 r1.length c1, .slice s2 r2.length c2, .slice s3 r3.length c3, .slice s4 r4.length c4, .slice none 0 0] : List Value).length = 5 := rfl
    clear o51 g51 l51 hO hz5 H5 HE
    generalize ([.slice s1 r1.length c1, .slice s2 r2.length c2, .slice s3 r3.length c3, .slice s4 r4.length c4, .slice none 0 0] : List Value) = vs at HO hvl
    have HV := Lib.hid hvl
    clear hvl
    go_loopw [12, 13] (fun ci _ wr => ∃ i : Nat, i ≤ 5 ∧ ci = .int .i64 i ∧ Hid (OwInv Wp (.slice s51 5 c51) vs wr)) (fun ci _ _ => 5 - (intOf ci).toNat)
    case atStart => exact ⟨0, by omega, rfl, HO.out⟩
    case round =>
      clear HO
      obtain ⟨i, hi, rfl, hh⟩ := hrel
      by_cases hlt : i < 5
      · have hiv : i < vs.length := by rw [HV.out]; exact hlt
        have hdi : decide ((i : Int) < 5) = true := by simp; omega
        obtain ⟨ai, n, ki, hvi, hn9, -⟩ := hh.out.wr i hiv
        have HVI := Lib.hid (And.intro hvi hiv)
        obtain ⟨a2, c2', he2, hm2, hidx2, -, -⟩ := hh.out.out.lst.out1 sRowsU
        simp only [Value.slice.injEq] at he2
        obtain ⟨rfl, he2, rfl⟩ := he2
        rw [← he2] at hidx2
        have i2 := hidx2 .i64 (i : Int) (by omega) (by omega)
        simp only [Int.toNat_natCast] at i2
        clear hidx2 he2 hm2 hvi hiv
        go_wp2_with fail
        go_loopw [13] (fun ck W => ∃ k : Nat, k ≤ n ∧ ck = .int .i64 k ∧ Hid (OwInv Wp (.slice s51 5 c51) vs W)) (fun ck _ => n - (intOf ck).toNat)
        case atStart => exact ⟨0, by omega, rfl, hh.out⟩
        case round =>
          clear hh
          obtain ⟨k, hk, rfl, hh⟩ := hrel
          have co : wr.cell? ⟨blk s51, ofs s51 + i, none⟩ = some (.slice ai n ki) := by
            obtain ⟨a2, c2', he2, hm2, -, hcell2, -⟩ := hh.out.out.lst.out1 sRowsU
            simp only [Value.slice.injEq] at he2
            obtain ⟨rfl, he2, rfl⟩ := he2
            rw [hcell2 i HVI.out.2, HVI.out.1]
          by_cases hkn : k < n
          · obtain ⟨a4, n4, k4, he4, -, hw4⟩ := hh.out.wr i HVI.out.2
            rw [HVI.out.1] at he4
            simp only [Value.slice.injEq] at he4
            obtain ⟨rfl, rfl, rfl⟩ := he4
            obtain ⟨g1, g2, g3, g4, x0, g5, g6⟩ := hw4 k hkn
            have i3 := fun W => run_indexAt_opt sU64 ai n ki .i64 (k : Int) (by omega) (by omega) g1 W
            simp only [Int.toNat_natCast, Nat.mul_one] at i3
            have HG := Lib.hid (And.intro g2 g5)
            have hsg : IntKind.u64.signed = false := rfl
            obtain ⟨y, hy, hxy⟩ := xor_max x0
            clear g1 g2 g3 g5 hw4
            go_wp2_with fail
            refine wp_region_mix [0, 1, 2, 3, 4, 5, 6, 7, 8, 9, 10, 11, 12, 13] [14] (fun w' => w'.cell? ⟨blk s51, ofs s51 + i, none⟩ = some (.slice ai n ki) ∧ w'.cell? ⟨blk ai, ofs ai + k, none⟩ = some (.int .u64 (x0 : Int))) (by kernel_rfl) (by kernel_rfl) (by kernel_rfl) ⟨co, g6⟩ ?_
            repeat (
              refine wpHeads_cons (v := ?_) rfl (Or.inl ⟨by rfl, ?_⟩) ?_
              rotate_left
              · (intro W hW; go_simp; try with_reducible rfl)
              simp only [Act.put, List.setIfInBounds_toArray, List.set_cons_zero, List.set_cons_succ])
            refine wpHeads_nil ?_
            refine wpTails_one rfl ?_
            go_wp2_with fail
            refine thenQ_mk ?_
            have HS := Lib.hid (((hh.out.set HVI.out.2 HVI.out.1 hkn HG.out.1 y hy).qt (Qt.drew _)))
            clear hh co g4 g6 i3 hxy hsg
            go_wp2_with fail
            go_roundw
            case rel => exact ⟨k + 1, by omega, by go_num, HS.out⟩
            case measure => simp [intOf]; omega
          · go_wp2_with fail
            go_roundw
            case rel => exact ⟨i + 1, by omega, by go_num, hh.out⟩
            case measure => simp [intOf]; omega
      · have HD := Lib.hid (hh.out.bel)
        clear hh
        go_wp2_with fail
        refine (Equal_any _ _ a a _ (HP.out.1.below HD.out) (HI.out.1.below (HP.out.2.2.trans (HD.out.mono HP.out.2.2.size)))).mono ?_; rintro e W7 ⟨rfl, q7⟩
        simp only [decide_true]
        have h7 := HD.out.trans (q7.below _)
        go_wp2_with fail
        refine (Equal_any _ _ b b _ (HP.out.2.1.below h7) (HI.out.2.below (HP.out.2.2.trans (h7.mono HP.out.2.2.size)))).mono ?_; rintro e W8 ⟨rfl, q8⟩
        simp only [decide_true]
        have h8 := HP.out.2.2.trans ((h7.trans (q8.below _)).mono HP.out.2.2.size)
        go_wp2_with fail
        refine (awake_any _).mono ?_; rintro e w5 ⟨rfl, b5⟩
        go_wp2_with fail
        go_ret
        exact ⟨rfl, h8.trans (b5.mono h8.size)⟩
  · have q5' := q5
    have w5 : Wr (W4.heap.size + 1) W5 v5 := f5.wr d5 (by omega) (by simp)
    obtain ⟨s5, c5, hv5, -⟩ := f5.1.out1 sBits
    subst hv5
    have h5 := h4'.trans (q5'.mono h4'.size)
    have o41 := (World.ownsRow_lit (size := 1) (base := Wp.heap.size) (e := 25) W4 #[.slice s1 r1.length c1, .slice s2 r2.length c2, .slice s3 r3.length c3, .slice s4 r4.length c4] 4 h4.size (by unfold maxLen; omega) rfl)
    have o41' : Own (fun x : Value => x) W5 Wp.heap.size 25 (.slice (some ⟨W4.heap.size, 0, none⟩) 4 4) [.slice s1 r1.length c1, .slice s2 r2.length c2, .slice s3 r3.length c3, .slice s4 r4.length c4] := Own.below (by simpa [Own] using o41) q5'
    have H5 := Lib.hid (And.intro o41' (And.intro h5 (And.intro w5 q5')))
    have hz5 := h5.size
    clear o41 o41' q5' q5 h4' w5
    go_wp2_with (at_builtin; refine wp_appendS (f := fun x : Value => x) sRowsU rfl rfl _ _ rfl Wp.heap.size (.slice (some ⟨W4.heap.size, 0, none⟩) 4 4) _ rfl (.slice (some ⟨W5.heap.size, 0, none⟩) 1 1) [.slice s5 r5.length c5] rfl (H5.out.1.alloc _) (src_one _ (cell_at1 rfl)) (by simp [Value.oneCell']) (by simp) (by omega) (le_alloc _ hz5) ?_; intro v51 W6 o51 g51 l51; obtain ⟨s51, c51, rfl⟩ := o51.shape (n := 5) rfl)
    have hO := ow_make HE.out.1 HE.out.2.1 HE.out.2.2.1 HE.out.2.2.2 H5.out.2.2.1 h4.size (by simpa using H5.out.2.2.2) H5.out.2.1 o51 g51 l51
    have HO := Lib.hid hO
    have hvl : ([.slice s1 r1.length c1, .slice s2 r2.length c2, .slice s3 r3.length c3, .slice s4 r4.length c4, .slice s5 r5.length c5] : List Value).length = 5 := rfl
    clear o51 g51 l51 hO hz5 H5 HE
    generalize ([.slice s1 r1.length c1, .slice s2 r2.length c2, .slice s3 r3.length c3, .slice s4 r4.length c4, .slice s5 r5.length c5] : List Value) = vs at HO hvl
    have HV := Lib.hid hvl
    clear hvl
    go_loopw [12, 13] (fun ci _ wr => ∃ i : Nat, i ≤ 5 ∧ ci = .int .i64 i ∧ Hid (OwInv Wp (.slice s51 5 c51) vs wr)) (fun ci _ _ => 5 - (intOf ci).toNat)
    case atStart => exact ⟨0, by omega, rfl, HO.out⟩
    case round =>
      clear HO
      obtain ⟨i, hi, rfl, hh⟩ := hrel
      by_cases hlt : i < 5
      · have hiv : i < vs.length := by rw [HV.out]; exact hlt
        have hdi : decide ((i : Int) < 5) = true := by simp; omega
        obtain ⟨ai, n, ki, hvi, hn9, -⟩ := hh.out.wr i hiv
        have HVI := Lib.hid (And.intro hvi hiv)
        obtain ⟨a2, c2', he2, hm2, hidx2, -, -⟩ := hh.out.out.lst.out1 sRowsU
        simp only [Value.slice.injEq] at he2
        obtain ⟨rfl, he2, rfl⟩ := he2
        rw [← he2] at hidx2
        have i2 := hidx2 .i64 (i : Int) (by omega) (by omega)
        simp only [Int.toNat_natCast] at i2
        clear hidx2 he2 hm2 hvi hiv
        go_wp2_with fail
        go_loopw [13] (fun ck W => ∃ k : Nat, k ≤ n ∧ ck = .int .i64 k ∧ Hid (OwInv Wp (.slice s51 5 c51) vs W)) (fun ck _ => n - (intOf ck).toNat)
        case atStart => exact ⟨0, by omega, rfl, hh.out⟩
        case round =>
          clear hh
          obtain ⟨k, hk, rfl, hh⟩ := hrel
          have co : wr.cell? ⟨blk s51, ofs s51 + i, none⟩ = some (.slice ai n ki) := by
            obtain ⟨a2, c2', he2, hm2, -, hcell2, -⟩ := hh.out.out.lst.out1 sRowsU
            simp only [Value.slice.injEq] at he2
            obtain ⟨rfl, he2, rfl⟩ := he2
            rw [hcell2 i HVI.out.2, HVI.out.1]
          by_cases hkn : k < n
          · obtain ⟨a4, n4, k4, he4, -, hw4⟩ := hh.out.wr i HVI.out.2
            rw [HVI.out.1] at he4
            simp only [Value.slice.injEq] at he4
            obtain ⟨rfl, rfl, rfl⟩ := he4
            obtain ⟨g1, g2, g3, g4, x0, g5, g6⟩ := hw4 k hkn
            have i3 := fun W => run_indexAt_opt sU64 ai n ki .i64 (k : Int) (by omega) (by omega) g1 W
            simp only [Int.toNat_natCast, Nat.mul_one] at i3
            have HG := Lib.hid (And.intro g2 g5)
            have hsg : IntKind.u64.signed = false := rfl
            obtain ⟨y, hy, hxy⟩ := xor_max x0
            clear g1 g2 g3 g5 hw4
            go_wp2_with fail
            refine wp_region_mix [0, 1, 2, 3, 4, 5, 6, 7, 8, 9, 10, 11, 12, 13] [14] (fun w' => w'.cell? ⟨blk s51, ofs s51 + i, none⟩ = some (.slice ai n ki) ∧ w'.cell? ⟨blk ai, ofs ai + k, none⟩ = some (.int .u64 (x0 : Int))) (by kernel_rfl) (by kernel_rfl) (by kernel_rfl) ⟨co, g6⟩ ?_
            repeat (
              refine wpHeads_cons (v := ?_) rfl (Or.inl ⟨by rfl, ?_⟩) ?_
              rotate_left
              · (intro W hW; go_simp; try with_reducible rfl)
              simp only [Act.put, List.setIfInBounds_toArray, List.set_cons_zero, List.set_cons_succ])
            refine wpHeads_nil ?_
            refine wpTails_one rfl ?_
            go_wp2_with fail
            refine thenQ_mk ?_
            have HS := Lib.hid (((hh.out.set HVI.out.2 HVI.out.1 hkn HG.out.1 y hy).qt (Qt.drew _)))
            clear hh co g4 g6 i3 hxy hsg
            go_wp2_with fail
            go_roundw
            case rel => exact ⟨k + 1, by omega, by go_num, HS.out⟩
            case measure => simp [intOf]; omega
          · go_wp2_with fail
            go_roundw
            case rel => exact ⟨i + 1, by omega, by go_num, hh.out⟩
            case measure => simp [intOf]; omega
      · have HD := Lib.hid (hh.out.bel)
        clear hh
        go_wp2_with fail
        refine (Equal_any _ _ a a _ (HP.out.1.below HD.out) (HI.out.1.below (HP.out.2.2.trans (HD.out.mono HP.out.2.2.size)))).mono ?_; rintro e W7 ⟨rfl, q7⟩
        simp only [decide_true]
        have h7 := HD.out.trans (q7.below _)
        go_wp2_with fail
        refine (Equal_any _ _ b b _ (HP.out.2.1.below h7) (HI.out.2.below (HP.out.2.2.trans (h7.mono HP.out.2.2.size)))).mono ?_; rintro e W8 ⟨rfl, q8⟩
        simp only [decide_true]
        have h8 := HP.out.2.2.trans ((h7.trans (q8.below _)).mono HP.out.2.2.size)
        go_wp2_with fail
        refine (awake_any _).mono ?_; rintro e w5 ⟨rfl, b5⟩
        go_wp2_with fail
        go_ret
        exact ⟨rfl, h8.trans (b5.mono h8.size)⟩

set_option maxRecDepth 100000 in
theorem BitsOwn_lifted (os : Os) (started : os.Started) (H : Type) (enc : TypeId × Value → H) :
    ReturnsInHanded {} Try.checked os 9 .any (Rows.bitsOwnSpec.pre6 enc Try.prog Try.f9 Rows.bitsOwnRow.domain false) (Rows.bitsOwnSpec.post enc Try.prog Try.f9 false true false false) := by
  refine returnsInHanded_of_change (C := Try.checked) own started (by kernel_rfl) Try.func9
    (ChangeSpec.witness6 (enc := enc) (C := Try.checked) false ⟨#[], #[.slice none 0 0, .slice none 0 0, .int .i64 0], []⟩ 8 (by kernel_rfl) (by kernel_rfl) (by kernel_rfl) (by kernel_rfl)) ?_
  intro W base args ds gs before hval0 hW hcnd _
  have hval : ∀ (j : Nat) t v, Try.f9.params[j]? = some t → args[j]? = some v → Value.okWide Try.prog W .any base t v := hval0
  have hW' := hW
  obtain ⟨p, q, hA0, hV, rfl, hfz, hnd⟩ := hW
  have hA : DataW.TrodAll enc Try.prog W 0 (fun _ => true) true Try.f9.params.toList args.toList ds p := hA0
  rw [Try.params9] at hA hval
  obtain ⟨v0, vs0, d0, ds0, p0, q0, hargs, rfl, rfl, h0, r0⟩ := trodAll_cons hA
  obtain ⟨v1, vs1, d1, ds1, p1, q1, rfl, rfl, rfl, h1, r1⟩ := trodAll_cons r0
  obtain ⟨v2, vs2, d2, ds2, p2, q2, rfl, rfl, rfl, h2, r2⟩ := trodAll_cons r1
  obtain ⟨rfl, rfl, rfl⟩ := trodAll_nil r2
  obtain rfl : args = #[v0, v1, v2] := by cases args; simp_all
  obtain ⟨rfl, rfl⟩ := trodVars_none hV
  obtain ⟨a0, len0, cap0, rfl⟩ := okWide_slice Try.underlying26 (hval 0 26 v0 rfl rfl)
  have k0 := h0
  have lt0 : ∀ x ∈ p0, x.block < W.heap.size := by obtain ⟨m, hm⟩ := k0; exact DataW.trod_lt m _ _ _ hm
  obtain ⟨l0, hl0, hI0, b0⟩ := words_of_trod Try.underlying26 Try.underlying54 (by kernel_rfl) h0
  obtain ⟨a1, len1, cap1, rfl⟩ := okWide_slice Try.underlying26 (hval 1 26 v1 rfl rfl)
  have k1 := h1
  have lt1 : ∀ x ∈ p1, x.block < W.heap.size := by obtain ⟨m, hm⟩ := k1; exact DataW.trod_lt m _ _ _ hm
  obtain ⟨l1, hl1, hI1, b1⟩ := words_of_trod Try.underlying26 Try.underlying54 (by kernel_rfl) h1
  obtain ⟨a2, rfl, rfl, rfl, w2⟩ := open_int Try.underlying3 (hval 2 3 v2 rfl rfl) h2
  have b2 := bounds_i64 w2
  clear hA0 hval0
  refine (BitsOwn_walk _ l0 _ l1 a2 W hI0 b0 hI1 b1 b2).mono fun e W' ⟨he, bel⟩ => ?_
  subst he
  exact ⟨_, rfl, _, _, _, [], _, [], hW', trodAll_mk1 (shut_bool Try.underlying4 _), (trodAll_cons_mk (Below.trod laidOut (by kernel_rfl) (of_decide_eq_true (by kernel_rfl)) k0 bel lt0) (trodAll_cons_mk (Below.trod laidOut (by kernel_rfl) (of_decide_eq_true (by kernel_rfl)) k1 bel lt1) (trodAll_cons_mk (shut_int Try.underlying3 w2) trodAll_mk0))), rfl, bel.frame _, fun h => by cases h⟩

/-- The given statement. -/
theorem BitsOwn_holds : Rows.BitsOwnSaid :=
  OpenClaim.holds_of_wide 9 Try.f9 rfl rfl rfl rfl rfl rfl rfl ⟨rfl, rfl, rfl, rfl, rfl⟩ rfl rfl rfl rfl rfl (by kernel_rfl) Try.func9 (by kernel_rfl)
    (of_decide_eq_true (by kernel_rfl)) (by unfold Func.isWrapper; first | (rw [if_pos (by decide +kernel)]; kernel_rfl) | (rw [if_neg (by decide +kernel)]; exact ⟨rfl, rfl⟩))
    (fun os started H enc _ => BitsOwn_lifted os started H enc)

end Go.Proofs.Ytingmncemmipeaa
