/- Contract of Make. -/
import Derived.Test.YtchmjgjagaaomaaGre
import Derived.Laws.ResultCell
namespace Go.Gra
/-- What Make returns. -/
def MkL (n : Int) (es : List (Int × Int)) (g : G) (code : Int) : Prop :=
  (n < 0 ∧ code = 4 ∧ g = ⟨0, []⟩) ∨ (8192 < n ∧ code = 3 ∧ g = ⟨0, []⟩) ∨ ((0 ≤ n ∧ n ≤ 8192) ∧ (∃ e ∈ es, inB n e = false) ∧ code = 4 ∧ g = ⟨0, []⟩) ∨
  ((0 ≤ n ∧ n ≤ 8192) ∧ (∀ e ∈ es, inB n e = true) ∧ code = 0 ∧ g.n = n ∧ SortOf es g.es)
theorem MkL.unique {n : Int} {es : List (Int × Int)} {g g' : G} {c c' : Int} (h : MkL n es g c) (k : MkL n es g' c') : g = g' ∧ c = c' := by
  rcases h with ⟨h1, rfl, rfl⟩ | ⟨h1, rfl, rfl⟩ | ⟨h1, ⟨e, he, hb⟩, rfl, rfl⟩ | ⟨h1, h2, rfl, h3, h4⟩
  · rcases k with ⟨k1, rfl, rfl⟩ | ⟨k1, -⟩ | ⟨k1, -⟩ | ⟨k1, -⟩
    · exact ⟨rfl, rfl⟩
    all_goals omega
  · rcases k with ⟨k1, -⟩ | ⟨k1, rfl, rfl⟩ | ⟨k1, -⟩ | ⟨k1, -⟩
    · omega
    · exact ⟨rfl, rfl⟩
    all_goals omega
  · rcases k with ⟨k1, -⟩ | ⟨k1, -⟩ | ⟨-, -, rfl, rfl⟩ | ⟨-, k2, -⟩
    · omega
    · omega
    · exact ⟨rfl, rfl⟩
    · rw [k2 e he] at hb; cases hb
  · rcases k with ⟨k1, -⟩ | ⟨k1, -⟩ | ⟨-, ⟨e, he, hb⟩, -⟩ | ⟨-, -, rfl, k3, k4⟩
    · omega
    · omega
    · rw [h2 e he] at hb; cases hb
    · obtain ⟨n1, e1⟩ := g
      obtain ⟨n2, e2⟩ := g'
      dsimp only at *
      exact ⟨by rw [h3, k3, h4.unique k4], rfl⟩
end Go.Gra
namespace Go.Proofs.Ytchmjgjagaaomaa
open Go.RowKit Go.Dfl Go.Gra

/-- The block of a result that is not yet written. -/
def GZ (W : World) (b : Nat) : Prop := W.heap[b]? = some (.cells #[.int .i64 0, .slice none 0 0] 24)
theorem GZ.grown {W W' : World} {b : Nat} {row : Option Nat} (h : GZ W b) (hg : W.grownBy W' row) (hne : some b ≠ row) : GZ W' b := (hg.block b (Array.getElem?_eq_some_iff.1 h).1 hne).trans h
theorem GZ.below {W W' : World} {b : Nat} (h : GZ W b) (hb : Below W.heap.size W W') : GZ W' b := h.grown (grownBy_below hb) (by simp)
theorem GZ.lt {W : World} {b : Nat} (h : GZ W b) : b < W.heap.size := (Array.getElem?_eq_some_iff.1 h).1
theorem GZ.rd {W : World} {b : Nat} (h : GZ W b) : (W.cell? ⟨b, 0, none⟩ = some (.int .i64 0) ∧ W.cell? ⟨b, 1, none⟩ = some (.slice none 0 0)) ∧ W.frozen? ⟨b, 0, none⟩ = false ∧ W.frozen? ⟨b, 1, none⟩ = false := by
  have h' : W.heap[b]? = some (.cells #[.int .i64 0, .slice none 0 0] 24) := h
  exact ⟨⟨by simp [World.cell?, h'], by simp [World.cell?, h']⟩, by simp [World.frozen?, h'], by simp [World.frozen?, h']⟩
theorem below2s {B : Nat} {W Z : World} (h : Below B W Z) {b : Nat} (hb : B ≤ b) (x y : Value) : Below B W ((Z.setCell ⟨b, 0, none⟩ x).setCell ⟨b, 1, none⟩ y) :=
  (h.setCell (show B ≤ (⟨b, 0, none⟩ : Addr).block from hb) _).setCell (show B ≤ (⟨b, 1, none⟩ : Addr).block from hb) _
theorem pairs_nil (W : World) : Pairs W (.slice none 0 0) [] := ⟨none, 0, rfl, by simp, by unfold maxLen; omega, fun i hi => by simp at hi⟩
theorem own_pairs {W : World} {base : Nat} {e : TypeId} {v : Value} {l : List (Int × Int)} (h : OwnE elE W base e v l) : Pairs W v l := by
  obtain ⟨a, c, e1, h1, h2, h3⟩ := Go.Dfl.OwnE.sliced h
  refine ⟨a, c, e1, h1, h2, fun i hi => ⟨(h3 i hi).1, (h3 i hi).2.1, fun j hj => ?_⟩⟩
  have h4 := (h3 i hi).2.2 j hj
  rw [show elE.sz = 2 from rfl] at h4
  rw [h4]
  rcases (by omega : j = 0 ∨ j = 1) with rfl | rfl <;> rfl
def MakeR (n : Int) (es : List (Int × Int)) (W : World) (e : Ending) (W' : World) : Prop := ∃ a c g code, e = .returned (.tuple #[GV g (.slice a g.es.length c), .int .i64 code]) ∧ Pairs W' (.slice a g.es.length c) g.es ∧ MkL n es g code ∧ Below W.heap.size W W'
theorem OwnE.mono' {W : World} {base base' : Nat} {e : TypeId} {v : Value} {l : List (Int × Int)} (h : OwnE elE W base e v l) (hb : base' ≤ base) : OwnE elE W base' e v l := by
  obtain ⟨h1, h2 | ⟨g, cap, cur, hv, hg, r⟩⟩ := h
  · exact ⟨h1, .inl h2⟩
  · exact ⟨h1, .inr ⟨g, cap, cur, hv, by omega, r⟩⟩
set_option maxHeartbeats 3200000 in
set_option maxRecDepth 100000 in
theorem gMake_any (n : Int) (cv : Value) (es : List (Int × Int)) (W : World) (h : Pairs W cv es) (hl : es.length ≤ 32768) : Calls Try.prog 35 #[.int .i64 n, cv] W (MakeR n es W) := by
  obtain ⟨ca, cc, rfl, hlen, hci, hcc⟩ := pairs_rd h
  have hz0 : GZ (W.alloc (.cells #[.int .i64 0, .slice none 0 0] 24)) W.heap.size := heap_alloc_new _ _
  have hb0 : Below W.heap.size W (W.alloc (.cells #[.int .i64 0, .slice none 0 0] 24)) := (Below.refl _ _).alloc (Nat.le_refl _) _
  have H0 := Lib.hid (And.intro hz0 (And.intro hb0 (And.intro hcc h)))
  clear h hcc hz0 hb0
  go_enter Try.func35, Try.ntmps35
  go_upto_region 1 with fail
  refine gen_code (fun Z => GZ Z W.heap.size ∧ Below W.heap.size W Z) ⟨H0.out.1, H0.out.2.1⟩ ?_
  rintro Z0 hz
  obtain ⟨br, hbr⟩ : ∃ b, b = W.heap.size := ⟨_, rfl⟩
  have HBR : Hid (br = W.heap.size ∧ W.heap.size ≤ br) := Lib.hid ⟨hbr, Nat.le_of_eq hbr.symm⟩
  have HZ : Hid (GZ Z0 br ∧ Below W.heap.size W Z0) := Lib.hid (by rw [hbr]; exact hz)
  rw [← hbr]
  clear hz hbr
  by_cases h1 : n < 0
  · have hd : decide (n < 0) = true := by simpa using h1
    obtain ⟨⟨z0, z1⟩, zf0, zf1⟩ := HZ.out.1.rd
    have HGZ := Lib.hid HZ.out.1
    go_wp2_with fail
    refine bodyPost_ret (v := .tuple #[.agg #[.int .i64 0, .slice none 0 0], .int .i64 4]) (by rw [results_cell_tmp rfl]; go_simp; try rfl) rfl ?_
    exact ⟨none, 0, ⟨0, []⟩, 4, rfl, pairs_nil _, (.inl ⟨h1, rfl, rfl⟩), below2s HZ.out.2 HBR.out.2 _ _⟩
  have hd1 : decide (n < 0) = false := by simpa using h1
  by_cases h2 : 8192 < n
  · have hd : decide (8192 < n) = true := by simpa using h2
    obtain ⟨⟨z0, z1⟩, zf0, zf1⟩ := HZ.out.1.rd
    have HGZ := Lib.hid HZ.out.1
    go_wp2_with fail
    refine bodyPost_ret (v := .tuple #[.agg #[.int .i64 0, .slice none 0 0], .int .i64 3]) (by rw [results_cell_tmp rfl]; go_simp; try rfl) rfl ?_
    exact ⟨none, 0, ⟨0, []⟩, 3, rfl, pairs_nil _, (.inr (.inl ⟨h2, rfl, rfl⟩)), below2s HZ.out.2 HBR.out.2 _ _⟩
  have hd2 : decide (8192 < n) = false := by simpa using h2
  have hn0 : 0 ≤ n ∧ n ≤ 8192 := by omega
  have HN0 := Lib.hid hn0
  clear h1 h2 hn0
  go_wp2_with fail
  clear hd1 hd2
  go_loopw [7, 17] (fun _ x wr => ∃ k : Nat, k ≤ es.length ∧ x = .int .i64 k ∧ Hid (GZ wr br ∧ Below br W wr ∧ ∀ i, i < k → inB n (nth es i) = true)) (fun _ x _ => es.length - (intOf x).toNat)
  case atStart => exact ⟨0, by omega, rfl, HZ.out.1, by rw [HBR.out.1]; exact HZ.out.2, fun i hi => by omega⟩
  case round =>
    obtain ⟨k, hk, rfl, hh⟩ := hrel
    have hbl := hh.out.1.lt
    have hbW : Below W.heap.size W wr := by rw [← HBR.out.1]; exact hh.out.2.1
    by_cases hlt : k < es.length
    · obtain ⟨p0, p1⟩ := (H0.out.2.2.1 k hlt).2 wr hbW
      obtain ⟨e, he⟩ : ∃ e, e = nth es k := ⟨_, rfl⟩
      rw [← he] at p0 p1
      have HE := Lib.hid he
      have HBW := Lib.hid hbW
      clear he hbW
      obtain ⟨x, y⟩ := e
      dsimp only at p0 p1
      have hg2 := hh.out.1.grown (grownBy_alloc wr (.cells #[.int .i64 x, .int .i64 y] 35)) (by simp)
      have hb2 := HBW.out.alloc HBW.out.size (.cells #[.int .i64 x, .int .i64 y] 35)
      have HB2 := Lib.hid (And.intro hg2 hb2)
      clear hg2 hb2
      cases hx : nodeB n x
      · obtain ⟨⟨z0, z1⟩, zf0, zf1⟩ := hh.out.1.rd
        have hbn : br ≠ wr.heap.size := by omega
        have HX : Hid (∃ e ∈ es, inB n e = false) := Lib.hid ⟨nth es k, nth_mem _ _ hlt, by rw [← HE.out]; simp [inB, hx]⟩
        go_wp2_with (go_at_call 42; refine (node_any _ _ _).mono ?_; rintro e w' ⟨rfl, hw⟩; rw [hw]; clear hw w')
        refine bodyPost_ret (v := .tuple #[.agg #[.int .i64 0, .slice none 0 0], .int .i64 4]) (by rw [results_cell_tmp rfl]; go_simp; try rfl) rfl ?_
        exact ⟨none, 0, ⟨0, []⟩, 4, rfl, pairs_nil _, .inr (.inr (.inl ⟨HN0.out, HX.out, rfl, rfl⟩)), (below2s HBW.out HBR.out.2 _ _).alloc (below2s HBW.out HBR.out.2 _ _).size _⟩
      · cases hy : nodeB n y
        · obtain ⟨⟨z0, z1⟩, zf0, zf1⟩ := hh.out.1.rd
          have hbn : br ≠ wr.heap.size := by omega
          have HX : Hid (∃ e ∈ es, inB n e = false) := Lib.hid ⟨nth es k, nth_mem _ _ hlt, by rw [← HE.out]; simp [inB, hx, hy]⟩
          go_wp2_with (go_at_call 42; refine (node_any _ _ _).mono ?_; rintro e w' ⟨rfl, hw⟩; rw [hw]; clear hw w')
          refine bodyPost_ret (v := .tuple #[.agg #[.int .i64 0, .slice none 0 0], .int .i64 4]) (by rw [results_cell_tmp rfl]; go_simp; try rfl) rfl ?_
          exact ⟨none, 0, ⟨0, []⟩, 4, rfl, pairs_nil _, .inr (.inr (.inl ⟨HN0.out, HX.out, rfl, rfl⟩)), (below2s HBW.out HBR.out.2 _ _).alloc (below2s HBW.out HBR.out.2 _ _).size _⟩
        · have HX : Hid (inB n (nth es k) = true) := Lib.hid (by rw [← HE.out]; simp [inB, hx, hy])
          go_wp2_with (go_at_call 42; refine (node_any _ _ _).mono ?_; rintro e w' ⟨rfl, hw⟩; rw [hw]; clear hw w')
          go_roundw
          case rel => exact ⟨k + 1, by omega, by go_num, HB2.out.1, by have h9 := HB2.out.2; rw [← HBR.out.1] at h9; exact h9, fun i hi => by
            by_cases e : i = k
            · subst e; exact HX.out
            · exact hh.out.2.2 i (by omega)⟩
          case measure => simp [intOf]; omega
    · obtain rfl : k = es.length := by omega
      have hin : ∀ e ∈ es, inB n e = true := fun e he => by
        obtain ⟨i, hi, rfl⟩ := mem_nth he
        exact hh.out.2.2 i hi
      have HW := Lib.hid (And.intro hh.out.1 (And.intro hbW hin))
      clear hh hbW hin hbl HZ
      go_wp2_with fail
      refine (clone_any _ es _ (H0.out.2.2.2.below HW.out.2.1) (by omega)).mono ?_
      rintro e W2 (⟨rfl, rfl, rfl⟩ | ⟨g, cap, rfl, ho, hb⟩)
      · have hs : SortOf [] [] := ⟨List.Pairwise.nil, fun _ => Iff.rfl⟩
        go_wp2_with fail
        refine (sort_nil _ _ _).mono ?_
        rintro e W3 ⟨rfl, hw3⟩
        rw [hw3]
        clear hw3 W3
        obtain ⟨⟨z0, z1⟩, zf0, zf1⟩ := HW.out.1.rd
        go_wp2_with go_in
        refine bodyPost_ret (v := .tuple #[.agg #[.int .i64 n, .slice none 0 0], .int .i64 0]) (by rw [results_cell_tmp rfl]; go_simp; try rfl) rfl ?_
        exact ⟨none, 0, ⟨n, []⟩, 0, rfl, pairs_nil _, .inr (.inr (.inr ⟨HN0.out, HW.out.2.2, rfl, rfl, hs⟩)), below2s HW.out.2.1 HBR.out.2 _ _⟩
      · have hbr2 := HW.out.1.lt
        have H2 := Lib.hid (And.intro ho (And.intro (HW.out.1.below hb) (HW.out.2.1.trans (hb.mono HW.out.2.1.size))))
        have hsz : br + 1 ≤ wr.heap.size := hbr2
        have HSZ := Lib.hid hsz
        clear ho hb hbr2 hsz
        go_wp2_with fail
        refine (sort_any (br + 1) g cap es _ (OwnE.mono' H2.out.1 HSZ.out) (by omega)).mono ?_
        rintro e W3 ⟨l', rfl, hl', hm', hs', o3, g3⟩
        rw [← hl'] at o3 ⊢
        have hgb : br + 1 ≤ g := (OwnE.lt o3 g rfl).1
        have hz3 := H2.out.2.1.grown g3 (fun e => by have e2 := Option.some.inj e; omega)
        have hb3 : Below W.heap.size W W3 := H2.out.2.2.grown g3 H2.out.2.2.size (fun k e => by have e2 := Option.some.inj e; have := HBR.out.2; omega)
        have H3 := Lib.hid (And.intro o3 (And.intro hz3 (And.intro hb3 (And.intro hm' (And.intro hs' (And.intro hl' hgb))))))
        have hl3 : l'.length ≤ 32768 := by rw [hl']; exact hl
        clear o3 g3 hz3 hb3 hm' hs' hl' hgb
        go_wp2_with fail
        refine (compact_any (br + 1) g cap l' _ H3.out.1 (by omega)).mono ?_
        rintro e W4 ⟨k, rfl, hk, o4, g4⟩
        have hz4 := H3.out.2.1.grown g4 (fun e => by have e2 := Option.some.inj e; have := H3.out.2.2.2.2.2.2; omega)
        have hb4 : Below W.heap.size W W4 := H3.out.2.2.1.grown g4 H3.out.2.2.1.size (fun k e => by have e2 := Option.some.inj e; have := HBR.out.2; have := H3.out.2.2.2.2.2.2; omega)
        have hso : SortOf es (cpT l' l'.length) := by
          have h1 := sortOf_cp H3.out.2.2.2.2.1
          exact ⟨h1.srt, fun x => by rw [h1.mem, H3.out.2.2.2.1.mem_iff]⟩
        have hkl : k ≤ 32768 := by rw [hk]; exact Nat.le_trans (cpT_len _ _) hl3
        have hd9 : decide ((32768 : Int) < (k : Int)) = false := by simp; omega
        obtain ⟨⟨z0, z1⟩, zf0, zf1⟩ := hz4.rd
        have H4 := Lib.hid (And.intro o4 (And.intro hb4 (And.intro hso (And.intro hk H3.out.2.2.2.2.2.2))))
        clear o4 g4 hz4 hb4 hso hk hkl H3
        go_wp2_with fail
        refine bodyPost_ret (v := .tuple #[.agg #[.int .i64 n, .slice (some ⟨g, 0, none⟩) k cap], .int .i64 0]) (by rw [results_cell_tmp rfl]; go_simp; try rfl) rfl ?_
        have gf := grownBy_trans (grownBy_setCell W4 ⟨br, 0, none⟩ (.int .i64 n)) (grownBy_setCell _ ⟨br, 1, none⟩ (.slice (some ⟨g, 0, none⟩) k cap))
        have o5 := OwnE.grown H4.out.1 gf (.inr fun e => by have e2 : g = br := Option.some.inj e; have := H4.out.2.2.2.2; omega)
        refine ⟨some ⟨g, 0, none⟩, cap, ⟨n, cpT l' l'.length⟩, 0, ?_, ?_, .inr (.inr (.inr ⟨HN0.out, HW.out.2.2, rfl, rfl, H4.out.2.2.1⟩)), below2s H4.out.2.1 HBR.out.2 _ _⟩
        · unfold GV; dsimp only; rw [← H4.out.2.2.2.1]
        · show Pairs _ (.slice (some ⟨g, 0, none⟩) (cpT l' l'.length).length cap) _
          rw [← H4.out.2.2.2.1]; exact own_pairs o5
end Go.Proofs.Ytchmjgjagaaomaa
