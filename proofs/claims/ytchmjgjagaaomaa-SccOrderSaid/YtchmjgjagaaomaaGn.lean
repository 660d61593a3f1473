/- Plain: the reference's way to the components. -/
import Derived.Test.YtchmjgjagaaomaaGf
import Derived.Test.YtchmjgjagaaomaaScb
namespace Go.Proofs.Ytchmjgjagaaomaa
open Go.RowKit Go.Dfl Go.Gra Go.Tj
/-- The heads so far. -/
structure Hds (g : G) (l : List Int) (L : List Nat) : Prop where
  st : Go.Kah.Steps (qE g l g.es.length) g.n.toNat (fun v => hdN l (v : Int) = v) L
  nd : L.Nodup
  inn : ∀ x ∈ L, hdN l (x : Int) = x ∧ x < g.n.toNat
def compsK (g : G) (l : List Int) (L : List Nat) : List (List Int) := L.map fun h => compK l h g.n.toNat
/-- May the component of v come next? -/
def OkV (g : G) (l : List Int) (L : List Nat) (v : Nat) : Prop := ¬ hdN l (v : Int) ∈ L ∧ ∀ w, w < g.n.toNat → Rt (eG g) v w → ¬ hdN l (w : Int) ∈ L → Rt (eG g) w v
section
variable {g : G} {l : List Int} {L : List Nat}
theorem edge_q (hvg : VG g) {b c : Nat} (hE : eG g b c) (hne : hdN l (b : Int) ≠ hdN l (c : Int)) : (hdN l (c : Int), hdN l (b : Int)) ∈ qE g l g.es.length := by
  obtain ⟨e, he, h1, h2⟩ := mem_suc.1 hE.2
  have := (hvg.inn e he).2
  unfold qE
  rw [List.take_length]
  refine List.mem_map.2 ⟨e, List.mem_filter.2 ⟨he, decide_eq_true ?_⟩, ?_⟩
  · rw [h1, show e.2 = (c : Int) by omega]; exact hne
  · rw [h1, show e.2 = (c : Int) by omega]
/-- What is listed is closed under edges. -/
theorem Hds.closed (hvg : VG g) (hH : Hds g l L) {a b : Nat} (hr : Rt (eG g) a b) (ha : hdN l (a : Int) ∈ L) : hdN l (b : Int) ∈ L := by
  refine hr.closed (P := fun x => hdN l (x : Int) ∈ L) (fun b c hb hE => ?_) ha
  by_cases hne : hdN l (b : Int) = hdN l (c : Int)
  · rw [← hne]; exact hb
  · obtain ⟨j, hj, hje⟩ := mem_nth hb
    have h1 := (hH.st j hj).1.2.2.2 (hdN l (c : Int)) (by rw [hje]; exact edge_q hvg hE hne)
    exact List.mem_of_mem_take h1
theorem OkV.head (h : HdsAre g l) (hvg : VG g) {v : Nat} (hv : v < g.n.toNat) (hO : OkV g l L v) : ¬ hdN l (v : Int) ∈ L ∧ ∀ u, (u, hdN l (v : Int)) ∈ qE g l g.es.length → u ∈ L := by
  refine ⟨hO.1, fun u hu => ?_⟩
  false_or_by_contra
  rename_i hn
  obtain ⟨hr, hne, -, hun, -, hsu⟩ := eG_rt h hvg hu
  have hvh := (h.hd hv).2.1
  have h1 := hO.2 u hun (hvh.1.trans hr) (by rw [hsu]; exact hn)
  have h2 := ((h.hd hv).2.congr ⟨hvh.1.trans hr, h1⟩).unique (h.hd hun).2
  rw [hsu] at h2
  exact hne h2
theorem OkV.of_head (h : HdsAre g l) (hvg : VG g) (hH : Hds g l L) {x : Nat} (hx : x < g.n.toNat) (hs : hdN l (x : Int) = x) (hn : ¬ x ∈ L) (hp : ∀ u, (u, x) ∈ qE g l g.es.length → u ∈ L) : OkV g l L x := by
  refine ⟨by rw [hs]; exact hn, fun w hw hr hwn => ?_⟩
  have h1 : w < g.n.toNat ∧ (hdN l (w : Int) = x ∨ hdN l (w : Int) ∈ L) := hr.closed (P := fun y => y < g.n.toNat ∧ (hdN l (y : Int) = x ∨ hdN l (y : Int) ∈ L)) (fun b c hb hE => by
    have hcn := rt_lt hvg (Rt.one hE) hb.1
    refine ⟨hcn, ?_⟩
    rcases hb.2 with h2 | h2
    · by_cases hne : hdN l (b : Int) = hdN l (c : Int)
      · exact .inl (by rw [← hne]; exact h2)
      · exact .inr (hp _ (by have := edge_q hvg hE hne; rw [h2] at this; exact this))
    · exact .inr (Hds.closed hvg hH (Rt.one hE) h2)) ⟨hx, .inl hs⟩
  rcases h1.2 with h2 | h2
  · have := (h.hd hw).2.1.1
    rw [h2] at this; exact this
  · exact absurd h2 hwn
/-- The least node that may come next is the next head. -/
theorem OkV.nxt (h : HdsAre g l) (hvg : VG g) (hH : Hds g l L) {v : Nat} (hv : v < g.n.toNat) (hO : OkV g l L v) (hm : ∀ w, w < v → ¬ OkV g l L w) : hdN l (v : Int) = v ∧ Go.Kah.Nxt (qE g l g.es.length) g.n.toNat (fun v => hdN l (v : Int) = v) L v := by
  have hs := h.self hvg hv
  have hl := h.lt hvg hv
  obtain ⟨h1, h2⟩ := hO.head h hvg hv
  have hO2 := OkV.of_head h hvg hH hl hs h1 h2
  have hle : hdN l (v : Int) ≤ v := (h.hd hv).2.2 v ⟨.refl _, .refl _⟩
  have e : hdN l (v : Int) = v := by
    false_or_by_contra
    exact hm _ (by omega) hO2
  rw [e] at h1 h2
  refine ⟨e, ⟨e, hv, h1, h2⟩, fun y hy hyn hyL hyp => ?_⟩
  false_or_by_contra
  exact hm y (by omega) (OkV.of_head h hvg hH hyn hy hyL hyp)
/-- As long as a node is not listed, one may come next. -/
theorem Hds.ex (h : HdsAre g l) (hvg : VG g) (hH : Hds g l L) {v : Nat} (hv : v < g.n.toNat) (hn : ¬ hdN l (v : Int) ∈ L) : ∃ x, x < g.n.toNat ∧ OkV g l L x := by
  false_or_by_contra
  rename_i hno
  have hk : ∀ y : Nat, (hdN l (y : Int) = y ∧ y < g.n.toNat ∧ ¬ y ∈ L) → ∃ z : Nat, (hdN l (z : Int) = z ∧ z < g.n.toNat ∧ ¬ z ∈ L) ∧ (z, y) ∈ qE g l g.es.length := fun y hy => by
    false_or_by_contra
    rename_i hz
    exact hno ⟨y, hy.2.1, OkV.of_head h hvg hH hy.2.1 hy.1 hy.2.2 fun u hu => by
      false_or_by_contra
      rename_i hun
      obtain ⟨-, -, -, hb, -, sb⟩ := eG_rt h hvg hu
      exact hz ⟨u, ⟨sb, hb, hun⟩, hu⟩⟩
  obtain ⟨c, hcc⟩ := Go.Kah.cycle_of (A := fun y => hdN l (y : Int) = y ∧ y < g.n.toNat ∧ ¬ y ∈ L) (R := fun a b => (a, b) ∈ qE g l g.es.length) (n := g.n.toNat) (fun y hy => hy.2.1) hk ⟨_, h.self hvg hv, h.lt hvg hv, hn⟩
  exact qE_acyclic h hvg _ c hcc
theorem Hds.snoc (hH : Hds g l L) {v : Nat} (hx : hdN l (v : Int) = v ∧ Go.Kah.Nxt (qE g l g.es.length) g.n.toNat (fun v => hdN l (v : Int) = v) L v) : Hds g l (L ++ [v]) :=
  ⟨hH.st.snoc hx.2, by
    rw [List.nodup_append]
    exact ⟨hH.nd, by simp, fun a ha b hb e => by
      rw [List.mem_singleton] at hb
      exact hx.2.1.2.2.1 (by rw [← hb, ← e]; exact ha)⟩, fun x hx2 => by
    rcases List.mem_append.1 hx2 with h1 | h1
    · exact hH.inn x h1
    · rw [List.mem_singleton] at h1; rw [h1]; exact ⟨hx.1, hx.2.1.2.1⟩⟩
theorem Hds.nil : Hds g l [] := ⟨fun j hj => by simp at hj, .nil, fun x hx => by simp at hx⟩
theorem mem_flatK {x : Int} : x ∈ (compsK g l L).flatten ↔ ∃ v : Nat, x = (v : Int) ∧ v < g.n.toNat ∧ hdN l (v : Int) ∈ L := by
  unfold compsK
  rw [List.mem_flatten]
  constructor
  · rintro ⟨m, hm, hx⟩
    obtain ⟨h, hh, rfl⟩ := List.mem_map.1 hm
    obtain ⟨v, hv, he, rfl⟩ := mem_compK.1 hx
    exact ⟨v, rfl, hv, by rw [he]; exact hh⟩
  · rintro ⟨v, rfl, hv, hm⟩
    exact ⟨_, List.mem_map.2 ⟨_, hm, rfl⟩, mem_compK.2 ⟨v, hv, rfl, rfl⟩⟩
theorem nd_flatK (hnd : L.Nodup) : (compsK g l L).flatten.Nodup := by
  unfold compsK
  rw [List.nodup_iff_pairwise_ne, List.pairwise_flatten]
  constructor
  · intro m hm
    obtain ⟨h, hh, rfl⟩ := List.mem_map.1 hm
    exact (compK_asc l h g.n.toNat).imp fun h => by omega
  · rw [List.pairwise_map]
    refine hnd.imp fun {a b} hab x hx y hy e => hab ?_
    obtain ⟨v, -, hv, rfl⟩ := mem_compK.1 hx
    obtain ⟨w, -, hw, rfl⟩ := mem_compK.1 hy
    obtain rfl : v = w := by omega
    omega
theorem flatK_le (hnd : L.Nodup) : (compsK g l L).flatten.length ≤ g.n.toNat := by
  have k1 := Go.Kah.nodup_le _ ((List.range g.n.toNat).map fun x : Nat => (x : Int)) (nd_flatK (g := g) (l := l) hnd) (fun x hx => by
    obtain ⟨v, rfl, hv, -⟩ := mem_flatK.1 hx
    exact List.mem_map.2 ⟨v, List.mem_range.2 hv, rfl⟩)
  rw [List.length_map, List.length_range] at k1
  exact k1
/-- Not all are counted as long as a node is not listed. -/
theorem flatK_lt (hnd : L.Nodup) : (compsK g l L).flatten.length < g.n.toNat ↔ ∃ v, v < g.n.toNat ∧ ¬ hdN l (v : Int) ∈ L := by
  constructor
  · intro hlt
    false_or_by_contra
    rename_i hno
    have k2 := Go.Kah.nodup_le ((List.range g.n.toNat).map fun x : Nat => (x : Int)) (compsK g l L).flatten (by
      rw [List.nodup_iff_pairwise_ne, List.pairwise_map]; exact List.nodup_range.imp fun h e => h (by omega)) (fun x hx => by
      obtain ⟨v, hv, rfl⟩ := List.mem_map.1 hx
      rw [List.mem_range] at hv
      exact mem_flatK.2 ⟨v, rfl, hv, by
        false_or_by_contra
        rename_i hm
        exact hno ⟨v, hv, hm⟩⟩)
    rw [List.length_map, List.length_range] at k2
    omega
  · rintro ⟨v, hv, hn⟩
    have k1 := Go.Kah.nodup_le ((v : Int) :: (compsK g l L).flatten) ((List.range g.n.toNat).map fun x : Nat => (x : Int)) (List.nodup_cons.2 ⟨fun hm => by
        obtain ⟨w, hw, -, h9⟩ := mem_flatK.1 hm
        obtain rfl : v = w := by omega
        exact hn h9, nd_flatK hnd⟩) (fun x hx => by
      rcases List.mem_cons.1 hx with rfl | hx
      · exact List.mem_map.2 ⟨v, List.mem_range.2 hv, rfl⟩
      · obtain ⟨v, rfl, hv, -⟩ := mem_flatK.1 hx
        exact List.mem_map.2 ⟨v, List.mem_range.2 hv, rfl⟩)
    rw [List.length_cons, List.length_map, List.length_range] at k1
    omega
theorem compsK_snoc (v : Nat) : compsK g l (L ++ [v]) = compsK g l L ++ [compK l v g.n.toNat] := by unfold compsK; rw [List.map_append]; rfl
/-- All are listed. -/
theorem Hds.parts (h : HdsAre g l) (hH : Hds g l L) (ha : ∀ v, v < g.n.toNat → hdN l (v : Int) ∈ L) : ∃ of, PartsAre g (compsK g l L) of := by
  have hw : OrdIs g l L := ⟨hH.st, hH.nd, fun x => ⟨fun hx => hH.inn x hx, fun hx => by have := ha x hx.2; rw [hx.1] at this; exact this⟩⟩
  refine ⟨(List.range g.n.toNat).map fun v : Nat => ((L.idxOf (hdN l (v : Int)) : Nat) : Int), ⟨l, L, h, hw, rfl, by simp, fun v hv => ?_⟩⟩
  have hm := ha v hv
  exact ⟨L.idxOf (hdN l (v : Int)), by rw [nth_eq _ _ (by simpa using hv)]; simp, List.idxOf_lt_length_of_mem hm, by rw [nth_eq _ _ (List.idxOf_lt_length_of_mem hm)]; exact List.getElem_idxOf _⟩
end
/-- Which nodes are reachable from which. -/
def rowsR (g : G) : List (List Bool) := (List.range g.n.toNat).map fun v : Nat => (distL g [(v : Int)]).map fun d => decide (d ≥ 0)
theorem rowsR_len (g : G) : (rowsR g).length = g.n.toNat := by simp [rowsR]
theorem rowsR_nth {g : G} {v : Nat} (hv : v < g.n.toNat) : nth (rowsR g) v = (distL g [(v : Int)]).map fun d => decide (d ≥ 0) := by
  unfold rowsR; rw [nth_eq _ _ (by simpa using hv)]; simp
theorem rowsR_row {g : G} (hvg : VG g) {v : Nat} (hv : v < g.n.toNat) : (nth (rowsR g) v).length = g.n.toNat := by rw [rowsR_nth hv, List.length_map, distL_len hvg]
theorem rowsR_iff {g : G} (hvg : VG g) {v w : Nat} (hv : v < g.n.toNat) (hw : w < g.n.toNat) : nth (nth (rowsR g) v) w = true ↔ Rt (eG g) v w := by
  rw [← dist_rt hvg hv hw, rowsR_nth hv, nth_eq _ _ (by rw [List.length_map, distL_len hvg]; exact hw), List.getElem_map, decide_eq_true_eq, nth_eq _ _ (by rw [distL_len hvg]; exact hw)]
end Go.Proofs.Ytchmjgjagaaomaa

/- Contract of the reference's Reached. -/
namespace Go.Proofs.Ytchmjgjagaaomaa
open Go.RowKit Go.Dfl Go.Gra Go.Tj
theorem sBoolsS : SliceOf Try.prog 51 31 (.slice none 0 0) 1 24 := ⟨Try.underlying51, info_parts (P := Try.prog) (e := 31) (by kernel_rfl)⟩
theorem kOwnB : Kind OwnB := Kind.own _ _
def rowsK (g : G) (k : Nat) : List (List Bool) := (List.range k).map fun v : Nat => (distL g [(v : Int)]).map fun d => decide (d ≥ 0)
theorem rowsK_len (g : G) (k : Nat) : (rowsK g k).length = k := by simp [rowsK]
theorem rowsK_succ (g : G) (k : Nat) : rowsK g (k + 1) = rowsK g k ++ [(distL g [(k : Int)]).map fun d => decide (d ≥ 0)] := by unfold rowsK; rw [List.range_succ, List.map_append]; rfl
theorem rowsK_all (g : G) : rowsK g g.n.toNat = rowsR g := rfl
def ReachedR (g : G) (W : World) (e : Ending) (W' : World) : Prop := ∃ a c vs, e = .returned (.slice a g.n.toNat c) ∧ Grid Value.bool W' (.slice a g.n.toNat c) vs (rowsR g) ∧ Below W.heap.size W W'
set_option maxHeartbeats 3200000 in
set_option maxRecDepth 100000 in
theorem rReached_any (g : G) (cv : Value) (W : World) (h : Pairs W cv g.es) (hvg : VG g) : Calls Try.prog 33 #[GV g cv] W (ReachedR g W) := by
  obtain ⟨ca, cc, rfl, -, -, -⟩ := pairs_rd h
  have hal := (Below.refl W.heap.size W).alloc (Nat.le_refl _) (.cells #[.int .i64 g.n, .slice ca g.es.length cc] 24)
  have H0 := Lib.hid (And.intro (h.below hal) (And.intro hal (BoxG.new W g.n (.slice ca g.es.length cc) 24)))
  obtain ⟨n, hn⟩ : ∃ n : Nat, g.n = n := ⟨g.n.toNat, by have := hvg.n0; omega⟩
  have hn8 : n ≤ 8192 := by have := hvg.n1; omega
  have HV := Lib.hid (And.intro hvg hn)
  unfold GV
  rw [hn] at H0 ⊢
  clear h hal hvg hn
  obtain ⟨c0, c1⟩ := H0.out.2.2
  obtain ⟨W1, hW1⟩ : ∃ Z, Z = W.alloc (.cells #[.int .i64 (n : Int), .slice ca g.es.length cc] 24) := ⟨_, rfl⟩
  have HB1 := Lib.hid (show Below W1.heap.size W1 (W.alloc (.cells #[.int .i64 (n : Int), .slice ca g.es.length cc] 24)) by rw [← hW1]; exact Below.refl _ _)
  rw [← hW1] at H0
  clear hW1
  have hbW : W.heap.size < W1.heap.size := World.block_lt_of_cell? W1 ⟨W.heap.size, 0, none⟩ H0.out.2.2.1
  go_enter Try.func33, Try.ntmps33
  go_wp2_with fail
  clear c0 c1
  go_loopw [3, 4] (fun lv x wr => ∃ (k : Nat) (la : Option Addr) (lc : Nat) (vs : List Value), k ≤ n ∧ x = .int .i64 (k : Int) ∧ lv = .slice la k lc ∧ Hid (OwnN OwnB wr W1.heap.size 31 (.slice la k lc) vs (rowsK g k) ∧ Below W1.heap.size W1 wr)) (fun _ x _ => n - (intOf x).toNat)
  case atStart => exact ⟨0, none, 0, [], by omega, rfl, rfl, OwnN.empty _ _ _, HB1.out⟩
  case round =>
    obtain ⟨k, la, lc, vs, hk, rfl, rfl, hh⟩ := hrel
    have HL := Lib.hid hh.out
    clear hh
    obtain ⟨c0, c1⟩ := H0.out.2.2.below HL.out.2
    by_cases hlt : k < n
    · have hkl : (k : Int) < (n : Int) := by omega
      have hal3 : Below wr.heap.size wr (wr.alloc (.cells #[.int .i64 (k : Int)] 3)) := (Below.refl _ _).alloc (Nat.le_refl _) _
      have hd := rDistances_any g (.slice ca g.es.length cc) _ [(k : Int)] _ ((H0.out.1.below HL.out.2).below hal3) (ints_one wr (k : Int) 3) HV.out.1
      unfold GV at hd
      rw [HV.out.2] at hd
      have HD := Lib.hid (And.intro hd hal3)
      clear hd hal3
      go_wp2_with fail
      refine HD.out.1.mono ?_
      rintro e W2 ⟨da, dc, rfl, hDi, b3⟩
      rw [HV.out.2, Int.toNat_natCast] at hDi ⊢
      have hb2 : Below wr.heap.size wr W2 := HD.out.2.trans (b3.mono HD.out.2.size)
      have H2 := Lib.hid (And.intro (HL.out.1.below kOwnB hb2) (And.intro (HL.out.2.trans (hb2.mono HL.out.2.size)) hDi))
      clear hb2 hDi b3 HD c0 c1
      obtain ⟨c0, c1⟩ := H0.out.2.2.below H2.out.2.1
      go_wp2_with (at_make; refine wp_make (f := Value.bool) false sBoolS rfl _ rfl _ _ rfl .i64 .i64 _ _ n rfl rfl rfl rfl (by omega) (by unfold maxLen; omega) ?_)
      intro s cap W3 hrow hb3
      have HM := Lib.hid (And.intro hrow hb3)
      clear hrow hb3 c0 c1
      go_wp2_with fail
      go_loopw [7] (fun x wr => ∃ (b : Nat) (l : List Bool), b ≤ n ∧ x = .int .i64 (b : Int) ∧ Hid ((OwnB wr W2.heap.size (.slice s n cap) l ∧ Below W2.heap.size W2 wr) ∧ l.length = n ∧ ∀ j, j < b → nth l j = decide (nth (distL g [(k : Int)]) j ≥ 0))) (fun x _ => n - (intOf x).toNat)
      case atStart => exact ⟨0, _, by omega, rfl, HM.out, by simp, fun j hj => by omega⟩
      case round =>
        obtain ⟨b, l, hb, rfl, hh⟩ := hrel
        have HK := Lib.hid hh.out
        clear hh
        have hb1 := H2.out.2.1.trans (HK.out.1.2.mono H2.out.2.1.size)
        obtain ⟨c0, c1⟩ := H0.out.2.2.below hb1
        have hdl : (distL g [(k : Int)]).length = n := by rw [distL_len HV.out.1, HV.out.2, Int.toNat_natCast]
        by_cases hbt : b < n
        · have hbl : (b : Int) < (n : Int) := by omega
          obtain ⟨x0, x1, -⟩ := own_int (H2.out.2.2.below HK.out.1.2) hdl hbt
          obtain ⟨r3, i3, f3, g3⟩ := own_boolS HK.out.1.1 HK.out.2.1 hbt
          obtain ⟨z, hz⟩ : ∃ z, z = nth (distL g [(k : Int)]) b := ⟨_, rfl⟩
          rw [← hz] at x0
          obtain ⟨c, hc⟩ : ∃ c, decide (z ≥ 0) = c := ⟨_, rfl⟩
          have hset : (OwnB (wr.setCell ⟨blk s, ofs s + b, none⟩ (.bool c)) W2.heap.size (.slice s n cap) (l.set b c) ∧ Below W2.heap.size W2 (wr.setCell ⟨blk s, ofs s + b, none⟩ (.bool c))) ∧ (l.set b c).length = n ∧ ∀ j, j < b + 1 → nth (l.set b c) j = decide (nth (distL g [(k : Int)]) j ≥ 0) := by
            refine ⟨⟨HK.out.1.1.set b c, HK.out.1.2.setCell (p := ⟨blk s, ofs s + b, none⟩) g3 _⟩, by rw [List.length_set]; exact HK.out.2.1, fun j hj => ?_⟩
            rw [nth_set]
            by_cases e : b = j
            · subst e; rw [if_pos ⟨rfl, by rw [HK.out.2.1]; exact hbt⟩, ← hc, hz]
            · rw [if_neg (fun h => e h.1)]; exact HK.out.2.2 j (by omega)
          have HSET := Lib.hid hset
          clear hset hb1 hdl hz g3
          go_wp2_with fail
          go_roundw
          case rel => exact ⟨b + 1, _, by omega, by go_num, HSET.out⟩
          case measure => simp [intOf]; omega
        · obtain rfl : n = b := by omega
          have hfull : l = (distL g [(k : Int)]).map fun d => decide (d ≥ 0) := nth_ext (by rw [List.length_map, hdl, HK.out.2.1]) fun i hi => by
            rw [HK.out.2.1] at hi
            rw [HK.out.2.2 i hi, nth_eq _ _ (by omega), nth_eq _ _ (by rw [List.length_map]; omega), List.getElem_map]
          have hout := H2.out.1.below kOwnB HK.out.1.2
          have hvl := hout.len
          rw [rowsK_len] at hvl
          have hsz := hb1.size
          have hfo : ∀ q, (Value.slice s n cap).ownBlock = some q → ¬ Foot (.slice la k lc) vs q := fun q e hf => by
            have h9 := (HK.out.1.1.lt q e).1
            have h10 := (H2.out.1.foot kOwnB q hf).2
            omega
          have hrw := HK.out.1.1.mono H2.out.2.1.size
          rw [hfull] at hrw
          have HO2 := Lib.hid (And.intro hout (And.intro hb1 (And.intro hfo (And.intro hrw hvl))))
          have HLEN : Hid (vs.length + [(Value.slice s n cap)].length < 5864062014805) := Lib.hid (by rw [List.length_singleton]; omega)
          have hcl := (hout.out).alloc (.cells #[.slice s n cap] 31)
          have HCL := Lib.hid hcl
          clear hfull hout hvl hb1 hfo hrw hcl hdl
          go_wp2_with (at_builtin; refine wp_appendS (f := fun x : Value => x) sBoolsS rfl rfl _ _ rfl W1.heap.size (.slice la k lc) vs rfl (.slice (some ⟨wr.heap.size, 0, none⟩) 1 1) [.slice s n cap] rfl HCL.out (src_one (fun x : Value => x) (cell_alloc1 wr (.slice s n cap) 31)) (fun y hy => by rw [List.mem_singleton.1 hy]; rfl) HLEN.out (Nat.le_refl _) (le_alloc _ hsz) ?_; intro v' w3 hown hgr hat; obtain ⟨s9, c9, rfl⟩ := hown.shape (n := k + 1) (by rw [List.length_append, HO2.out.2.2.2.2]; rfl); have HO := Lib.hid (And.intro hown (And.intro hgr hat)); clear hown hgr hat)
          have hbA := (Below.refl wr.heap.size wr).alloc (Nat.le_refl _) (.cells #[.slice s n cap] 31)
          have hpush := (HO2.out.1.below kOwnB hbA).push kOwnB HO.out.1 HO.out.2.1 HO.out.2.2 (HO2.out.2.2.2.1.below hbA) HO2.out.2.2.1
          have hbl := (HO2.out.2.1.alloc hsz (.cells #[.slice s n cap] 31)).grown HO.out.2.1 (by rw [World.size_alloc]; omega) (fun q e => (HO2.out.1.out.lt q e).1)
          rw [← rowsK_succ] at hpush
          have HP2 := Lib.hid (And.intro hpush hbl)
          clear hbA hpush hbl
          obtain ⟨c0, c1⟩ := H0.out.2.2.below HP2.out.2
          go_roundw
          case rel => exact ⟨k + 1, s9, c9, _, by omega, by go_num, rfl, HP2.out⟩
          case measure => simp [intOf]; omega
    · obtain rfl : n = k := by omega
      go_wp2_with fail
      go_ret
      have hnn : g.n.toNat = n := by have := HV.out.2; omega
      refine ⟨la, lc, vs, by rw [hnn]; rfl, ?_, H0.out.2.1.trans (HL.out.2.mono (Nat.le_of_lt hbW))⟩
      have h9 := HL.out.1.grid
      rw [hnn, ← rowsK_all, hnn]
      exact h9
end Go.Proofs.Ytchmjgjagaaomaa

/- Memory of the reference's Components; marks by heads. -/
namespace Go.Proofs.Ytchmjgjagaaomaa
open Go.RowKit Go.Dfl Go.Gra Go.Tj
theorem own_blkB {w : World} {base n : Nat} {s : Option Addr} {cap : Nat} {l : List Bool} (h : OwnB w base (.slice s n cap) l) (hl : l.length = n) {x : Nat} (hx : x < n) : (Value.slice s n cap).ownBlock = some (blk s) := by
  obtain ⟨-, ⟨h2, h3⟩ | ⟨q, cap2, cur, hv, -⟩⟩ := h
  · rw [hl] at h3; omega
  · simp only [Value.slice.injEq] at hv
    obtain ⟨rfl, -, -⟩ := hv; rfl
structure RcM (W2 : World) (B1 n sc : Nat) (sa : Option Addr) (S : List Bool) (o : Value) (vs : List Value) (ll : List (List Int)) (Z : World) : Prop where
  m : OwnB Z W2.heap.size (.slice sa n sc) S
  ml : S.length = n
  mb : ∀ q, (Value.slice sa n sc).ownBlock = some q → q < B1
  r : OwnN IIg Z B1 32 o vs ll
  bel : Below W2.heap.size W2 Z
  b1 : W2.heap.size ≤ B1
  b2 : B1 ≤ Z.heap.size
section
variable {W2 : World} {B1 n sc : Nat} {sa : Option Addr} {S : List Bool} {o : Value} {vs : List Value} {ll : List (List Int)} {Z Z' : World}
theorem RcM.grown (h : RcM W2 B1 n sc sa S o vs ll Z) {row : Option Nat} (hg : Z.grownBy Z' row) (hr : ∀ q, row = some q → B1 ≤ q ∧ ¬ Foot o vs q) : RcM W2 B1 n sc sa S o vs ll Z' := by
  refine ⟨h.m.grown hg ?_, h.ml, h.mb, h.r.grown kIIg hg fun q e => (hr q e).2, h.bel.grown hg h.bel.size fun q e => by have := (hr q e).1; have := h.b1; omega, h.b1, Nat.le_trans h.b2 hg.size⟩
  cases e : (Value.slice sa n sc).ownBlock with
  | none => exact .inl rfl
  | some q =>
    refine .inr fun e2 => ?_
    have := h.mb q e
    have := (hr q e2.symm).1
    omega
theorem RcM.below (h : RcM W2 B1 n sc sa S o vs ll Z) (hb : Below Z.heap.size Z Z') : RcM W2 B1 n sc sa S o vs ll Z' := h.grown (grownBy_below hb) (by simp)
theorem RcM.mark (h : RcM W2 B1 n sc sa S o vs ll Z) {x : Nat} (hx : x < n) : RcM W2 B1 n sc sa (S.set x true) o vs ll (Z.setCell ⟨blk sa, ofs sa + x, none⟩ (.bool true)) := by
  have hob : (Value.slice sa n sc).ownBlock = some (blk sa) := by
    obtain ⟨-, ⟨h2, h3⟩ | ⟨q, cap2, cur, hv, -⟩⟩ := h.m
    · rw [h.ml] at h3; omega
    · simp only [Value.slice.injEq] at hv
      obtain ⟨rfl, -, rfl⟩ := hv; rfl
  have hb := h.mb _ hob
  refine ⟨h.m.set x true, by rw [List.length_set]; exact h.ml, h.mb, h.r.grown kIIg (grownBy_setCell Z ⟨blk sa, ofs sa + x, none⟩ (.bool true)) fun q e hf => ?_, h.bel.setCell (p := ⟨blk sa, ofs sa + x, none⟩) (h.m.lt _ hob).1 _, h.b1, by rw [World.size_setCell]; exact h.b2⟩
  have h1 := (h.r.foot kIIg q hf).1
  have h2 := Option.some.inj e
  dsimp only at h2
  omega
theorem RcM.push (h : RcM W2 B1 n sc sa S o vs ll Z) {v' u : Value} {l : List Int} (ho : Go.Dfl.Own (fun x : Value => x) Z' B1 32 v' (vs ++ [u])) (hg : Z.grownBy Z' o.ownBlock) (hl : v'.ownBlock = o.ownBlock ∨ v'.ownBlock = some Z.heap.size) (hu : OwnI Z B1 3 u l) (hs : ∀ k, u.ownBlock = some k → ¬ Foot o vs k) : RcM W2 B1 n sc sa S v' (vs ++ [u]) (ll ++ [l]) Z' := by
  have hq : ∀ q, o.ownBlock = some q → B1 ≤ q := fun q e => (h.r.out.lt q e).1
  refine ⟨h.m.grown hg ?_, h.ml, h.mb, h.r.push kIIg ho hg hl hu hs, h.bel.grown hg h.bel.size fun q e => by have := hq q e; have := h.b1; omega, h.b1, Nat.le_trans h.b2 hg.size⟩
  cases e : (Value.slice sa n sc).ownBlock with
  | none => exact .inl rfl
  | some q =>
    refine .inr fun e2 => ?_
    have := h.mb q e
    have := hq q e2.symm
    omega
theorem RcM.rd (h : RcM W2 B1 n sc sa S o vs ll Z) {x : Nat} (hx : x < n) : Z.cell? ⟨blk sa, ofs sa + x, none⟩ = some (.bool (nth S x)) ∧ (∀ Y, (Instr.indexAt 31 (.slice sa n sc) (.int .i64 (x : Int))).run Try.prog Y = .ok (.pointer (some ⟨blk sa, ofs sa + x, none⟩)) Y) ∧ Z.frozen? ⟨blk sa, ofs sa + x, none⟩ = false := by
  obtain ⟨h1, h2, h3, -⟩ := own_boolS h.m h.ml hx
  exact ⟨h1, h2, h3⟩
end
/-- What a walk needs of rows of marks that are only read. -/
theorem rows_rdB {W : World} {v : Value} {vs : List Value} {ll : List (List Bool)} (h : Grid Value.bool W v vs ll) : ∃ a c, v = .slice a ll.length c ∧ vs.length = ll.length ∧
    (∀ i, i < ll.length → (∀ Y, (Instr.indexAt 51 (.slice a ll.length c) (.int .i64 (i : Int))).run Try.prog Y = .ok (.pointer (some ⟨blk a, ofs a + i, none⟩)) Y) ∧ W.cell? ⟨blk a, ofs a + i, none⟩ = some (nth vs i) ∧
      ∃ ra rc, nth vs i = .slice ra (nth ll i).length rc ∧ ∀ j, j < (nth ll i).length → (∀ Y, (Instr.indexAt 31 (.slice ra (nth ll i).length rc) (.int .i64 (j : Int))).run Try.prog Y = .ok (.pointer (some ⟨blk ra, ofs ra + j, none⟩)) Y) ∧ W.cell? ⟨blk ra, ofs ra + j, none⟩ = some (.bool (nth (nth ll i) j))) := by
  obtain ⟨h1, h2, h3⟩ := h
  obtain ⟨a, c, rfl, hm, hi, hc, hb⟩ := h1.out1 sBoolsS
  rw [h2] at hm hi hc hb ⊢
  refine ⟨a, c, rfl, rfl, fun i hl => ⟨fun Y => ?_, hc i hl, ?_⟩⟩
  · have := hi .i64 (i : Int) (by omega) (by omega) Y
    rw [Int.toNat_natCast] at this; exact this
  · obtain ⟨ra, rc, e, hm2, hi2, hc2, -⟩ := (h3 i hl).out1 sBoolS
    refine ⟨ra, rc, e, fun j hj => ⟨fun Y => ?_, hc2 j hj⟩⟩
    have := hi2 .i64 (j : Int) (by omega) (by omega) Y
    rw [Int.toNat_natCast] at this; exact this
/-- Which nodes are listed. -/
def marksH (l : List Int) (n : Nat) (L : List Nat) : List Bool := (List.range n).map fun w : Nat => decide (hdN l (w : Int) ∈ L)
theorem marksH_len (l : List Int) (n : Nat) (L : List Nat) : (marksH l n L).length = n := by simp [marksH]
theorem marksH_nth {l : List Int} {n : Nat} {L : List Nat} {w : Nat} (hw : w < n) : nth (marksH l n L) w = decide (hdN l (w : Int) ∈ L) := by
  unfold marksH; rw [nth_eq _ _ (by simpa using hw)]; simp
theorem marksH_nil (l : List Int) (n : Nat) : marksH l n [] = List.replicate n false := nth_ext (by simp [marksH]) fun i hi => by
  rw [marksH_len] at hi
  rw [marksH_nth hi, nth_eq _ _ (by simpa using hi), List.getElem_replicate]; simp
/-- While the component of u is collected: the nodes below k are done. -/
def marksU (l : List Int) (n : Nat) (L : List Nat) (u k : Nat) : List Bool := (List.range n).map fun w : Nat => decide (hdN l (w : Int) ∈ L) || (decide (w < k) && decide (hdN l (w : Int) = u))
theorem marksU_len (l : List Int) (n : Nat) (L : List Nat) (u k : Nat) : (marksU l n L u k).length = n := by simp [marksU]
theorem marksU_nth {l : List Int} {n : Nat} {L : List Nat} {u k w : Nat} (hw : w < n) : nth (marksU l n L u k) w = (decide (hdN l (w : Int) ∈ L) || (decide (w < k) && decide (hdN l (w : Int) = u))) := by
  unfold marksU; rw [nth_eq _ _ (by simpa using hw)]; simp
theorem marksU_zero (l : List Int) (n : Nat) (L : List Nat) (u : Nat) : marksU l n L u 0 = marksH l n L := nth_ext (by rw [marksU_len, marksH_len]) fun i hi => by
  rw [marksU_len] at hi
  rw [marksU_nth hi, marksH_nth hi]; simp
theorem marksU_all (l : List Int) (n : Nat) (L : List Nat) (u : Nat) : marksU l n L u n = marksH l n (L ++ [u]) := nth_ext (by rw [marksU_len, marksH_len]) fun i hi => by
  rw [marksU_len] at hi
  rw [marksU_nth hi, marksH_nth hi]; simp [hi]
theorem marksU_yes {l : List Int} {n : Nat} {L : List Nat} {u k : Nat} (hk : k < n) (h : hdN l (k : Int) = u) : (marksU l n L u k).set k true = marksU l n L u (k + 1) := nth_ext (by rw [List.length_set, marksU_len, marksU_len]) fun i hi => by
  rw [List.length_set, marksU_len] at hi
  rw [nth_set, marksU_len, marksU_nth hi, marksU_nth hi]
  by_cases e : k = i
  · subst e; rw [if_pos ⟨rfl, hk⟩]; simp [h]
  · rw [if_neg (fun h9 : k = i ∧ _ => e h9.1)]
    rw [show decide (i < k + 1) = decide (i < k) by rw [decide_eq_decide]; omega]
theorem marksU_no {l : List Int} {n : Nat} {L : List Nat} {u k : Nat} (h : hdN l (k : Int) ≠ u) : marksU l n L u (k + 1) = marksU l n L u k := nth_ext (by rw [marksU_len, marksU_len]) fun i hi => by
  rw [marksU_len] at hi
  rw [marksU_nth hi, marksU_nth hi]
  by_cases e : i = k
  · subst e; simp [h]
  · rw [show decide (i < k + 1) = decide (i < k) by rw [decide_eq_decide]; omega]
theorem ex_hd (E : Nat → Nat → Prop) (v : Nat) : ∃ m, IsHd E v m := by
  have key : ∀ k w, w ≤ k → Sc E v w → ∃ m, IsHd E v m := by
    intro k
    induction k with
    | zero => intro w hw hs; exact ⟨w, hs, fun x _ => by omega⟩
    | succ k ih =>
      intro w hw hs
      by_cases h : ∃ x, x ≤ k ∧ Sc E v x
      · obtain ⟨x, hx, hsx⟩ := h; exact ih x hx hsx
      · exact ⟨w, hs, fun x hx => by
          false_or_by_contra
          exact h ⟨x, by omega, hx⟩⟩
  exact key v v (Nat.le_refl _) ⟨.refl _, .refl _⟩
theorem ex_heads (g : G) : ∃ l, HdsAre g l := by
  refine ⟨(List.range g.n.toNat).map fun v : Nat => ((Classical.choose (ex_hd (eG g) v) : Nat) : Int), by simp, fun v hv => ⟨Classical.choose (ex_hd (eG g) v), ?_, Classical.choose_spec (ex_hd (eG g) v)⟩⟩
  rw [nth_eq _ _ (by simpa using hv)]; simp
end Go.Proofs.Ytchmjgjagaaomaa
