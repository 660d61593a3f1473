/- Plain: the graph of the components. -/
import Derived.Test.YtchmjgjagaaomaaGn
import Derived.Test.YtchmjgjagaaomaaSca
namespace Go.Proofs.Ytchmjgjagaaomaa
open Go.RowKit Go.Dfl Go.Gra Go.Tj
/-- The edges between components, of the first k edges. -/
def condL (of : List Int) (es : List (Int × Int)) (k : Nat) : List (Int × Int) := ((es.take k).filter fun e => decide (nth of e.1.toNat ≠ nth of e.2.toNat)).map fun e => (nth of e.1.toNat, nth of e.2.toNat)
theorem condL_zero (of : List Int) (es : List (Int × Int)) : condL of es 0 = [] := rfl
theorem condL_yes {of : List Int} {es : List (Int × Int)} {k : Nat} (hk : k < es.length) (h : nth of (nth es k).1.toNat ≠ nth of (nth es k).2.toNat) : condL of es (k + 1) = condL of es k ++ [(nth of (nth es k).1.toNat, nth of (nth es k).2.toNat)] := by
  unfold condL
  rw [take_snoc _ _ hk, List.filter_append, List.map_append]
  simp [h]
theorem condL_no {of : List Int} {es : List (Int × Int)} {k : Nat} (hk : k < es.length) (h : nth of (nth es k).1.toNat = nth of (nth es k).2.toNat) : condL of es (k + 1) = condL of es k := by
  unfold condL
  rw [take_snoc _ _ hk, List.filter_append, List.map_append]
  simp [h]
theorem condL_le (of : List Int) (es : List (Int × Int)) (k : Nat) : (condL of es k).length ≤ k := by
  unfold condL
  rw [List.length_map]
  exact Nat.le_trans (List.length_filter_le _ _) (by rw [List.length_take]; omega)
theorem mem_condL {of : List Int} {es : List (Int × Int)} {e : Int × Int} : e ∈ condL of es es.length ↔ ∃ d ∈ es, nth of d.1.toNat ≠ nth of d.2.toNat ∧ e = (nth of d.1.toNat, nth of d.2.toNat) := by
  unfold condL
  rw [List.take_length, List.mem_map]
  constructor
  · rintro ⟨d, hd, rfl⟩
    rw [List.mem_filter, decide_eq_true_eq] at hd
    exact ⟨d, hd.1, hd.2, rfl⟩
  · rintro ⟨d, h1, h2, rfl⟩
    exact ⟨d, List.mem_filter.2 ⟨h1, decide_eq_true h2⟩, rfl⟩
/-- What Condense gives. -/
def CondIs (g r : G) (code : Int) : Prop := (gCode g ≠ 0 ∧ r = ⟨0, []⟩ ∧ code = gCode g) ∨ (gCode g = 0 ∧ ∃ ls of, PartsAre g ls of ∧ MkL (ls.length : Int) (condL of g.es g.es.length) r code)
theorem CondIs.unique {g r r2 : G} {c c2 : Int} (h : CondIs g r c) (k : CondIs g r2 c2) : r = r2 ∧ c = c2 := by
  rcases h with ⟨h1, rfl, rfl⟩ | ⟨h1, ls, of, h2, h3⟩ <;> rcases k with ⟨k1, rfl, rfl⟩ | ⟨k1, ls2, of2, k2, k3⟩
  · exact ⟨rfl, rfl⟩
  · exact absurd k1 h1
  · exact absurd h1 k1
  · obtain ⟨rfl, rfl⟩ := h2.unique k2
    exact h3.unique k3
def CondR (g : G) (W : World) (e : Ending) (W' : World) : Prop := ∃ a c r code, e = .returned (.tuple #[GV r (.slice a r.es.length c), .int .i64 code]) ∧ Pairs W' (.slice a r.es.length c) r.es ∧ CondIs g r code ∧ Below W.heap.size W W'
theorem mkl_code {n : Int} {es : List (Int × Int)} {g : G} {c : Int} (h : MkL n es g c) (hl : es.length ≤ 32768) (hc : c = 0) : gCode g = 0 := by
  rcases h with ⟨-, h1, -⟩ | ⟨-, h1, -⟩ | ⟨-, -, h1, -⟩ | ⟨⟨h1, h2⟩, h3, -, h5, h6⟩
  · omega
  · omega
  · omega
  · have hn : g.es.Nodup := h6.srt.imp fun {a b} h (e : a = b) => eLt_irrefl a (by rw [← e] at h; exact h)
    have hle := Go.Kah.nodup_le g.es es hn fun x hx => (h6.mem x).1 hx
    refine gCode_ok.2 ⟨by omega, by omega, by omega, fun e he => ?_, h6.srt⟩
    have h7 := h3 e ((h6.mem e).1 he)
    simp only [inB, nodeB, Bool.and_eq_true, decide_eq_true_eq] at h7
    rw [h5]; omega
/-- What Bottomup gives. -/
def BotR (g : G) (W : World) (e : Ending) (W' : World) : Prop := ∃ ls of v, e = .returned (.tuple #[v, .int .i64 (gCode g)]) ∧ CmpIs g ls of ∧ Ints W' v ls.flatten ∧ Below W.heap.size W W'
theorem CmpIs.le {g : G} {ls : List (List Int)} {of : List Int} (h : CmpIs g ls of) : ls.flatten.length ≤ 8192 ∧ ls.length ≤ 8192 := by
  rcases h with ⟨-, rfl, -⟩ | ⟨h1, h2⟩
  · simp
  · have hvg := gCode_ok.1 h1
    have h3 := (h2.cov hvg).len
    have := hvg.n1
    refine ⟨by omega, ?_⟩
    obtain ⟨l, L, k1, k2, rfl, -, -⟩ := h2.ex
    rw [List.length_map]
    have h9 := Go.Kah.nodup_le L (List.range g.n.toNat) k2.nd (fun x hx => List.mem_range.2 ((k2.mem x).1 hx).2)
    rw [List.length_range] at h9
    omega
/-- The index of a node's component. -/
theorem PartsAre.at {g : G} {ls : List (List Int)} {of : List Int} (h : PartsAre g ls of) {v : Nat} (hv : v < g.n.toNat) : ∃ i : Nat, nth of v = (i : Int) ∧ i < ls.length := by
  obtain ⟨l, L, h1, h2, rfl, h4, h5⟩ := h.ex
  obtain ⟨i, i1, i2, -⟩ := h5 v hv
  exact ⟨i, i1, by rw [List.length_map]; exact i2⟩
theorem PartsAre.few {g : G} {ls : List (List Int)} {of : List Int} (h : PartsAre g ls of) : ls.length ≤ g.n.toNat := by
  obtain ⟨l, L, h1, h2, rfl, h4, h5⟩ := h.ex
  rw [List.length_map]
  have := Go.Kah.nodup_le L (List.range g.n.toNat) h2.nd (fun x hx => List.mem_range.2 ((h2.mem x).1 hx).2)
  rwa [List.length_range] at this
/-- No edge leads to a later component. -/
theorem PartsAre.down {g : G} {ls : List (List Int)} {of : List Int} (hvg : VG g) (h : PartsAre g ls of) {e : Int × Int} (he : e ∈ g.es) : nth of e.2.toNat ≤ nth of e.1.toNat := by
  obtain ⟨⟨a0, a1⟩, b0, b1⟩ := hvg.inn e he
  obtain ⟨l, L, h1, h2, rfl, h4, h5⟩ := h.ex
  obtain ⟨i, i1, i2, i3⟩ := h5 e.1.toNat (by omega)
  obtain ⟨j, j1, j2, j3⟩ := h5 e.2.toNat (by omega)
  rw [i1, j1]
  by_cases hne : hdN l (e.1.toNat : Int) = hdN l (e.2.toNat : Int)
  · have := (List.getElem_inj h2.nd (i := i) (j := j) (h₀ := i2) (h₁ := j2)).1 (by rw [← nth_eq _ _ i2, ← nth_eq _ _ j2, i3, j3, hne])
    omega
  · have hE : eG g e.1.toNat e.2.toNat := ⟨by omega, mem_suc.2 ⟨e, he, by omega, rfl⟩⟩
    have hq := edge_q (l := l) hvg hE hne
    rw [← i3] at hq
    obtain ⟨k, hk, hke⟩ := h2.before i2 hq
    rw [← j3] at hke
    have := (List.getElem_inj h2.nd (i := k) (j := j) (h₀ := by omega) (h₁ := j2)).1 (by rw [← nth_eq _ _ (by omega), ← nth_eq _ _ j2, hke])
    omega
theorem CondIs.ok {g r : G} {c : Int} (h : CondIs g r c) (h0 : gCode g = 0) : c = 0 ∧ gCode r = 0 ∧ ∀ e ∈ r.es, e.2 < e.1 := by
  have hvg := gCode_ok.1 h0
  have hn := hvg.n1
  rcases h with ⟨h1, -⟩ | ⟨-, ls, of, h2, h3⟩
  · exact absurd h0 h1
  · have hle := condL_le of g.es g.es.length
    have hel := hvg.len
    have hf := h2.few
    have hin : ∀ e ∈ condL of g.es g.es.length, inB (ls.length : Int) e = true := fun e he => by
      obtain ⟨d, hd, -, rfl⟩ := mem_condL.1 he
      obtain ⟨⟨a0, a1⟩, b0, b1⟩ := hvg.inn d hd
      obtain ⟨i, i1, i2⟩ := h2.at (v := d.1.toNat) (by omega)
      obtain ⟨j, j1, j2⟩ := h2.at (v := d.2.toNat) (by omega)
      unfold inB
      rw [Bool.and_eq_true]
      exact ⟨nodeB_iff.2 ⟨by dsimp only; omega, by dsimp only; omega⟩, nodeB_iff.2 ⟨by dsimp only; omega, by dsimp only; omega⟩⟩
    have hc : c = 0 := by
      rcases h3 with ⟨k1, -⟩ | ⟨k1, -⟩ | ⟨-, ⟨e, he, hb⟩, -⟩ | ⟨-, -, k, -⟩
      · omega
      · omega
      · rw [hin e he] at hb; cases hb
      · exact k
    refine ⟨hc, mkl_code h3 (by omega) hc, fun e he => ?_⟩
    rcases h3 with ⟨k1, -⟩ | ⟨k1, -⟩ | ⟨-, ⟨e, he, hb⟩, -⟩ | ⟨-, -, -, -, k⟩
    · omega
    · omega
    · rw [hin e he] at hb; cases hb
    · obtain ⟨d, hd, hne, rfl⟩ := mem_condL.1 ((k.mem e).1 he)
      have := h2.down hvg hd
      dsimp only
      omega
/-- Each valid graph has components. -/
theorem ex_parts {g : G} (hvg : VG g) : ∃ ls of, PartsAre g ls of := by
  obtain ⟨l, hl⟩ := ex_heads g
  have key : ∀ m (L : List Nat), Hds g l L → g.n.toNat - L.length ≤ m → ∃ L', Hds g l L' ∧ ∀ v, v < g.n.toNat → hdN l (v : Int) ∈ L' := by
    intro m
    induction m with
    | zero =>
      intro L hH hm
      refine ⟨L, hH, fun v hv => ?_⟩
      false_or_by_contra
      rename_i hno
      have := Go.Kah.nodup_le (hdN l (v : Int) :: L) (List.range g.n.toNat) (List.nodup_cons.2 ⟨hno, hH.nd⟩) (fun x hx => by
        rcases List.mem_cons.1 hx with rfl | hx
        · exact List.mem_range.2 (hl.lt hvg hv)
        · exact List.mem_range.2 (hH.inn x hx).2)
      rw [List.length_cons, List.length_range] at this
      omega
    | succ m ih =>
      intro L hH hm
      by_cases hall : ∀ v, v < g.n.toNat → hdN l (v : Int) ∈ L
      · exact ⟨L, hH, hall⟩
      · obtain ⟨v, hv⟩ := Classical.not_forall.1 hall
        obtain ⟨hvn, hno⟩ := Classical.not_imp.1 hv
        obtain ⟨x, hx, hO⟩ := hH.ex hl hvg hvn hno
        have least : ∀ k x, x ≤ k → x < g.n.toNat → OkV g l L x → ∃ u, u < g.n.toNat ∧ OkV g l L u ∧ ∀ w, w < u → ¬ OkV g l L w := by
          intro k
          induction k with
          | zero => exact fun x hk hx hO => ⟨x, hx, hO, fun w hw => by omega⟩
          | succ k ih2 =>
            intro x hk hx hO
            by_cases h : ∃ w, w < x ∧ OkV g l L w
            · obtain ⟨w, hw, hOw⟩ := h
              exact ih2 w (by omega) (by omega) hOw
            · exact ⟨x, hx, hO, fun w hw hOw => h ⟨w, hw, hOw⟩⟩
        obtain ⟨u, hu, hOu, hmin⟩ := least x x (Nat.le_refl _) hx hO
        exact ih _ (hH.snoc (hOu.nxt hl hvg hH hu hmin)) (by rw [List.length_append, List.length_singleton]; omega)
  obtain ⟨L, hH, hall⟩ := key _ [] Hds.nil (Nat.le_refl _)
  obtain ⟨of, ho⟩ := hH.parts hl hall
  exact ⟨_, of, ho⟩
/-- A graph whose edges all lead down is acyclic. -/
theorem acy_down {r : G} (h0 : gCode r = 0) (hd : ∀ e ∈ r.es, e.2 < e.1) : Acy r := by
  have hvg := gCode_ok.1 h0
  have hn0 := hvg.n0
  obtain ⟨ls, of, hp⟩ := ex_parts hvg
  refine ⟨h0, fun e he => by have := hd e he; omega, ls, of, hp, ?_⟩
  have hr : ∀ a b, Rt (eG r) a b → b ≤ a := fun a b h => h.closed (P := fun x => x ≤ a) (fun x y hx hE => by
    obtain ⟨e, he, e1, e2⟩ := mem_suc.1 hE.2
    have := hd e he
    have := (hvg.inn e he).2
    omega) (Nat.le_refl _)
  have hf := hp.few
  obtain ⟨l, L, h1, h2, rfl, h4, h5⟩ := hp.ex
  rw [List.length_map] at hf ⊢
  have hs : ∀ v, v < r.n.toNat → hdN l (v : Int) = v := fun v hv => by
    have k := (h1.hd hv).2.1
    have := hr _ _ k.1
    have := hr _ _ k.2
    omega
  have := Go.Kah.nodup_le (List.range r.n.toNat) L List.nodup_range (fun x hx => (h2.mem x).2 ⟨hs x (List.mem_range.1 hx), List.mem_range.1 hx⟩)
  rw [List.length_range] at this
  omega
end Go.Proofs.Ytchmjgjagaaomaa
