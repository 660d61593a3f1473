/- DomTree: for any graph, root and node, the strict dominators are those that one meets by following immediate dominators to the root. -/
import Derived.Test.YtlijimdkadobmaaDnw
namespace Go.Proofs.Ytlijimdkadobmaa
open Go.ChangeShapes Go.WideShapes Go.ChangeAt Go.RowKit Go.Dfl Go.Gra

/-- The climb, each node met once. -/
structure ChQ (g : G) (k x : Nat) (l : List Nat) (z : Int) : Prop where
  all : ∀ y, (y ∈ l ∨ ∃ c : Nat, z = (c : Int) ∧ Go.Dm.Dom (dmC g k) c y) ↔ (Go.Dm.Dom (dmC g k) x y ∧ y ≠ x)
  at' : z = -1 ∨ ∃ c : Nat, z = (c : Int) ∧ c ∈ postL g k ∧ ∀ y ∈ l, (postL g k).idxOf y < (postL g k).idxOf c
  nd : l.Nodup
theorem ChQ.start {g : G} {k x : Nat} {uf : List Int} (h : Idm g k uf) (hvg : VG g) (hk : k < g.n.toNat) (hx : x < g.n.toNat) : ChQ g k x [] (nth uf x) := by
  by_cases hp : x ∈ postL g k
  · have h1 := ChP.start h hvg hk hp
    exact ⟨h1.all, h1.at'.imp id fun ⟨c, c1, c2, _⟩ => ⟨c, c1, c2, fun y hy => by simp at hy⟩, List.nodup_nil⟩
  · rw [h.no x hx (.inl hp)]
    refine ⟨fun y => ⟨fun hy => ?_, fun hy => absurd hy.1.1 hp⟩, .inl rfl, List.nodup_nil⟩
    rcases hy with hy | ⟨c, hc, -⟩
    · cases hy
    · omega
theorem ChQ.len {g : G} {k x c : Nat} {l : List Nat} (h : ChQ g k x l (c : Int)) : l.length ≤ (postL g k).idxOf c := by
  rcases h.at' with h1 | ⟨c', h1, hc, hl⟩
  · omega
  · obtain rfl : c = c' := by omega
    have h2 : (l.map (postL g k).idxOf).Nodup := by
      refine List.pairwise_map.2 ?_
      have : ∀ a ∈ l, a ∈ postL g k := fun a ha => by
        apply Classical.byContradiction
        intro hn
        have h9 := hl a ha
        rw [List.idxOf_eq_length hn] at h9
        have := List.idxOf_lt_length_of_mem hc
        omega
      exact (h.nd.imp_of_mem fun {a b} ha hb hne e => hne (by rw [← nth_idx (this a ha), ← nth_idx (this b hb), e]))
    have h3 := nodup_len ((postL g k).idxOf c) _ h2 fun y hy => by
      obtain ⟨a, ha, rfl⟩ := List.mem_map.1 hy
      exact hl a ha
    rwa [List.length_map] at h3
theorem ChQ.step {g : G} {k x c : Nat} {l : List Nat} {uf : List Int} (h : ChQ g k x l (c : Int)) (hi : Idm g k uf) (hvg : VG g) (hk : k < g.n.toNat) : c ∈ postL g k ∧ (Go.Dm.Dom (dmC g k) x c ∧ c ≠ x) ∧ ChQ g k x (l ++ [c]) (nth uf c) ∧ ((nth uf c = -1 ∧ c = k) ∨ (0 ≤ nth uf c ∧ ∃ w : Nat, nth uf c = (w : Int) ∧ w ∈ postL g k ∧ (postL g k).idxOf c < (postL g k).idxOf w)) := by
  have hlen := h.len
  rcases h.at' with h1 | ⟨c', h1, hc, hl⟩
  · omega
  obtain rfl : c = c' := by omega
  have hp : ChP g k x l (c : Int) := ⟨h.all, .inr ⟨c, rfl, hc, hlen⟩⟩
  obtain ⟨-, s2, s3⟩ := hp.step hi hvg hk
  have hdc := (h.all c).1 (.inr ⟨c, rfl, Go.Dm.Dom.refl hc⟩)
  have hcl : c ∉ l := fun hm => Nat.lt_irrefl _ (hl c hm)
  refine ⟨hc, hdc, ⟨s2.all, ?_, nodup_snoc' h.nd hcl⟩, ?_⟩
  · rcases s3 with e | ⟨w, w1, w2, w3⟩
    · exact .inl e
    · refine .inr ⟨w, w1, w2, fun y hy => ?_⟩
      rcases List.mem_append.1 hy with hy | hy
      · exact Nat.lt_trans (hl y hy) w3
      · rw [List.mem_singleton.1 hy]; exact w3
  · rcases s3 with e | ⟨w, w1, w2, w3⟩
    · refine .inl ⟨e, ?_⟩
      apply Classical.byContradiction
      intro hck
      obtain ⟨w, w1, -⟩ := hi.yes c hc hck
      omega
    · exact .inr ⟨by rw [w1]; omega, w, w1, w2, w3⟩
/-- At the end all have been met. -/
theorem ChQ.fin {g : G} {k x : Nat} {l : List Nat} (h : ChQ g k x l (-1)) {L : List Int} (hL : StrP g (k : Int) (x : Int) L) (hvg : VG g) (hk : k < g.n.toNat) (hc : dcode g (k : Int) = 0) : l.length = L.length := by
  have hm : ∀ y : Int, y ∈ L ↔ ∃ a ∈ l, (a : Int) = y := fun y => by
    rw [hL.2, domD_iff hvg hk hc]
    constructor
    · rintro ⟨⟨a, b, rfl, e, hd⟩, hn⟩
      obtain rfl : x = b := by omega
      rcases (h.all a).2 ⟨hd, fun e => hn (by omega)⟩ with h9 | ⟨c, e9, -⟩
      · exact ⟨a, h9, rfl⟩
      · omega
    · rintro ⟨a, ha, rfl⟩
      have h9 := (h.all a).1 (.inl ha)
      exact ⟨⟨a, x, rfl, rfl, h9.1⟩, fun e => h9.2 (by omega)⟩
  have hn1 : (l.map fun x : Nat => (x : Int)).Nodup := List.pairwise_map.2 (h.nd.imp fun {a b} h e => h (by omega))
  have hn2 : L.Nodup := hL.1.imp fun {a b} h e => by omega
  have e1 := nodup_le _ L hn1 fun y hy => by
    obtain ⟨a, ha, rfl⟩ := List.mem_map.1 hy
    exact (hm _).2 ⟨a, ha, rfl⟩
  have e2 := nodup_le L (l.map fun x : Nat => (x : Int)) hn2 fun y hy => by
    obtain ⟨a, ha, rfl⟩ := (hm y).1 hy
    exact List.mem_map.2 ⟨a, ha, rfl⟩
  rw [List.length_map] at e1 e2
  omega
set_option maxHeartbeats 6400000 in
set_option maxRecDepth 100000 in
theorem DomTree_walk (g : G) (cv : Value) (r v : Int) (W : World) (h : Pairs W cv g.es) (_hr : -9223372036854775808 ≤ r ∧ r ≤ 9223372036854775807) (_hv : -9223372036854775808 ≤ v ∧ v ≤ 9223372036854775807) : Calls Try.prog 7 #[GV g cv, .int .i64 r, .int .i64 v] W (TruePost W) := by
  obtain ⟨ca, cc, rfl, -, -, -⟩ := pairs_rd h
  have hal := (Below.refl W.heap.size W).alloc (Nat.le_refl _) (.cells #[.int .i64 g.n, .slice ca g.es.length cc] 24)
  have H0 := Lib.hid (And.intro (GB.new h 24) hal)
  clear h hal _hr _hv
  obtain ⟨c0, c1⟩ := H0.out.1.box
  unfold GV
  go_enter Try.func7, Try.ntmps7
  by_cases hq1 : 300 < g.es.length
  · have q1 : (300 : Int) < (g.es.length : Int) := by omega
    go_wp2_with fail
    clear c0 c1
    refine (awake_any _).mono ?_
    rintro e Z ⟨rfl, b⟩
    have HB := Lib.hid (bel_trans H0.out.2 b)
    go_wp2_with fail
    go_ret
    exact ⟨rfl, HB.out⟩
  have q1 : ¬ (300 : Int) < (g.es.length : Int) := by omega
  by_cases q2 : 300 < g.n
  · go_wp2_with fail
    clear c0 c1
    refine (awake_any _).mono ?_
    rintro e Z ⟨rfl, b⟩
    have HB := Lib.hid (bel_trans H0.out.2 b)
    go_wp2_with fail
    go_ret
    exact ⟨rfl, HB.out⟩
  go_wp2_with fail
  have hnd := rNode_any g (.slice ca g.es.length cc) r _ H0.out.1.es
  unfold GV at hnd
  refine hnd.mono ?_
  rintro e W1 ⟨rfl, b⟩
  have H1 := Lib.hid (And.intro (H0.out.1.below b) (bel_trans H0.out.2 b))
  clear hnd b c0 c1
  obtain ⟨c0, c1⟩ := H1.out.1.box
  cases hn1 : nodeG g r
  · go_wp2_with fail
    clear c0 c1
    refine (awake_any _).mono ?_
    rintro e Z ⟨rfl, b⟩
    have HB := Lib.hid (bel_trans H1.out.2 b)
    go_wp2_with fail
    go_ret
    exact ⟨rfl, HB.out⟩
  have HN1 := Lib.hid hn1
  clear hn1
  go_wp2_with fail
  have hnd := rNode_any g (.slice ca g.es.length cc) v _ H1.out.1.es
  unfold GV at hnd
  refine hnd.mono ?_
  rintro e W2 ⟨rfl, b⟩
  have H2 := Lib.hid (And.intro (H1.out.1.below b) (bel_trans H1.out.2 b))
  clear hnd b c0 c1
  obtain ⟨c0, c1⟩ := H2.out.1.box
  cases hn2 : nodeG g v
  · go_wp2_with fail
    clear c0 c1
    refine (awake_any _).mono ?_
    rintro e Z ⟨rfl, b⟩
    have HB := Lib.hid (bel_trans H2.out.2 b)
    go_wp2_with fail
    go_ret
    exact ⟨rfl, HB.out⟩
  obtain ⟨v1, v2, v3⟩ := nodeG_iff.1 HN1.out
  obtain ⟨-, v4, v5⟩ := nodeG_iff.1 hn2
  obtain ⟨r, rfl⟩ : ∃ k : Nat, r = (k : Int) := ⟨r.toNat, by omega⟩
  obtain ⟨v, rfl⟩ : ∃ k : Nat, v = (k : Int) := ⟨v.toNat, by omega⟩
  have hrn : r < g.n.toNat := by omega
  have hvn : v < g.n.toNat := by omega
  have hdc : dcode g (r : Int) = 0 := by
    unfold dcode
    rw [if_neg (by rw [gCode_ok.2 v1]; simp), if_pos (nodeB_nat hrn)]
  have HV := Lib.hid (And.intro v1 (And.intro hrn (And.intro hvn hdc)))
  clear hn2 v1 v2 v3 v4 v5 hrn hvn hdc HN1
  go_wp2_with fail
  have hid := dIdom_any g (.slice ca g.es.length cc) (r : Int) _ H2.out.1.es
  unfold GV at hid
  refine hid.mono ?_
  rintro e W3 ⟨ia, ic, rfl, iI, b3, hI⟩
  rw [HV.out.2.2.2]
  have hidm := hI HV.out.2.2.2
  have hz : idomZ g (r : Int) = idomL g r := by unfold idomZ; rw [if_pos HV.out.2.2.2, Int.toNat_natCast]
  rw [Int.toNat_natCast] at hidm
  rw [hz, idomL_len] at iI ⊢
  obtain ⟨n, hn⟩ : ∃ n, n = g.n.toNat := ⟨_, rfl⟩
  rw [← hn] at iI ⊢
  have hgn : g.n = (n : Int) := by have := HV.out.1.n0; omega
  obtain ⟨ia', ic', he, hm, hi, hcl, hb⟩ := iI.out1 sIntG
  rw [idomL_len, ← hn] at he hm hi hcl hb
  simp only [Value.slice.injEq] at he
  obtain ⟨rfl, -, rfl⟩ := he
  have H3 := Lib.hid (And.intro (H2.out.1.below b3) (bel_trans H2.out.2 b3))
  have HI := Lib.hid (And.intro hidm (And.intro hcl (And.intro hb (And.intro hn hgn))))
  clear hid iI b3 hI hidm hz hcl hb hn c0 c1
  obtain ⟨c0, c1⟩ := H3.out.1.box
  rw [hgn] at c0
  clear hgn
  have hrn : r < n := by have := HV.out.2.1; have := HI.out.2.2.2.1; omega
  have hvn : v < n := by have := HV.out.2.2.1; have := HI.out.2.2.2.1; omega
  have r1 := HI.out.2.1 r hrn
  rw [HI.out.1.no r HV.out.2.1 (.inr rfl)] at r1
  have i1 := hi .i64 (r : Int) (by omega) (by omega)
  rw [Int.toNat_natCast] at i1
  go_wp2_with fail
  have hst := dStrict_any g (.slice ca g.es.length cc) (r : Int) (v : Int) W3 H3.out.1.es
  unfold GV at hst
  rw [HI.out.2.2.2.2] at hst
  refine hst.mono ?_
  rintro e W4 ⟨sa, sc, L, rfl, iL, b4, hL9⟩
  have H4 := Lib.hid (And.intro (H3.out.1.below b4) (And.intro (bel_trans H3.out.2 b4) (And.intro iL hL9)))
  have hcl4 : ∀ j, j < n → W4.cell? ⟨blk ia, ofs ia + j, none⟩ = some (.int .i64 (nth (idomL g r) j)) := fun j hj => by
    rw [b4.cell (p := ⟨blk ia, ofs ia + j, none⟩) (HI.out.2.2.1 j hj)]; exact HI.out.2.1 j hj
  have HC4 := Lib.hid hcl4
  obtain ⟨-, -, -, hLm, -⟩ := iL.out1 sIntG
  clear hst b4 iL hL9 hcl4 c0 c1 r1 i1 hrn
  obtain ⟨c0, c1⟩ := H4.out.1.box
  rw [HI.out.2.2.2.2] at c0
  have r1 := HC4.out v hvn
  have i1 := hi .i64 (v : Int) (by omega) (by omega)
  rw [Int.toNat_natCast] at i1
  obtain ⟨z0, hz0⟩ : ∃ z0, z0 = nth (idomL g r) v := ⟨_, rfl⟩
  rw [← hz0] at r1
  have hq0 := ChQ.start HI.out.1 HV.out.1 HV.out.2.1 HV.out.2.2.1
  rw [← hz0] at hq0
  have HQ0 := Lib.hid hq0
  clear hq0 hz0
  go_wp2_with fail
  clear r1 i1
  have hplen : (postL g r).length ≤ n := by have := (dmC_last HV.out.1 HV.out.2.1).2; have := HI.out.2.2.2.1; omega
  go_loopw [10, 11] (fun nv xv wr => ∃ (l : List Nat) (z : Int), nv = .int .i64 (l.length : Int) ∧ xv = .int .i64 z ∧ wr = W4 ∧ Hid (ChQ g r v l z)) (fun _ x _ => if intOf x < 0 then 0 else (postL g r).length - (postL g r).idxOf (intOf x).toNat)
  case atStart => exact ⟨[], z0, rfl, rfl, rfl, HQ0.out⟩
  case round =>
    obtain ⟨l, z, rfl, rfl, rfl, hh⟩ := hrel
    have HQ := Lib.hid hh.out
    clear hh
    by_cases hz : z < 0
    · have hz1 : z = -1 := by
        rcases HQ.out.at' with e | ⟨c, e, -⟩
        · exact e
        · omega
      have q3 : decide (z ≥ 0) = false := decide_eq_false (by omega)
      have hlen : l.length = L.length := by
        have h9 := HQ.out
        rw [hz1] at h9
        exact h9.fin H4.out.2.2.2 HV.out.1 HV.out.2.1 HV.out.2.2.2
      have q4 : ((l.length : Int) == (L.length : Int)) = true := by simp; omega
      clear hz hz1 hlen
      go_wp2_with fail
      clear q4
      clear c0 c1
      refine (awake_any _).mono ?_
      rintro e Z ⟨rfl, b⟩
      have HB := Lib.hid (bel_trans H4.out.2.1 b)
      go_wp2_with fail
      go_ret
      exact ⟨rfl, HB.out⟩
    · have q3 : decide (z ≥ 0) = true := decide_eq_true (by omega)
      obtain ⟨c, rfl⟩ : ∃ c : Nat, z = (c : Int) := ⟨z.toNat, by omega⟩
      have hlen := HQ.out.len
      obtain ⟨s1, s2, s3, s4⟩ := HQ.out.step HI.out.1 HV.out.1 HV.out.2.1
      have hidx := List.idxOf_lt_length_of_mem s1
      have hcn : c < n := by have := post_lt HV.out.1 HV.out.2.1 s1; have := HI.out.2.2.2.1; omega
      have q4 : l.length ≤ n := by omega
      have q4' : (l.length : Int) ≤ (n : Int) := by omega
      have q5' : ¬ n ≤ c := by omega
      have q5 : decide ((c : Int) ≥ (n : Int)) = false := decide_eq_false (by omega)
      have hin : decide ((c : Int) ∈ L) = true := by
        rw [decide_eq_true_eq, H4.out.2.2.2.2, domD_iff HV.out.1 HV.out.2.1 HV.out.2.2.2]
        exact ⟨⟨c, v, rfl, rfl, s2.1⟩, fun e => s2.2 (by omega)⟩
      have r1 := HC4.out c hcn
      have i1 := hi .i64 (c : Int) (by omega) (by omega)
      rw [Int.toNat_natCast] at i1
      obtain ⟨z', hz'⟩ : ∃ z', z' = nth (idomL g r) c := ⟨_, rfl⟩
      rw [← hz'] at r1 s3 s4
      have HN := Lib.hid (And.intro s3 (And.intro s4 hidx))
      have hnx : l.length ≤ 9223372036854775806 := by have := HV.out.1.n1; have := HI.out.2.2.2.1; omega
      have HIN := Lib.hid hin
      have hcs : (z' = -1 ∧ c = r) ∨ 0 ≤ z' := s4.imp id fun h => h.1
      clear hz s1 s2 s3 s4 hidx hz' hin hlen
      rcases hcs with ⟨rfl, rfl⟩ | hz0
      · have q6 : ((c : Int) != (c : Int)) = false := by simp
        go_wp2_with fail
        refine (in_any _ L (c : Int) wr H4.out.2.2.1).mono ?_
        rintro e V7 ⟨rfl, rfl⟩
        rw [HIN.out]
        go_wp2_with fail
        go_roundw
        case rel => exact ⟨l ++ [c], -1, by rw [List.length_append]; go_num, rfl, trivial, HN.out.1⟩
        case measure =>
          show (if (-1 : Int) < 0 then 0 else (postL g c).length - (postL g c).idxOf (-1 : Int).toNat) < if (c : Int) < 0 then 0 else (postL g c).length - (postL g c).idxOf (c : Int).toNat
          rw [if_pos (by omega), if_neg (by omega), Int.toNat_natCast]
          have := HN.out.2.2
          omega
      · have q6 : decide (z' < 0) = false := decide_eq_false (by omega)
        go_wp2_with fail
        refine (in_any _ L (c : Int) wr H4.out.2.2.1).mono ?_
        rintro e V7 ⟨rfl, rfl⟩
        rw [HIN.out]
        go_wp2_with fail
        go_roundw
        case rel => exact ⟨l ++ [c], z', by rw [List.length_append]; go_num, rfl, trivial, HN.out.1⟩
        case measure =>
          rcases HN.out.2.1 with ⟨e, -⟩ | ⟨-, w, e, w1, w2⟩
          · omega
          · subst e
            show (if (w : Int) < 0 then 0 else (postL g r).length - (postL g r).idxOf (w : Int).toNat) < if (c : Int) < 0 then 0 else (postL g r).length - (postL g r).idxOf (c : Int).toNat
            rw [if_neg (by omega), if_neg (by omega), Int.toNat_natCast, Int.toNat_natCast]
            have := HN.out.2.2
            omega
set_option maxRecDepth 100000 in
theorem DomTree_lifted (os : Os) (started : os.Started) (H : Type) (enc : TypeId × Value → H) :
    ReturnsInHanded {} Try.checked os 7 .any (Rows.domTreeSpec.pre6 enc Try.prog Try.f7 Rows.domTreeRow.domain false) (Rows.domTreeSpec.post enc Try.prog Try.f7 false true false false) := by
  refine returnsInHanded_of_change (C := Try.checked) own started (by kernel_rfl) Try.func7
    (ChangeSpec.witness6 (enc := enc) (C := Try.checked) false ⟨#[], #[.agg #[.int .i64 0, .slice none 0 0], .int .i64 0, .int .i64 0], []⟩ 8 (by kernel_rfl) (by kernel_rfl) (by kernel_rfl) (by kernel_rfl)) ?_
  intro W base args ds gs before hval0 hW hcnd _
  have hval : ∀ (j : Nat) t v, Try.f7.params[j]? = some t → args[j]? = some v → Value.okWide Try.prog W .any base t v := hval0
  have hW' := hW
  obtain ⟨p, q, hA0, hV, rfl, hfz, hnd⟩ := hW
  have hA : DataW.TrodAll enc Try.prog W 0 (fun _ => true) true Try.f7.params.toList args.toList ds p := hA0
  rw [Try.params7] at hA hval
  obtain ⟨v0, vs0, d0, ds0, p0, q0, hargs, rfl, rfl, h0, r0⟩ := trodAll_cons hA
  obtain ⟨v1, vs1, d1, ds1, p1, q1, rfl, rfl, rfl, h1, r1⟩ := trodAll_cons r0
  obtain ⟨v2, vs2, d2, ds2, p2, q2, rfl, rfl, rfl, h2, r2⟩ := trodAll_cons r1
  obtain ⟨rfl, rfl, rfl⟩ := trodAll_nil r2
  obtain rfl : args = #[v0, v1, v2] := by cases args; simp_all
  obtain ⟨rfl, rfl⟩ := trodVars_none hV
  obtain ⟨c0, rfl, sz0⟩ := okWide_struct Try.underlying24 (hval 0 24 v0 rfl rfl)
  have k0 := h0
  obtain ⟨g0, cv0, eq0, hC0⟩ := graph_of_trod sz0 h0
  obtain rfl : c0 = #[.int .i64 g0.n, cv0] := by simpa [GV] using eq0
  have lt0 : ∀ x ∈ p0, x.block < W.heap.size := by obtain ⟨m, hm⟩ := k0; exact DataW.trod_lt m _ _ _ hm
  obtain ⟨a1, rfl, rfl, rfl, w1⟩ := open_int Try.underlying3 (hval 1 3 v1 rfl rfl) h1
  have b1 := bounds_i64 w1
  obtain ⟨a2, rfl, rfl, rfl, w2⟩ := open_int Try.underlying3 (hval 2 3 v2 rfl rfl) h2
  have b2 := bounds_i64 w2
  clear hA0 hval0
  refine (DomTree_walk g0 cv0 a1 a2 W hC0 b1 b2).mono fun e W' ⟨he, bel⟩ => ?_
  subst he
  exact ⟨_, rfl, _, _, _, [], _, [], hW', trodAll_mk1 (shut_bool Try.underlying4 _), (trodAll_cons_mk (Below.trod laidOut (by kernel_rfl) (of_decide_eq_true (by kernel_rfl)) k0 bel lt0) (trodAll_cons_mk (shut_int Try.underlying3 w1) (trodAll_cons_mk (shut_int Try.underlying3 w2) trodAll_mk0))), rfl, bel.frame _, fun h => by cases h⟩

/-- The given statement. -/
theorem DomTree_holds : Rows.DomTreeSaid :=
  OpenClaim.holds_of_wide 7 Try.f7 rfl rfl rfl rfl rfl rfl rfl ⟨rfl, rfl, rfl, rfl, rfl⟩ rfl rfl rfl rfl rfl (by kernel_rfl) Try.func7 (by kernel_rfl)
    (of_decide_eq_true (by kernel_rfl)) (by unfold Func.isWrapper; first | (rw [if_pos (by decide +kernel)]; kernel_rfl) | (rw [if_neg (by decide +kernel)]; exact ⟨rfl, rfl⟩))
    (fun os started H enc _ => DomTree_lifted os started H enc)

end Go.Proofs.Ytlijimdkadobmaa
