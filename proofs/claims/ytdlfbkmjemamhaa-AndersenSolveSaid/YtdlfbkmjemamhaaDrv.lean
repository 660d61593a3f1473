/- Contracts of Derive and of the reference's Short, Small, Few. -/
import Derived.Test.YtdlfbkmjemamhaaCls
namespace Go.Proofs.Ytdlfbkmjemamhaa
open Go.RowKit Go.Dfl Go.And

theorem sorted_ext : ∀ {L M : List Nat}, L.Pairwise (· < ·) → M.Pairwise (· < ·) → (∀ x, x ∈ L ↔ x ∈ M) → L = M
  | [], [], _, _, _ => rfl
  | [], y :: M, _, _, h => by have := (h y).2 (by simp); cases this
  | x :: L, [], _, _, h => by have := (h x).1 (by simp); cases this
  | x :: L, y :: M, hL, hM, h => by
    rw [List.pairwise_cons] at hL hM
    have hxy : x = y := by
      have h1 := (h x).1 (by simp)
      have h2 := (h y).2 (by simp)
      rcases List.mem_cons.1 h1 with e | e
      · exact e
      · rcases List.mem_cons.1 h2 with e2 | e2
        · exact e2.symm
        · have := hM.1 x e; have := hL.1 y e2; omega
    subst hxy
    rw [sorted_ext hL.2 hM.2 fun z => ?_]
    have := h z
    constructor
    · intro hz
      have hlt := hL.1 z hz
      rcases List.mem_cons.1 (this.1 (by simp [hz])) with e | e
      · omega
      · exact e
    · intro hz
      have hlt := hM.1 z hz
      rcases List.mem_cons.1 (this.2 (by simp [hz])) with e | e
      · omega
      · exact e
theorem IsSol.unique {S : Syst} {i : Nat} {l m : List Int} (h : IsSol S i l) (k : IsSol S i m) : l = m := by
  obtain ⟨L, rfl, h1, h2⟩ := h
  obtain ⟨M, rfl, k1, k2⟩ := k
  rw [sorted_ext h1 k1 fun x => by rw [h2, k2]]
theorem Sol.unique {S : Syst} {lu lv lu' lv' : List (List Int)} (h : Sol S lu lv) (k : Sol S lu' lv') : lu = lu' ∧ lv = lv' := by
  refine ⟨nth_ext (by rw [h.1, k.1]) fun i hi => (h.2.2.1 i (by rw [← h.1]; exact hi)).unique (k.2.2.1 i (by rw [← h.1]; exact hi)), nth_ext (by rw [h.2.1, k.2.1]) fun i hi => (h.2.2.2 i (by rw [← h.2.1]; exact hi)).unique (k.2.2.2 i (by rw [← h.2.1]; exact hi))⟩
theorem IsSol.mem {S : Syst} {i : Nat} {l : List Int} (h : IsSol S i l) (x : Int) : x ∈ l ↔ 0 ≤ x ∧ Pts S i x.toNat := by
  obtain ⟨L, rfl, -, h2⟩ := h
  constructor
  · intro hx
    obtain ⟨y, hy, rfl⟩ := List.mem_map.1 hx
    exact ⟨by omega, by simpa using (h2 y).1 hy⟩
  · rintro ⟨h0, hx⟩
    exact List.mem_map.2 ⟨x.toNat, (h2 _).2 hx, by omega⟩
theorem IsSol.small {S : Syst} {i : Nat} {l : List Int} (h : IsSol S i l) (hS : S.Ok) (hs : S.sites ≤ 12) : (∀ x ∈ l, 0 ≤ x ∧ x < S.sites) ∧ l.length ≤ 12 := by
  refine ⟨fun x hx => ?_, ?_⟩
  · obtain ⟨h0, hp⟩ := (h.mem x).1 hx
    have := (pts_bound hS hp).2
    omega
  · obtain ⟨L, rfl, h1, h2⟩ := h
    rw [List.length_map]
    have := sorted_len' h1 fun x hx => (pts_bound hS ((h2 x).1 hx)).2
    omega
theorem Sol.inR {S : Syst} {lu lv : List (List Int)} (h : Sol S lu lv) (hS : S.Ok) (hs : S.sites ≤ 12) : InR lu ∧ InR lv ∧ (∀ i, i < lu.length → (nth lu i).length ≤ 12) ∧ ∀ i, i < lv.length → (nth lv i).length ≤ 12 :=
  ⟨fun i hi x hx => by have := ((h.2.2.1 i (by rw [← h.1]; exact hi)).small hS hs).1 x hx; omega, fun i hi x hx => by have := ((h.2.2.2 i (by rw [← h.2.1]; exact hi)).small hS hs).1 x hx; omega,
    fun i hi => ((h.2.2.1 i (by rw [← h.1]; exact hi)).small hS hs).2, fun i hi => ((h.2.2.2 i (by rw [← h.2.1]; exact hi)).small hS hs).2⟩

/-- What Derive asks. -/
def DeriveP (s : Sy) (a1 a2 : List (List Int)) : Prop := ClosedP s a1 a2 ∧ ∃ lu lv, Sol s.S lu lv ∧ winB a1 lu = true ∧ winB a2 lv = true

theorem PtsIn.below {W W' : World} {u v : Value} {a b : List (List Int)} (h : PtsIn W u v a b) (hb : Below W.heap.size W W') : PtsIn W' u v a b := by
  obtain ⟨⟨us, h1⟩, vs, h2⟩ := h
  exact ⟨⟨us, h1.below hb⟩, vs, h2.below hb⟩
theorem PtsIn.shape {W : World} {u v : Value} {a b : List (List Int)} (h : PtsIn W u v a b) : ∃ ua uc va vc, u = .slice ua a.length uc ∧ v = .slice va b.length vc := by
  obtain ⟨⟨us, h1⟩, vs, h2⟩ := h
  obtain ⟨ua, uc, e1, -⟩ := h1.1.out1 sInt2
  obtain ⟨va, vc, e2, -⟩ := h2.1.out1 sInt2
  rw [h1.2.1] at e1
  rw [h2.2.1] at e2
  exact ⟨ua, uc, va, vc, e1, e2⟩

set_option maxHeartbeats 3200000 in
set_option maxRecDepth 100000 in
theorem Derive_any (s : Sy) (cv u1 u2 : Value) (a1 a2 : List (List Int)) (W : World) (hc : ConsIn W cv s.cons) (hs : Sm s) (hu : PtsIn W u1 u2 a1 a2) (hl1 : a1.length ≤ 100) (hl2 : a2.length ≤ 100) (r1 : InR a1) (r2 : InR a2) :
    Calls Try.prog 18 #[SysV s cv, .agg #[u1, u2]] W fun e W' => ∃ b, e = .returned (.bool b) ∧ (b = true ↔ DeriveP s a1 a2) ∧ Below W.heap.size W W' := by
  obtain ⟨ua1, uc1, ua2, uc2, rfl, rfl⟩ := hu.shape
  obtain ⟨ca, cc, rfl, -⟩ := hc.out
  have HC := Lib.hid (And.intro hc (And.intro hs (And.intro hu (And.intro r1 r2))))
  clear hc hs hu r1 r2
  unfold SysV
  have hbs := BoxS.new W s (.slice ca s.cons.length cc) 24
  have gB := grownBy_alloc (W.alloc (.cells #[.int .i64 s.vars, .int .i64 s.sites, .int .i64 s.fields, .slice ca s.cons.length cc] 24)) (.cells #[.slice ua1 a1.length uc1, .slice ua2 a2.length uc2] 29)
  have hbs2 := hbs.grown gB (by simp)
  have hpn := cells_new (W := W.alloc (.cells #[.int .i64 s.vars, .int .i64 s.sites, .int .i64 s.fields, .slice ca s.cons.length cc] 24)) (cs := [.slice ua1 a1.length uc1, .slice ua2 a2.length uc2]) (t := 29) (B := W.heap.size + 1) (by simp)
  have hbb := below2' W (.cells #[.int .i64 s.vars, .int .i64 s.sites, .int .i64 s.fields, .slice ca s.cons.length cc] 24) (.cells #[.slice ua1 a1.length uc1, .slice ua2 a2.length uc2] 29)
  have H0 := Lib.hid (And.intro hbs2 (And.intro (hpn 0 _ rfl) (And.intro (hpn 1 _ rfl) hbb)))
  clear hbs gB hbs2 hpn hbb
  go_enter Try.func18, Try.ntmps18
  go_wp2_with fail
  refine (Closed_any s (.slice ca s.cons.length cc) _ _ a1 a2 _ (HC.out.1.below H0.out.2.2.2) HC.out.2.1 (HC.out.2.2.1.below H0.out.2.2.2) hl1 hl2).mono ?_
  rintro e W1 ⟨b, rfl, hb, q1⟩
  have g1 := grownBy_below q1
  have hb1 : Below W.heap.size W W1 := H0.out.2.2.2.trans (q1.mono H0.out.2.2.2.size)
  obtain ⟨d0, d1, d2, d3⟩ := H0.out.1.grown g1 (by simp)
  have p0 : W1.cell? ⟨W.heap.size + 1, 0, none⟩ = some (.slice ua1 a1.length uc1) := g1.cell H0.out.2.1 (by simp)
  have p1 : W1.cell? ⟨W.heap.size + 1, 1, none⟩ = some (.slice ua2 a2.length uc2) := g1.cell H0.out.2.2.1 (by simp)
  have H1 := Lib.hid (And.intro hb1 hb)
  clear q1 g1 hb1 hb H0
  cases b
  · go_wp2_with fail
    go_ret
    exact ⟨false, rfl, ⟨fun h => absurd h Bool.false_ne_true, fun h => absurd (H1.out.2.2 h.1) Bool.false_ne_true⟩, H1.out.1⟩
  · have hcl : ClosedP s a1 a2 := H1.out.2.1 rfl
    have HCL := Lib.hid hcl
    clear hcl
    go_wp2_with fail
    refine (Solve_any s (.slice ca s.cons.length cc) _ (HC.out.1.below H1.out.1) HC.out.2.1).mono ?_
    rintro e W2 (⟨hbad, -⟩ | ⟨-, xa, xc, ya, yc, lu, lv, rfl, hpts, hsol, q2⟩)
    · exact absurd HCL.out.chk hbad
    have g2 := grownBy_below q2
    have p2 : W2.cell? ⟨W.heap.size + 1, 0, none⟩ = some (.slice ua1 a1.length uc1) := g2.cell p0 (by simp)
    have p3 : W2.cell? ⟨W.heap.size + 1, 1, none⟩ = some (.slice ua2 a2.length uc2) := g2.cell p1 (by simp)
    have hb2 : Below W.heap.size W W2 := H1.out.1.trans (q2.mono H1.out.1.size)
    have hb3 : Below W.heap.size W (W2.alloc (.cells #[.slice xa s.S.vars xc, .slice ya (s.S.sites * s.S.fields) yc] 29)) := hb2.alloc hb2.size _
    have hpt3 := hpts.below (W' := W2.alloc (.cells #[.slice xa s.S.vars xc, .slice ya (s.S.sites * s.S.fields) yc] 29)) ((Below.refl _ _).alloc (Nat.le_refl _) _)
    have hInR := hsol.inR (chkCode_ok.1 HCL.out.chk).ok (by have := HC.out.2.1.sites; show s.sites.toNat ≤ 12; omega)
    have hplt : W.heap.size + 1 < W2.heap.size := World.block_lt_of_cell? W2 ⟨W.heap.size + 1, 0, none⟩ p2
    have hpn : W.heap.size + 1 ≠ W2.heap.size := by omega
    have H2 := Lib.hid (And.intro hb3 (And.intro hpt3 (And.intro hsol hInR)))
    clear hb2 hb3 hpt3 hsol hInR hpts q2 g2 p0 p1 d0 d1 d2 d3
    go_wp2_with fail
    refine (WithinP_any _ _ _ _ a1 a2 lu lv _ (HC.out.2.2.1.below H2.out.1) H2.out.2.1 HC.out.2.2.2.1 HC.out.2.2.2.2 H2.out.2.2.2.1 H2.out.2.2.2.2.1 (fun i hi => Nat.le_trans (H2.out.2.2.2.2.2.1 i hi) (by omega)) (fun i hi => Nat.le_trans (H2.out.2.2.2.2.2.2 i hi) (by omega))).mono ?_
    rintro e W3 ⟨rfl, q3⟩
    have H3 := Lib.hid (H2.out.1.trans (q3.mono H2.out.1.size))
    clear q3 p2 p3
    generalize hw : (winB a1 lu && winB a2 lv) = bb at *
    have HW := Lib.hid hw
    clear hw
    go_wp2_with fail
    go_ret
    refine ⟨bb, rfl, ?_, H3.out⟩
    rw [← HW.out, Bool.and_eq_true]
    constructor
    · intro h
      exact ⟨HCL.out, lu, lv, H2.out.2.2.1, h⟩
    · rintro ⟨-, lu', lv', hs', h'⟩
      obtain ⟨rfl, rfl⟩ := H2.out.2.2.1.unique hs'
      exact h'

/-- A function that tells. -/
def Tell (P : Prop) (W : World) (e : Ending) (W' : World) : Prop := ∃ b, e = .returned (.bool b) ∧ (b = true ↔ P) ∧ Below W.heap.size W W'
/-- What Short asks. -/
def ShortP (s : Sy) : Prop := s.cons.length ≤ 100 ∧ ∀ i, i < s.cons.length → (nth s.cons i).s.length ≤ 40
def SmallP (s : Sy) : Prop := ShortP s ∧ s.vars ≤ 40 ∧ s.sites ≤ 12 ∧ s.fields ≤ 5
def FewP (a1 a2 : List (List Int)) : Prop := a1.length ≤ 50 ∧ a2.length ≤ 70 ∧ (∀ i, i < a1.length → (nth a1 i).length ≤ 40) ∧ ∀ i, i < a2.length → (nth a2 i).length ≤ 40
theorem SmallP.sm {s : Sy} (h : SmallP s) : Sm s := ⟨h.2.1, h.2.2.1, h.2.2.2, by have := h.1.1; omega⟩

set_option maxHeartbeats 1600000 in
theorem Short_any (s : Sy) (cv : Value) (W : World) (hc : ConsIn W cv s.cons) :
    Calls Try.prog 20 #[SysV s cv] W (Tell (ShortP s) W) := by
  obtain ⟨ca, cc, rfl, hlen, hci, hcc⟩ := hc.out
  have HC := Lib.hid hcc
  clear hcc hc
  unfold SysV
  by_cases h1 : 100 < s.cons.length
  · go_enter Try.func20, Try.ntmps20
    go_wp2_with fail
    go_ret
    exact ⟨false, rfl, ⟨fun h => absurd h Bool.false_ne_true, fun h => by have := h.1; omega⟩, (Below.refl _ _).alloc (Nat.le_refl _) _⟩
  · go_enter Try.func20, Try.ntmps20
    go_wp2_with fail
    refine wp_gen (fun Z => BoxS Z W.heap.size s (.slice ca s.cons.length cc) ∧ Below W.heap.size W Z) ⟨BoxS.new _ _ _ _, (Below.refl _ _).alloc (Nat.le_refl _) _⟩ ?_
    rintro W1 ⟨⟨d0, d1, d2, d3⟩, hb1⟩
    have H1 := Lib.hid hb1
    clear hb1
    go_loop [3] (fun x => ∃ k : Nat, k ≤ s.cons.length ∧ x = .int .i64 k ∧ Hid (∀ i, i < k → (nth s.cons i).s.length ≤ 40)) (fun x => s.cons.length - (intOf x).toNat)
    case atStart => exact ⟨0, by omega, rfl, fun i hi => by omega⟩
    case round =>
      obtain ⟨k, hk, rfl, hh⟩ := hrel
      by_cases hlt : k < s.cons.length
      · obtain ⟨sa, sn, sc, -, -, -, -, c4, hset, hbl⟩ := HC.out k hlt
        rw [← H1.out.cell (p := ⟨blk ca, ofs ca + k * 5 + 4, none⟩) hbl] at c4
        obtain ⟨sa2, sc2, he, -⟩ := hset.out1 sInt
        simp only [Value.slice.injEq] at he
        obtain ⟨rfl, rfl, rfl⟩ := he
        clear hset
        by_cases h2 : 40 < (nth s.cons k).s.length
        · go_wp2_with fail
          go_ret
          exact ⟨false, rfl, ⟨fun h => absurd h Bool.false_ne_true, fun h => by have := h.2 k hlt; omega⟩, H1.out⟩
        · go_wp2_with fail
          go_round
          case rel => exact ⟨k + 1, by omega, by go_num, fun i hi => by
            by_cases e : i = k
            · subst e; omega
            · exact hh.out i (by omega)⟩
          case measure => simp [intOf]; omega
      · go_wp2_with fail
        go_ret
        exact ⟨true, rfl, ⟨fun _ => ⟨by omega, fun i hi => hh.out i (by omega)⟩, fun _ => rfl⟩, H1.out⟩

set_option maxHeartbeats 1600000 in
theorem Small_any (s : Sy) (cv : Value) (W : World) (hc : ConsIn W cv s.cons) :
    Calls Try.prog 8 #[SysV s cv] W (Tell (SmallP s) W) := by
  obtain ⟨ca, cc, rfl, -⟩ := hc.out
  have hb0 : Below W.heap.size W _ := (Below.refl W.heap.size W).alloc (Nat.le_refl _) (.cells #[.int .i64 s.vars, .int .i64 s.sites, .int .i64 s.fields, .slice ca s.cons.length cc] 24)
  have hbs := BoxS.new W s (.slice ca s.cons.length cc) 24
  have HC := Lib.hid (And.intro hc (And.intro hb0 hbs))
  clear hc hb0 hbs
  unfold SysV
  go_enter Try.func8, Try.ntmps8
  go_wp2_with fail
  refine (Short_any s (.slice ca s.cons.length cc) _ (HC.out.1.below HC.out.2.1)).mono ?_
  rintro e W1 ⟨b, rfl, hb, q1⟩
  have H1 := Lib.hid (And.intro hb (HC.out.2.1.trans (q1.mono HC.out.2.1.size)))
  obtain ⟨d0, d1, d2, d3⟩ := HC.out.2.2.grown (grownBy_below q1) (by simp)
  clear hb q1
  cases b
  · go_wp2_with fail
    go_ret
    exact ⟨false, rfl, ⟨fun h => absurd h Bool.false_ne_true, fun h => absurd (H1.out.1.2 h.1) Bool.false_ne_true⟩, H1.out.2⟩
  · have hsh := H1.out.1.1 rfl
    have HS := Lib.hid hsh
    clear hsh
    by_cases h1 : s.vars ≤ 40
    · by_cases h2 : s.sites ≤ 12
      · by_cases h3 : s.fields ≤ 5
        · go_wp2_with fail
          go_ret
          exact ⟨true, by simp, ⟨fun _ => ⟨HS.out, h1, h2, h3⟩, fun _ => rfl⟩, H1.out.2⟩
        · go_wp2_with fail
          go_ret
          exact ⟨false, by simp; omega, ⟨fun h => absurd h Bool.false_ne_true, fun h => by have := h.2.2.2; omega⟩, H1.out.2⟩
      · go_wp2_with fail
        go_ret
        exact ⟨false, by first | rfl | (simp; omega), ⟨fun h => absurd h Bool.false_ne_true, fun h => by have := h.2.2.1; omega⟩, H1.out.2⟩
    · go_wp2_with fail
      go_ret
      exact ⟨false, by first | rfl | (simp; omega), ⟨fun h => absurd h Bool.false_ne_true, fun h => by have := h.2.1; omega⟩, H1.out.2⟩

set_option maxHeartbeats 1600000 in
theorem Few_any (u1 u2 : Value) (a1 a2 : List (List Int)) (W : World) (hu : PtsIn W u1 u2 a1 a2) :
    Calls Try.prog 12 #[.agg #[u1, u2]] W (Tell (FewP a1 a2) W) := by
  obtain ⟨⟨us1, hu1⟩, us2, hu2⟩ := hu
  obtain ⟨ua1, uc1, e1, hm1, hi1, hcl1, hb1⟩ := hu1.1.out1 sInt2
  obtain ⟨ua2, uc2, e2, hm2, hi2, hcl2, hb2⟩ := hu2.1.out1 sInt2
  rw [hu1.2.1] at e1 hm1 hi1 hcl1 hb1
  rw [hu2.2.1] at e2 hm2 hi2 hcl2 hb2
  subst e1 e2
  have HU := Lib.hid (And.intro hu1 (And.intro hu2 (And.intro hcl1 (And.intro hb1 (And.intro hcl2 hb2)))))
  clear hu1 hu2 hcl1 hb1 hcl2 hb2
  have hpn := cells_new (W := W) (cs := [.slice ua1 a1.length uc1, .slice ua2 a2.length uc2]) (t := 29) rfl
  have d0' := hpn 0 _ rfl
  have d1' := hpn 1 _ rfl
  have HD := Lib.hid (And.intro d0' d1')
  clear hpn d0' d1'
  by_cases h1 : 50 < a1.length
  · go_enter Try.func12, Try.ntmps12
    go_wp2_with fail
    go_ret
    exact ⟨false, rfl, ⟨fun h => absurd h Bool.false_ne_true, fun h => by have := h.1; omega⟩, (Below.refl _ _).alloc (Nat.le_refl _) _⟩
  · by_cases h2 : 70 < a2.length
    · go_enter Try.func12, Try.ntmps12
      go_wp2_with fail
      go_ret
      exact ⟨false, rfl, ⟨fun h => absurd h Bool.false_ne_true, fun h => by have := h.2.1; omega⟩, (Below.refl _ _).alloc (Nat.le_refl _) _⟩
    · go_enter Try.func12, Try.ntmps12
      go_wp2_with fail
      refine wp_gen (fun Z => Z.cell? ⟨W.heap.size, 0, none⟩ = some (.slice ua1 a1.length uc1) ∧ Z.cell? ⟨W.heap.size, 1, none⟩ = some (.slice ua2 a2.length uc2) ∧ Below W.heap.size W Z) ⟨HD.out.1, HD.out.2, (Below.refl _ _).alloc (Nat.le_refl _) _⟩ ?_
      rintro W1 ⟨d0, d1, hb1⟩
      have H1 := Lib.hid hb1
      clear hb1
      go_loop [3] (fun x => ∃ k : Nat, k ≤ a1.length ∧ x = .int .i64 k ∧ Hid (∀ i, i < k → (nth a1 i).length ≤ 40)) (fun x => a1.length - (intOf x).toNat)
      case atStart => exact ⟨0, by omega, rfl, fun i hi => by omega⟩
      case round =>
        obtain ⟨k, hk, rfl, hh⟩ := hrel
        by_cases hlt : k < a1.length
        · obtain ⟨ea, ec, he, -⟩ := (HU.out.1.2.2 k hlt).out1 sInt
          have hck : W1.cell? ⟨blk ua1, ofs ua1 + k, none⟩ = some (.slice ea (nth a1 k).length ec) := by rw [H1.out.cell (p := ⟨blk ua1, ofs ua1 + k, none⟩) (HU.out.2.2.2.1 k hlt), ← he]; exact HU.out.2.2.1 k hlt
          by_cases h2 : 40 < (nth a1 k).length
          · go_wp2_with fail
            go_ret
            exact ⟨false, rfl, ⟨fun h => absurd h Bool.false_ne_true, fun h => by have := h.2.2.1 k hlt; omega⟩, H1.out⟩
          · go_wp2_with fail
            go_round
            case rel => exact ⟨k + 1, by omega, by go_num, fun i hi => by
              by_cases e : i = k
              · subst e; omega
              · exact hh.out i (by omega)⟩
            case measure => simp [intOf]; omega
        · have HE : Hid (∀ i, i < a1.length → (nth a1 i).length ≤ 40) := fun i hi => hh.out i (by omega)
          clear hh
          go_wp2_with fail
          go_loop [4] (fun x => ∃ k : Nat, k ≤ a2.length ∧ x = .int .i64 k ∧ Hid (∀ i, i < k → (nth a2 i).length ≤ 40)) (fun x => a2.length - (intOf x).toNat)
          case atStart => exact ⟨0, by omega, rfl, fun i hi => by omega⟩
          case round =>
            obtain ⟨k, hk, rfl, hh⟩ := hrel
            by_cases hlt : k < a2.length
            · obtain ⟨ea, ec, he, -⟩ := (HU.out.2.1.2.2 k hlt).out1 sInt
              have hck : W1.cell? ⟨blk ua2, ofs ua2 + k, none⟩ = some (.slice ea (nth a2 k).length ec) := by rw [H1.out.cell (p := ⟨blk ua2, ofs ua2 + k, none⟩) (HU.out.2.2.2.2.2 k hlt), ← he]; exact HU.out.2.2.2.2.1 k hlt
              by_cases h2 : 40 < (nth a2 k).length
              · go_wp2_with fail
                go_ret
                exact ⟨false, rfl, ⟨fun h => absurd h Bool.false_ne_true, fun h => by have := h.2.2.2 k hlt; omega⟩, H1.out⟩
              · go_wp2_with fail
                go_round
                case rel => exact ⟨k + 1, by omega, by go_num, fun i hi => by
                  by_cases e : i = k
                  · subst e; omega
                  · exact hh.out i (by omega)⟩
                case measure => simp [intOf]; omega
            · go_wp2_with fail
              go_ret
              exact ⟨true, rfl, ⟨fun _ => ⟨by omega, by omega, HE.out, fun i hi => hh.out i (by omega)⟩, fun _ => rfl⟩, H1.out⟩
end Go.Proofs.Ytdlfbkmjemamhaa
