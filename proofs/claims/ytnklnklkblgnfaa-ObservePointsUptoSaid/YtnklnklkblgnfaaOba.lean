/- Contracts of ascending. -/
import Derived.Test.YtnklnklkblgnfaaObs
namespace Go.Proofs.Ytnklnklkblgnfaa
open Go.RowKit Go.Dfl Go.Gra Go.Obs Go.Sort Go.Maps
theorem nodup_le' {α : Type} [DecidableEq α] {l m : List α} (hl : l.Nodup) (h : ∀ x ∈ l, x ∈ m) : l.length ≤ m.length := by
  induction l generalizing m with
  | nil => simp
  | cons a l ih =>
    rw [List.nodup_cons] at hl
    have := ih hl.2 (m := m.erase a) fun x hx => (List.mem_erase_of_ne (fun e => hl.1 (by rw [← e]; exact hx))).2 (h x (by simp [hx]))
    rw [List.length_erase_of_mem (h a (by simp))] at this
    have := List.length_pos_of_mem (h a (by simp))
    simp; omega
theorem nodup_snoc {α : Type} {l : List α} {x : α} (h : l.Nodup) (hx : x ∉ l) : (l ++ [x]).Nodup := by
  rw [List.nodup_append]
  exact ⟨h, by simp, fun a ha b hb => by rw [List.mem_singleton.1 hb]; exact fun e => hx (e ▸ ha)⟩
theorem _root_.Go.Dfl.OwnE.shape2 {α : Type} {E : El α} {w : World} {base : Nat} {e : TypeId} {a : Option Addr} {c : Nat} {l : List α} (h : OwnE E w base e (.slice a l.length c) l) : (a = none ∧ l = [] ∧ c = 0) ∨ ∃ g, a = some ⟨g, 0, none⟩ := by
  obtain ⟨h1, ⟨h2, h3⟩ | ⟨g, cap, cur, hv, r⟩⟩ := h
  · simp only [Value.slice.injEq] at h2
    exact .inl ⟨h2.1, List.eq_nil_of_length_eq_zero h3, h2.2.2⟩
  · simp only [Value.slice.injEq] at hv
    exact .inr ⟨g, hv.1⟩
theorem _root_.Go.World.size_alloc' (w : World) (o : Obj) : (w.alloc o).heap.size = w.heap.size + 1 := World.size_alloc _ _
set_option maxHeartbeats 3200000 in
set_option maxRecDepth 100000 in
theorem ascP_any (b n : Nat) (l : List (Int × Int × Int)) (W : World) (h : SetT Try.prog 53 4 W b n (l.map pv)) (hn : n ≤ 2000000) (hln : l.length ≤ 2000000) (hw : ∀ x ∈ l, inI x.1 ∧ inI x.2.1 ∧ inI x.2.2) :
    Calls Try.prog 17 #[.map (some b), .func (.func 18) #[] #[]] W (ascPR l W) := by
  have H0 := Lib.hid (And.intro h (And.intro h.lt hln))
  have HW := Lib.hid hw
  obtain ⟨m, hm, hlen⟩ := h.len (t := 54) Try.underlying54
  clear h hw hln
  go_enter Try.func17, Try.ntmps17
  go_wp2_with (at_make; refine wp_make0 (E := elP) sPf _ rfl _ _ rfl .i64 .i64 m rfl rfl (by omega) (by unfold maxLen; omega) ?_)
  intro W1 hown hb1
  have hbz := hb1.size
  have H1 := Lib.hid (And.intro hown (And.intro hb1 (H0.out.1.kept (grownBy_below hb1) (by simp))))
  clear hown hb1 hlen
  go_wp2_with (at_range; refine wp_setRange H1.out.2.2 rfl _ rfl pkKeyed Try.underlying54 rfl ?_; intro W2 cnt hr hg2 hs2; have H2 := Lib.hid (And.intro hr (And.intro hg2 hs2)); clear hr hg2 hs2)
  go_frame
  obtain ⟨r, hr⟩ : ∃ r, r = W1.heap.size := ⟨_, rfl⟩
  obtain ⟨B, hB⟩ : ∃ B, B = W.heap.size := ⟨_, rfl⟩
  have H3 : Hid (RngT Try.prog 53 4 W2 b r n (l.map pv) ([].map pv) cnt ∧ OwnE elP W2 B 53 (.slice (some ⟨B, 0, none⟩) 0 m) [] ∧ Below B W W2 ∧ B ≤ W2.heap.size) := Lib.hid (by
    rw [hr, hB]
    have h9 := H1.out.2.1.grown H2.out.2.1 H1.out.2.1.size (by simp)
    exact ⟨H2.out.1, H1.out.1.grown H2.out.2.1 (.inr (by simp [Value.ownBlock])), h9, h9.size⟩)
  have HR := Lib.hid (And.intro hr (And.intro hB (show b < B ∧ B < r by
    rw [hr, hB]
    exact ⟨H0.out.2.1, (OwnE.lt H1.out.1 _ rfl).2⟩)))
  rw [← hr, ← hB]
  clear hr hB H1 H2
  go_loopw [5] (fun v wr => ∃ (S : List (Int × Int × Int)) (a : Option Addr) (c cnt : Nat), v = .slice a S.length c ∧ Hid (RngT Try.prog 53 4 wr b r n (l.map pv) (S.map pv) cnt ∧ OwnE elP wr B 53 (.slice a S.length c) S ∧ Below B W wr ∧ S.Nodup ∧ (∀ x ∈ S, x ∈ l) ∧ (∀ q, (Value.slice a S.length c).ownBlock = some q → q ≠ r))) (fun _ wr => wr.rangeLeft b r)
  case atStart => exact ⟨[], some ⟨B, 0, none⟩, m, cnt, rfl, H3.out.1, H3.out.2.1, H3.out.2.2.1, List.nodup_nil, by simp, fun q hq => by have := HR.out.2.2.2; simp [Value.ownBlock] at hq; omega⟩
  case round =>
    obtain ⟨S, a, c, cnt, rfl, hh⟩ := hrel
    have HL := Lib.hid hh.out
    have hrg := hh.out.1
    clear hh
    go_upto_region 5 with (at_next; refine wp_setNext3 pv (fun _ _ _ => rfl) HL.out.1 rfl _ rfl pkKeyed Try.underlying4 rfl (fun HD => ?_) (fun x1 x2 x3 cb W3 HN hen => ?_); all_goals clear hrg)
    · have hmem : ∀ x, x ∈ S ↔ x ∈ l := fun x => ⟨HL.out.2.2.2.2.1 x, fun hx => by
        obtain ⟨y, hy, he⟩ := List.mem_map.1 (HD.out x (pkWf x (HW.out x hx)) hx)
        rw [← pv_inj he]; exact hy⟩
      have hSl : S.length ≤ 2000000 := Nat.le_trans (nodup_le' HL.out.2.2.2.1 HL.out.2.2.2.2.1) H0.out.2.2
      have HM := Lib.hid hmem
      have hB := HR.out.2.1
      have HF : Hid (Below W.heap.size W wr) := Lib.hid (hB ▸ HL.out.2.2.1)
      have hown := HL.out.2.1
      rw [hB] at hown
      clear hmem
      rcases hown.shape2 with ⟨rfl, hz, rfl⟩ | ⟨g, rfl⟩
      · have HZ := Lib.hid hz
        have hl0 : S.length = 0 := by rw [hz]; rfl
        rw [hl0]
        refine (spSort_nil _ _ wr).mono ?_
        rintro e W5 ⟨rfl, rfl⟩
        clear hown hB hz hl0
        go_wp2_with fail
        go_ret
        exact ⟨none, 0, S, by rw [HZ.out]; rfl, by rw [HZ.out]; exact Go.Dfl.OwnE.nil _ _ _ _, by rw [HZ.out]; exact List.Pairwise.nil, HM.out, HF.out⟩
      · have hs := spSort_any W.heap.size g c S wr hown (by omega) HL.out.2.2.2.1
        have hg := (OwnE.lt hown g rfl).1
        have HG := Lib.hid hg
        clear hown hB hg
        refine hs.mono ?_
        rintro e W5 ⟨L, rfl, hp, hpw, ho, hgr⟩
        have hlen := hp.length_eq
        have H5 := Lib.hid (And.intro hp (And.intro hpw (And.intro ho (And.intro (HF.out.grown hgr HF.out.size (fun q e9 => by have := HG.out; have := Option.some.inj e9; omega)) hlen))))
        clear hs hp hpw ho hgr hlen
        go_wp2_with fail
        go_ret
        exact ⟨some ⟨g, 0, none⟩, c, L, by rw [H5.out.2.2.2.2]; rfl, by rw [H5.out.2.2.2.2]; exact H5.out.2.2.1, H5.out.2.1, fun x => by rw [H5.out.1.mem_iff]; exact HM.out x, H5.out.2.2.2.1⟩
    · obtain ⟨cnt3, k1, k2, k3, k4, k5, k6⟩ := HN.out
      have hSl : (S ++ [(x1, x2, x3)]).length ≤ 2000000 := Nat.le_trans (nodup_le' (nodup_snoc HL.out.2.2.2.1 k2) (fun y hy => by
        rcases List.mem_append.1 hy with hy | hy
        · exact HL.out.2.2.2.2.1 y hy
        · rw [List.mem_singleton.1 hy]; exact k1)) H0.out.2.2
      rw [List.length_append, List.length_singleton] at hSl
      have hown : OwnE elP W3 B 53 (.slice a S.length c) S := HL.out.2.1.grown k5 (by
        cases hq : (Value.slice a S.length c).ownBlock with
        | none => exact .inl rfl
        | some q => exact .inr fun e9 => HL.out.2.2.2.2.2 q hq (Option.some.inj e9))
      have hBz : B ≤ wr.heap.size := by rw [HR.out.2.1]; exact HL.out.2.2.1.size
      have hBz3 : B ≤ W3.heap.size := by rw [k6]; exact hBz
      have hbel : Below B W W3 := HL.out.2.2.1.grown k5 hBz (fun q e9 => by have := HR.out.2.2.2; have := Option.some.inj e9; omega)
      have hbA := hbel.alloc hBz3 (.cells #[.int .i64 x1, .int .i64 x2, .int .i64 x3] 53)
      have hrl := k3.lt
      have hbx := cells_new (W := W3) (cs := [.int .i64 x1, .int .i64 x2, .int .i64 x3]) (t := 53) rfl
      have hA : RngT Try.prog 53 4 (W3.alloc (.cells #[.int .i64 x1, .int .i64 x2, .int .i64 x3] 53)) b r n (l.map pv) ((S ++ [(x1, x2, x3)]).map pv) cnt3 ∧ OwnE elP (W3.alloc (.cells #[.int .i64 x1, .int .i64 x2, .int .i64 x3] 53)) B 53 (.slice a S.length c) S ∧ Below B W (W3.alloc (.cells #[.int .i64 x1, .int .i64 x2, .int .i64 x3] 53)) ∧ ((W3.alloc (.cells #[.int .i64 x1, .int .i64 x2, .int .i64 x3] 53)).cell? ⟨W3.heap.size, 0, none⟩ = some (.int .i64 x1) ∧ (W3.alloc (.cells #[.int .i64 x1, .int .i64 x2, .int .i64 x3] 53)).cell? ⟨W3.heap.size, 1, none⟩ = some (.int .i64 x2) ∧ (W3.alloc (.cells #[.int .i64 x1, .int .i64 x2, .int .i64 x3] 53)).cell? ⟨W3.heap.size, 2, none⟩ = some (.int .i64 x3)) ∧ r < (W3.alloc (.cells #[.int .i64 x1, .int .i64 x2, .int .i64 x3] 53)).heap.size :=
        ⟨k3.kept (grownBy_alloc _ _) (by simp) (by simp), hown.grown (grownBy_alloc _ _) (by cases (Value.slice a S.length c).ownBlock <;> simp), hbA, ⟨hbx 0 _ rfl, hbx 1 _ rfl, hbx 2 _ rfl⟩, by rw [World.size_alloc]; have := k3.lt.1; omega⟩
      have HN2 := Lib.hid (And.intro k1 (And.intro k2 k4))
      clear k1 k2 k4 k5 k6 hown hbel hbA hbx HN k3 hrl hen
      refine gen_code (fun Z => RngT Try.prog 53 4 Z b r n (l.map pv) ((S ++ [(x1, x2, x3)]).map pv) cnt3 ∧ OwnE elP Z B 53 (.slice a S.length c) S ∧ Below B W Z ∧ (Z.cell? ⟨W3.heap.size, 0, none⟩ = some (.int .i64 x1) ∧ Z.cell? ⟨W3.heap.size, 1, none⟩ = some (.int .i64 x2) ∧ Z.cell? ⟨W3.heap.size, 2, none⟩ = some (.int .i64 x3)) ∧ r < Z.heap.size) hA ?_
      intro Z hz
      obtain ⟨bx, hbx⟩ : ∃ q, q = W3.heap.size := ⟨_, rfl⟩
      rw [← hbx] at hz ⊢
      obtain ⟨z1, z2, z3⟩ := hz.2.2.2.1
      have HZ := Lib.hid hz
      have hsz : B ≤ Z.heap.size := by rw [HR.out.2.1]; exact hz.2.2.1.size
      have hlen1 : (S.length + 1) * 24 ≤ 140737488355328 := by omega
      have hlen2 : S.length + 1 ≤ 1000000000000 := by omega
      have HO9 := Lib.hid (OwnE.grown hz.2.1 (grownBy_alloc Z (.cells #[.int .i64 x1, .int .i64 x2, .int .i64 x3] 53)) (by cases (Value.slice a S.length c).ownBlock <;> simp))
      clear hA hz hbx hBz hBz3
      go_wp2_with (at_builtin; refine wp_appendE (E := elP) sPf rfl rfl _ _ rfl (v := .slice a S.length c) (l := S) (base := B) rfl Z.heap.size rfl HO9.out (x1, x2, x3) (cells_new (W := Z) (cs := [.int .i64 x1, .int .i64 x2, .int .i64 x3]) (t := 53) rfl) hlen1 hlen2 (le_alloc _ hsz) ?_; intro v' w3 hown hgr hat; obtain ⟨s9, c9, rfl⟩ := hown.shape (n := S.length + 1) (by rw [List.length_append]; rfl); have HO := Lib.hid (And.intro hown (And.intro hgr hat)); clear hown hgr hat)
      have hne : ∀ q, (Value.slice a S.length c).ownBlock = some q → q ≠ r := HL.out.2.2.2.2.2
      have hrk : RngT Try.prog 53 4 w3 b r n (l.map pv) ((S ++ [(x1, x2, x3)]).map pv) cnt3 := (HZ.out.1.kept (grownBy_alloc _ _) (by simp) (by simp)).kept HO.out.2.1 (fun e9 => by
        have := (HL.out.2.1.lt b e9.symm).1; have := HR.out.2.2.1; omega) (fun e9 => hne r e9.symm rfl)
      have hb3 : Below B W w3 := (HZ.out.2.2.1.alloc hsz _).grown HO.out.2.1 (by rw [World.size_alloc]; omega) (fun q e9 => (HL.out.2.1.lt q e9).1)
      have HK := Lib.hid (And.intro hrk hb3)
      have hnq : ∀ q, (Value.slice s9 (S.length + 1) c9).ownBlock = some q → q ≠ r := fun q e9 => by
        rcases HO.out.2.2 with h9 | h9
        · exact hne q (by rw [← h9]; exact e9)
        · rw [h9, World.size_alloc'] at e9
          have := HZ.out.2.2.2.2; have := Option.some.inj e9; omega
      have HQ := Lib.hid hnq
      clear hne hrk hb3 hnq
      go_roundw
      case rel => exact ⟨S ++ [(x1, x2, x3)], s9, c9, cnt3, by rw [List.length_append]; rfl, HK.out.1, by rw [List.length_append]; exact HO.out.1, HK.out.2, nodup_snoc HL.out.2.2.2.1 HN2.out.2.1, fun y hy => by
        rcases List.mem_append.1 hy with hy | hy
        · exact HL.out.2.2.2.2.1 y hy
        · rw [List.mem_singleton.1 hy]; exact HN2.out.1, by rw [List.length_append]; exact HQ.out⟩
      case measure => rw [HK.out.1.left_eq, HL.out.1.left_eq]; exact HN2.out.2.2
set_option maxHeartbeats 3200000 in
set_option maxRecDepth 100000 in
theorem ascN_any (b n : Nat) (l : List (Int × Int × Int × Int)) (W : World) (h : SetT Try.prog 32 4 W b n (l.map nv)) (hn : n ≤ 2000000) (hln : l.length ≤ 2000000) (hw : ∀ x ∈ l, inI x.1 ∧ inI x.2.1 ∧ inI x.2.2.1 ∧ inI x.2.2.2) :
    Calls Try.prog 22 #[.map (some b), .func (.func 23) #[] #[]] W (ascNR l W) := by
  have H0 := Lib.hid (And.intro h (And.intro h.lt hln))
  have HW := Lib.hid hw
  obtain ⟨m, hm, hlen⟩ := h.len (t := 62) Try.underlying62
  clear h hw hln
  go_enter Try.func22, Try.ntmps22
  go_wp2_with (at_make; refine wp_make0 (E := elN) sNf _ rfl _ _ rfl .i64 .i64 m rfl rfl (by omega) (by unfold maxLen; omega) ?_)
  intro W1 hown hb1
  have hbz := hb1.size
  have H1 := Lib.hid (And.intro hown (And.intro hb1 (H0.out.1.kept (grownBy_below hb1) (by simp))))
  clear hown hb1 hlen
  go_wp2_with (at_range; refine wp_setRange H1.out.2.2 rfl _ rfl nkKeyed Try.underlying62 rfl ?_; intro W2 cnt hr hg2 hs2; have H2 := Lib.hid (And.intro hr (And.intro hg2 hs2)); clear hr hg2 hs2)
  go_frame
  obtain ⟨r, hr⟩ : ∃ r, r = W1.heap.size := ⟨_, rfl⟩
  obtain ⟨B, hB⟩ : ∃ B, B = W.heap.size := ⟨_, rfl⟩
  have H3 : Hid (RngT Try.prog 32 4 W2 b r n (l.map nv) ([].map nv) cnt ∧ OwnE elN W2 B 32 (.slice (some ⟨B, 0, none⟩) 0 m) [] ∧ Below B W W2 ∧ B ≤ W2.heap.size) := Lib.hid (by
    rw [hr, hB]
    have h9 := H1.out.2.1.grown H2.out.2.1 H1.out.2.1.size (by simp)
    exact ⟨H2.out.1, H1.out.1.grown H2.out.2.1 (.inr (by simp [Value.ownBlock])), h9, h9.size⟩)
  have HR := Lib.hid (And.intro hr (And.intro hB (show b < B ∧ B < r by
    rw [hr, hB]
    exact ⟨H0.out.2.1, (OwnE.lt H1.out.1 _ rfl).2⟩)))
  rw [← hr, ← hB]
  clear hr hB H1 H2
  go_loopw [5] (fun v wr => ∃ (S : List (Int × Int × Int × Int)) (a : Option Addr) (c cnt : Nat), v = .slice a S.length c ∧ Hid (RngT Try.prog 32 4 wr b r n (l.map nv) (S.map nv) cnt ∧ OwnE elN wr B 32 (.slice a S.length c) S ∧ Below B W wr ∧ S.Nodup ∧ (∀ x ∈ S, x ∈ l) ∧ (∀ q, (Value.slice a S.length c).ownBlock = some q → q ≠ r))) (fun _ wr => wr.rangeLeft b r)
  case atStart => exact ⟨[], some ⟨B, 0, none⟩, m, cnt, rfl, H3.out.1, H3.out.2.1, H3.out.2.2.1, List.nodup_nil, by simp, fun q hq => by have := HR.out.2.2.2; simp [Value.ownBlock] at hq; omega⟩
  case round =>
    obtain ⟨S, a, c, cnt, rfl, hh⟩ := hrel
    have HL := Lib.hid hh.out
    have hrg := hh.out.1
    clear hh
    go_upto_region 5 with (at_next; refine wp_setNext4 nv (fun _ _ _ _ => rfl) HL.out.1 rfl _ rfl nkKeyed Try.underlying4 rfl (fun HD => ?_) (fun x1 x2 x3 x4 cb W3 HN hen => ?_); all_goals clear hrg)
    · have hmem : ∀ x, x ∈ S ↔ x ∈ l := fun x => ⟨HL.out.2.2.2.2.1 x, fun hx => by
        obtain ⟨y, hy, he⟩ := List.mem_map.1 (HD.out x (nkWf x (HW.out x hx)) hx)
        rw [← nv_inj he]; exact hy⟩
      have hSl : S.length ≤ 2000000 := Nat.le_trans (nodup_le' HL.out.2.2.2.1 HL.out.2.2.2.2.1) H0.out.2.2
      have HM := Lib.hid hmem
      have hB := HR.out.2.1
      have HF : Hid (Below W.heap.size W wr) := Lib.hid (hB ▸ HL.out.2.2.1)
      have hown := HL.out.2.1
      rw [hB] at hown
      clear hmem
      rcases hown.shape2 with ⟨rfl, hz, rfl⟩ | ⟨g, rfl⟩
      · have HZ := Lib.hid hz
        have hl0 : S.length = 0 := by rw [hz]; rfl
        rw [hl0]
        refine (snSort_nil _ _ wr).mono ?_
        rintro e W5 ⟨rfl, rfl⟩
        clear hown hB hz hl0
        go_wp2_with fail
        go_ret
        exact ⟨none, 0, S, by rw [HZ.out]; rfl, by rw [HZ.out]; exact Go.Dfl.OwnE.nil _ _ _ _, by rw [HZ.out]; exact List.Pairwise.nil, HM.out, HF.out⟩
      · have hs := snSort_any W.heap.size g c S wr hown (by omega) HL.out.2.2.2.1
        have hg := (OwnE.lt hown g rfl).1
        have HG := Lib.hid hg
        clear hown hB hg
        refine hs.mono ?_
        rintro e W5 ⟨L, rfl, hp, hpw, ho, hgr⟩
        have hlen := hp.length_eq
        have H5 := Lib.hid (And.intro hp (And.intro hpw (And.intro ho (And.intro (HF.out.grown hgr HF.out.size (fun q e9 => by have := HG.out; have := Option.some.inj e9; omega)) hlen))))
        clear hs hp hpw ho hgr hlen
        go_wp2_with fail
        go_ret
        exact ⟨some ⟨g, 0, none⟩, c, L, by rw [H5.out.2.2.2.2]; rfl, by rw [H5.out.2.2.2.2]; exact H5.out.2.2.1, H5.out.2.1, fun x => by rw [H5.out.1.mem_iff]; exact HM.out x, H5.out.2.2.2.1⟩
    · obtain ⟨cnt3, k1, k2, k3, k4, k5, k6⟩ := HN.out
      have hSl : (S ++ [(x1, x2, x3, x4)]).length ≤ 2000000 := Nat.le_trans (nodup_le' (nodup_snoc HL.out.2.2.2.1 k2) (fun y hy => by
        rcases List.mem_append.1 hy with hy | hy
        · exact HL.out.2.2.2.2.1 y hy
        · rw [List.mem_singleton.1 hy]; exact k1)) H0.out.2.2
      rw [List.length_append, List.length_singleton] at hSl
      have hown : OwnE elN W3 B 32 (.slice a S.length c) S := HL.out.2.1.grown k5 (by
        cases hq : (Value.slice a S.length c).ownBlock with
        | none => exact .inl rfl
        | some q => exact .inr fun e9 => HL.out.2.2.2.2.2 q hq (Option.some.inj e9))
      have hBz : B ≤ wr.heap.size := by rw [HR.out.2.1]; exact HL.out.2.2.1.size
      have hBz3 : B ≤ W3.heap.size := by rw [k6]; exact hBz
      have hbel : Below B W W3 := HL.out.2.2.1.grown k5 hBz (fun q e9 => by have := HR.out.2.2.2; have := Option.some.inj e9; omega)
      have hbA := hbel.alloc hBz3 (.cells #[.int .i64 x1, .int .i64 x2, .int .i64 x3, .int .i64 x4] 32)
      have hrl := k3.lt
      have hbx := cells_new (W := W3) (cs := [.int .i64 x1, .int .i64 x2, .int .i64 x3, .int .i64 x4]) (t := 32) rfl
      have hA : RngT Try.prog 32 4 (W3.alloc (.cells #[.int .i64 x1, .int .i64 x2, .int .i64 x3, .int .i64 x4] 32)) b r n (l.map nv) ((S ++ [(x1, x2, x3, x4)]).map nv) cnt3 ∧ OwnE elN (W3.alloc (.cells #[.int .i64 x1, .int .i64 x2, .int .i64 x3, .int .i64 x4] 32)) B 32 (.slice a S.length c) S ∧ Below B W (W3.alloc (.cells #[.int .i64 x1, .int .i64 x2, .int .i64 x3, .int .i64 x4] 32)) ∧ ((W3.alloc (.cells #[.int .i64 x1, .int .i64 x2, .int .i64 x3, .int .i64 x4] 32)).cell? ⟨W3.heap.size, 0, none⟩ = some (.int .i64 x1) ∧ (W3.alloc (.cells #[.int .i64 x1, .int .i64 x2, .int .i64 x3, .int .i64 x4] 32)).cell? ⟨W3.heap.size, 1, none⟩ = some (.int .i64 x2) ∧ (W3.alloc (.cells #[.int .i64 x1, .int .i64 x2, .int .i64 x3, .int .i64 x4] 32)).cell? ⟨W3.heap.size, 2, none⟩ = some (.int .i64 x3) ∧ (W3.alloc (.cells #[.int .i64 x1, .int .i64 x2, .int .i64 x3, .int .i64 x4] 32)).cell? ⟨W3.heap.size, 3, none⟩ = some (.int .i64 x4)) ∧ r < (W3.alloc (.cells #[.int .i64 x1, .int .i64 x2, .int .i64 x3, .int .i64 x4] 32)).heap.size :=
        ⟨k3.kept (grownBy_alloc _ _) (by simp) (by simp), hown.grown (grownBy_alloc _ _) (by cases (Value.slice a S.length c).ownBlock <;> simp), hbA, ⟨hbx 0 _ rfl, hbx 1 _ rfl, hbx 2 _ rfl, hbx 3 _ rfl⟩, by rw [World.size_alloc]; have := k3.lt.1; omega⟩
      have HN2 := Lib.hid (And.intro k1 (And.intro k2 k4))
      clear k1 k2 k4 k5 k6 hown hbel hbA hbx HN k3 hrl hen
      refine gen_code (fun Z => RngT Try.prog 32 4 Z b r n (l.map nv) ((S ++ [(x1, x2, x3, x4)]).map nv) cnt3 ∧ OwnE elN Z B 32 (.slice a S.length c) S ∧ Below B W Z ∧ (Z.cell? ⟨W3.heap.size, 0, none⟩ = some (.int .i64 x1) ∧ Z.cell? ⟨W3.heap.size, 1, none⟩ = some (.int .i64 x2) ∧ Z.cell? ⟨W3.heap.size, 2, none⟩ = some (.int .i64 x3) ∧ Z.cell? ⟨W3.heap.size, 3, none⟩ = some (.int .i64 x4)) ∧ r < Z.heap.size) hA ?_
      intro Z hz
      obtain ⟨bx, hbx⟩ : ∃ q, q = W3.heap.size := ⟨_, rfl⟩
      rw [← hbx] at hz ⊢
      obtain ⟨z1, z2, z3, z4⟩ := hz.2.2.2.1
      have HZ := Lib.hid hz
      have hsz : B ≤ Z.heap.size := by rw [HR.out.2.1]; exact hz.2.2.1.size
      have hlen1 : (S.length + 1) * 32 ≤ 140737488355328 := by omega
      have hlen2 : S.length + 1 ≤ 1000000000000 := by omega
      have HO9 := Lib.hid (OwnE.grown hz.2.1 (grownBy_alloc Z (.cells #[.int .i64 x1, .int .i64 x2, .int .i64 x3, .int .i64 x4] 32)) (by cases (Value.slice a S.length c).ownBlock <;> simp))
      clear hA hz hbx hBz hBz3
      go_wp2_with (at_builtin; refine wp_appendE (E := elN) sNf rfl rfl _ _ rfl (v := .slice a S.length c) (l := S) (base := B) rfl Z.heap.size rfl HO9.out (x1, x2, x3, x4) (cells_new (W := Z) (cs := [.int .i64 x1, .int .i64 x2, .int .i64 x3, .int .i64 x4]) (t := 32) rfl) hlen1 hlen2 (le_alloc _ hsz) ?_; intro v' w3 hown hgr hat; obtain ⟨s9, c9, rfl⟩ := hown.shape (n := S.length + 1) (by rw [List.length_append]; rfl); have HO := Lib.hid (And.intro hown (And.intro hgr hat)); clear hown hgr hat)
      have hne : ∀ q, (Value.slice a S.length c).ownBlock = some q → q ≠ r := HL.out.2.2.2.2.2
      have hrk : RngT Try.prog 32 4 w3 b r n (l.map nv) ((S ++ [(x1, x2, x3, x4)]).map nv) cnt3 := (HZ.out.1.kept (grownBy_alloc _ _) (by simp) (by simp)).kept HO.out.2.1 (fun e9 => by
        have := (HL.out.2.1.lt b e9.symm).1; have := HR.out.2.2.1; omega) (fun e9 => hne r e9.symm rfl)
      have hb3 : Below B W w3 := (HZ.out.2.2.1.alloc hsz _).grown HO.out.2.1 (by rw [World.size_alloc]; omega) (fun q e9 => (HL.out.2.1.lt q e9).1)
      have HK := Lib.hid (And.intro hrk hb3)
      have hnq : ∀ q, (Value.slice s9 (S.length + 1) c9).ownBlock = some q → q ≠ r := fun q e9 => by
        rcases HO.out.2.2 with h9 | h9
        · exact hne q (by rw [← h9]; exact e9)
        · rw [h9, World.size_alloc'] at e9
          have := HZ.out.2.2.2.2; have := Option.some.inj e9; omega
      have HQ := Lib.hid hnq
      clear hne hrk hb3 hnq
      go_roundw
      case rel => exact ⟨S ++ [(x1, x2, x3, x4)], s9, c9, cnt3, by rw [List.length_append]; rfl, HK.out.1, by rw [List.length_append]; exact HO.out.1, HK.out.2, nodup_snoc HL.out.2.2.2.1 HN2.out.2.1, fun y hy => by
        rcases List.mem_append.1 hy with hy | hy
        · exact HL.out.2.2.2.2.1 y hy
        · rw [List.mem_singleton.1 hy]; exact HN2.out.1, by rw [List.length_append]; exact HQ.out⟩
      case measure => rw [HK.out.1.left_eq, HL.out.1.left_eq]; exact HN2.out.2.2
end Go.Proofs.Ytnklnklkblgnfaa
