/- The closed example of the statements on demand queries. -/
import Derived.Test.YtkfhopnolflchaaDmx
namespace Go.And
open Go.Dfl (nth nth_mem mem_nth nth_eq nth_out)
def sD : Sy := ⟨4, 2, 1, [⟨1, 1, 0, 0, []⟩, ⟨2, 0, 1, 0, []⟩, ⟨2, 1, 2, 0, []⟩, ⟨4, 2, 3, 0, []⟩]⟩
theorem chk_sD : chkCode sD = 0 := by decide
theorem sm_sD : Sm sD := ⟨by decide, by decide, by decide, by decide⟩
theorem cons_sD {c : C} (h : c ∈ sD.S.cons) : c = ⟨1, 1, 0, 0, []⟩ ∨ c = ⟨2, 0, 1, 0, []⟩ ∨ c = ⟨2, 1, 2, 0, []⟩ ∨ c = ⟨4, 2, 3, 0, []⟩ := by
  simpa [sD, Sy.S, R.C] using h
theorem dcode_sD {v : Int} (h0 : 0 ≤ v) (h1 : v < 4) : dCode sD v = 0 := dCode_ok chk_sD (by have : sD.vars = 4 := rfl; omega)
theorem ld_sD (v f : Nat) : ¬ LdF sD.S v f := fun ⟨c, hc, h3, _⟩ => by
  rcases cons_sD hc with rfl | rfl | rfl | rfl <;> simp at h3
theorem vis_sD {v x : Nat} (h : Vis sD.S v x) : x = v ∨ (x = 0 ∧ Vis sD.S v 1) ∨ (x = 1 ∧ Vis sD.S v 2) := by
  cases h with
  | root => exact .inl rfl
  | flow hc hf hb =>
    rcases cons_sD hc with rfl | rfl | rfl | rfl
    · simp [Flw] at hf
    · exact .inr (.inl ⟨rfl, hb⟩)
    · exact .inr (.inr ⟨rfl, hb⟩)
    · simp [Flw] at hf
  | sa hc h3 => rcases cons_sD hc with rfl | rfl | rfl | rfl <;> simp at h3
  | sb hc h3 => rcases cons_sD hc with rfl | rfl | rfl | rfl <;> simp at h3
theorem vis1 {v : Nat} (h : Vis sD.S v 1) : v = 1 ∨ Vis sD.S v 2 := by
  rcases vis_sD h with h1 | ⟨h1, -⟩ | ⟨-, h1⟩
  · exact .inl h1.symm
  · omega
  · exact .inr h1
theorem vis2 {v : Nat} (h : Vis sD.S v 2) : v = 2 := by
  rcases vis_sD h with h1 | ⟨h1, -⟩ | ⟨h1, -⟩ <;> omega
theorem m1 : (⟨2, 0, 1, 0, []⟩ : C) ∈ sD.S.cons := by simp [sD, Sy.S, R.C]
theorem m2 : (⟨2, 1, 2, 0, []⟩ : C) ∈ sD.S.cons := by simp [sD, Sy.S, R.C]
theorem visD2 : IsVis sD.S 2 [true, true, true, false] := by
  refine ⟨rfl, fun x => ⟨fun h => ?_, fun h => ?_⟩⟩
  · have v1 : Vis sD.S 2 1 := .flow m2 (.inl rfl) .root
    have v0 : Vis sD.S 2 0 := .flow m1 (.inl rfl) v1
    match x, h with
    | 0, _ => exact v0
    | 1, _ => exact v1
    | 2, _ => exact .root
    | 3, h => simp [nth] at h
    | n + 4, h => rw [nth_out _ _ (by simp)] at h; cases h
  · rcases vis_sD h with rfl | ⟨rfl, -⟩ | ⟨rfl, -⟩ <;> rfl
theorem visD0 : IsVis sD.S 0 [true, false, false, false] := by
  refine ⟨rfl, fun x => ⟨fun h => ?_, fun h => ?_⟩⟩
  · match x, h with
    | 0, _ => exact .root
    | 1, h => simp [nth] at h
    | 2, h => simp [nth] at h
    | 3, h => simp [nth] at h
    | n + 4, h => rw [nth_out _ _ (by simp)] at h; cases h
  · rcases vis_sD h with rfl | ⟨rfl, -⟩ | ⟨rfl, h2⟩
    · rfl
    · rfl
    · have := vis2 h2; omega
theorem visD3 : IsVis sD.S 3 [false, false, false, true] := by
  refine ⟨rfl, fun x => ⟨fun h => ?_, fun h => ?_⟩⟩
  · match x, h with
    | 0, h => simp [nth] at h
    | 1, h => simp [nth] at h
    | 2, h => simp [nth] at h
    | 3, _ => exact .root
    | n + 4, h => rw [nth_out _ _ (by simp)] at h; cases h
  · rcases vis_sD h with rfl | ⟨rfl, h2⟩ | ⟨rfl, h2⟩
    · rfl
    · rcases vis1 h2 with h3 | h3
      · omega
      · have := vis2 h3; omega
    · have := vis2 h2; omega
theorem shutD : Shut sD.S (fun i x => i ≤ 2 ∧ x = 1) := by
  intro c hc
  rcases cons_sD hc with rfl | rfl | rfl | rfl <;> simp [Holds]
end Go.And
namespace Go.Proofs.Ytkfhopnolflchaa
open Go.RowKit Go.Dfl Go.And

theorem solD {i : Nat} (hi : Pts sD.S i 1) : IsSol sD.S i [1] := ⟨[1], rfl, by simp, fun y => by
  constructor
  · intro h; simp at h; subst h; exact hi
  · intro h; have := (h _ shutD).2; simp; exact this⟩
theorem ptsD0 : Pts sD.S 0 1 := fun p hp => (hp ⟨1, 1, 0, 0, []⟩ (by simp [sD, Sy.S, R.C])).1 rfl
theorem ptsD2 : Pts sD.S 2 1 := fun p hp => (hp _ m2).2.1 rfl 1 ((hp _ m1).2.1 rfl 1 (ptsD0 p hp))
theorem solD3 : IsSol sD.S 3 [] := ⟨[], rfl, by simp, fun y => by
  constructor
  · intro h; cases h
  · intro h; have := (h _ shutD).1; omega⟩
theorem q23 {L : List Int} {c : Int} (h : QL sD 2 3 L c) : L = [1] ∧ c = 0 :=
  h.unique (.inr (.inr ⟨dcode_sD (by omega) (by omega), by omega, by omega, _, visD2, .inr ⟨by decide, rfl, solD ptsD2⟩⟩))
theorem q22 {L : List Int} {c : Int} (h : QL sD 2 2 L c) : L = [0, 1] ∧ c = 18 :=
  h.unique (.inr (.inr ⟨dcode_sD (by omega) (by omega), by omega, by omega, _, visD2, .inl ⟨by decide, rfl, rfl⟩⟩))
theorem q43 {L : List Int} {c : Int} (h : QL sD 4 3 L c) : L = [] ∧ c = 4 := by
  have h4 : dCode sD 4 = 4 := dCode_rng chk_sD (by have : sD.vars = 4 := rfl; omega)
  exact h.unique (.inl ⟨by rw [h4]; omega, h4.symm, rfl⟩)
theorem q03 {L : List Int} {c : Int} (h : QL sD 0 3 L c) : L = [1] ∧ c = 0 :=
  h.unique (.inr (.inr ⟨dcode_sD (by omega) (by omega), by omega, by omega, _, visD0, .inr ⟨by decide, rfl, solD ptsD0⟩⟩))
theorem q33 {L : List Int} {c : Int} (h : QL sD 3 3 L c) : L = [] ∧ c = 0 :=
  h.unique (.inr (.inr ⟨dcode_sD (by omega) (by omega), by omega, by omega, _, visD3, .inr ⟨by decide, rfl, solD3⟩⟩))
theorem n2 {L : List Int} (h : NeedL sD 2 L) : L = [0, 1, 2] :=
  h.unique (.inr ⟨dcode_sD (by omega) (by omega), _, visD2, rfl⟩)
theorem sl2 {t : Sy} (h : SlL sD 2 t) : t = ⟨4, 2, 1, [⟨1, 1, 0, 0, []⟩, ⟨2, 0, 1, 0, []⟩, ⟨2, 1, 2, 0, []⟩]⟩ := by
  rcases h with ⟨h0, -⟩ | ⟨-, vl, fl, hv, hl, hf, rfl⟩
  · exact absurd (dcode_sD (by omega) (by omega)) h0
  · have e1 : vl = [true, true, true, false] := hv.unique visD2
    have e2 : nth fl 0 = false := by
      cases e : nth fl 0
      · rfl
      · exact absurd ((hf 0).1 e) (ld_sD _ _)
    subst e1
    have e3 : fl[0]?.getD false = false := by simpa [nth] using e2
    simp [Sy.cut, sD, keepB, keepC, R.C, e3, nth]

set_option maxHeartbeats 400000 in
theorem isNaN1 (x : Int) (W : World) : Calls Try.prog 46 #[.int .i64 x] W fun e W' => e = .returned (.bool false) ∧ W = W' := by
  go_enter Try.func46, Try.ntmps46
  go_wp2_with fail
  go_ret
  simp
set_option maxHeartbeats 400000 in
theorem isNaN2 (x : Int) (W : World) : Calls Try.prog 58 #[.int .i64 x] W fun e W' => e = .returned (.bool false) ∧ W = W' := by
  go_enter Try.func58, Try.ntmps58
  go_wp2_with fail
  go_ret
  simp
set_option maxHeartbeats 400000 in
theorem less_self (x : Int) (W : World) : Calls Try.prog 45 #[.int .i64 x, .int .i64 x] W fun e W' => e = .returned (.bool false) ∧ W = W' := by
  go_enter Try.func45, Try.ntmps45
  go_wp2_with fail
  refine (isNaN2 x _).mono ?_
  rintro e W' ⟨rfl, rfl⟩
  go_wp2_with fail
  go_ret
  simp
set_option maxHeartbeats 800000 in
set_option maxRecDepth 100000 in
theorem search_one (u : Value) (x : Int) (W : World) (h : Ints W u [x]) : Calls Try.prog 33 #[u, .int .i64 x] W fun e W' => e = .returned (.tuple #[.int .i64 0, .bool true]) ∧ W = W' := by
  obtain ⟨a, c, rfl, -, hi, hc, -⟩ := h.out1 sIntD
  have c0 : W.cell? ⟨blk a, ofs a, none⟩ = some (.int .i64 x) := hc 0 (by simp)
  have i0 := hi .i64 0 (by omega) (by simp)
  rw [show ([x] : List Int).length = 1 from rfl] at i0 ⊢
  rw [show ofs a + (0 : Int).toNat = ofs a by simp] at i0
  clear h hi hc
  go_enter Try.func33, Try.ntmps33
  go_wp2_with fail
  go_loop [7, 8, 9] (fun i j _ => i = .int .i64 0 ∧ (j = .int .i64 1 ∨ j = .int .i64 0)) (fun _ j _ => (intOf j).toNat)
  case atStart => exact ⟨rfl, .inl rfl⟩
  case round =>
    obtain ⟨rfl, rfl | rfl⟩ := hrel
    · go_wp2_with fail
      refine (less_self x _).mono ?_
      rintro e W' ⟨rfl, rfl⟩
      go_wp2_with fail
      go_round
      case rel => exact ⟨rfl, .inr rfl⟩
      case measure => simp [intOf]
    · go_wp2_with fail
      go_ret2
      simp

set_option maxHeartbeats 1600000 in
set_option maxRecDepth 100000 in
theorem Alias_one (s : Sy) (cv : Value) (v w b x : Int) (W : World) (hc : ConsIn W cv s.cons) (hs : Sm s) (hq1 : ∀ {L c}, QL s v b L c → L = [x] ∧ c = 0) (hq2 : ∀ {L c}, QL s w b L c → L = [x] ∧ c = 0) :
    Calls Try.prog 21 #[SysV s cv, .int .i64 v, .int .i64 w, .int .i64 b] W fun e W' => e = .returned (.tuple #[.bool true, .int .i64 0]) ∧ Below W.heap.size W W' := by
  obtain ⟨ca, cc, rfl, -⟩ := hc.out
  have HC := Lib.hid (And.intro hc hs)
  clear hc hs
  unfold SysV
  go_enter Try.func21, Try.ntmps21
  go_wp2_with fail
  refine calls_gen (fun Z => SysB W.heap.size s (.slice ca s.cons.length cc) Z ∧ Below W.heap.size W Z) ⟨SysB.new HC.out.1 24, (Below.refl _ _).alloc (Nat.le_refl _) _⟩ ?_
  rintro Z0 h0
  obtain ⟨bs, hbs⟩ : ∃ bs, bs = W.heap.size := ⟨_, rfl⟩
  have H0 : Hid (SysB bs s (.slice ca s.cons.length cc) Z0 ∧ Below W.heap.size W Z0) := by rw [hbs]; exact h0
  rw [← hbs]
  clear h0 hbs
  refine (Query_any s (.slice ca s.cons.length cc) v b _ H0.out.1.cons HC.out.2).mono ?_
  rintro e W1 ⟨a1, c1, L1, code1, rfl, hI1, hq, r1⟩
  obtain ⟨rfl, rfl⟩ := hq1 hq
  clear hq
  have H1 := Lib.hid (And.intro (H0.out.1.below r1) (H0.out.2.trans (r1.mono H0.out.2.size)))
  have HI1 := Lib.hid hI1
  obtain ⟨⟨d0, d1, d2, d3⟩, -⟩ := H1.out.1
  clear H0 r1 hI1
  go_wp2_with fail
  clear d0 d1 d2 d3
  refine (Query_any s (.slice ca s.cons.length cc) w b _ H1.out.1.cons HC.out.2).mono ?_
  rintro e W2 ⟨a2, c2, L2, code2, rfl, hI2, hq, r2⟩
  obtain ⟨rfl, rfl⟩ := hq2 hq
  have H2 := Lib.hid (And.intro (HI1.out.below r2) (And.intro hI2 (H1.out.2.trans (r2.mono H1.out.2.size))))
  clear H1 r2 hI2 HI1 hq
  obtain ⟨a3, c3, he3, -, hi3, hc3, -⟩ := H2.out.1.out1 sIntD
  simp only [Value.slice.injEq] at he3
  obtain ⟨rfl, -, rfl⟩ := he3
  have c0 : W2.cell? ⟨blk a1, ofs a1, none⟩ = some (.int .i64 x) := hc3 0 (by simp)
  have i0 := hi3 .i64 0 (by omega) (by simp)
  rw [show ([x] : List Int).length = 1 from rfl] at i0 ⊢
  rw [show ofs a1 + (0 : Int).toNat = ofs a1 by simp] at i0
  clear hi3 hc3
  go_wp2_with fail
  refine wp_loop_rounds 1 ?_
  rw [rounds_succ]
  go_wp2_with fail
  refine (search_one _ x _ H2.out.2.1).mono ?_
  rintro e W3 ⟨rfl, rfl⟩
  go_wp2_with fail
  go_ret2
  exact ⟨rfl, H2.out.2.2⟩
set_option maxHeartbeats 1600000 in
set_option maxRecDepth 100000 in
theorem Alias_nil (s : Sy) (cv : Value) (v w b : Int) (W : World) (hc : ConsIn W cv s.cons) (hs : Sm s) (hq1 : ∀ {L c}, QL s v b L c → L = [] ∧ c = 0) (hq2 : ∀ {L c}, QL s w b L c → L = [] ∧ c = 0) :
    Calls Try.prog 21 #[SysV s cv, .int .i64 v, .int .i64 w, .int .i64 b] W fun e W' => e = .returned (.tuple #[.bool false, .int .i64 0]) ∧ Below W.heap.size W W' := by
  obtain ⟨ca, cc, rfl, -⟩ := hc.out
  have HC := Lib.hid (And.intro hc hs)
  clear hc hs
  unfold SysV
  go_enter Try.func21, Try.ntmps21
  go_wp2_with fail
  refine calls_gen (fun Z => SysB W.heap.size s (.slice ca s.cons.length cc) Z ∧ Below W.heap.size W Z) ⟨SysB.new HC.out.1 24, (Below.refl _ _).alloc (Nat.le_refl _) _⟩ ?_
  rintro Z0 h0
  obtain ⟨bs, hbs⟩ : ∃ bs, bs = W.heap.size := ⟨_, rfl⟩
  have H0 : Hid (SysB bs s (.slice ca s.cons.length cc) Z0 ∧ Below W.heap.size W Z0) := by rw [hbs]; exact h0
  rw [← hbs]
  clear h0 hbs
  refine (Query_any s (.slice ca s.cons.length cc) v b _ H0.out.1.cons HC.out.2).mono ?_
  rintro e W1 ⟨a1, c1, L1, code1, rfl, hI1, hq, r1⟩
  obtain ⟨rfl, rfl⟩ := hq1 hq
  clear hq
  have H1 := Lib.hid (And.intro (H0.out.1.below r1) (H0.out.2.trans (r1.mono H0.out.2.size)))
  have HI1 := Lib.hid hI1
  obtain ⟨⟨d0, d1, d2, d3⟩, -⟩ := H1.out.1
  clear H0 r1 hI1
  go_wp2_with fail
  clear d0 d1 d2 d3
  refine (Query_any s (.slice ca s.cons.length cc) w b _ H1.out.1.cons HC.out.2).mono ?_
  rintro e W2 ⟨a2, c2, L2, code2, rfl, hI2, hq, r2⟩
  obtain ⟨rfl, rfl⟩ := hq2 hq
  have H2 := Lib.hid (And.intro (HI1.out.below r2) (And.intro hI2 (H1.out.2.trans (r2.mono H1.out.2.size))))
  clear H1 r2 hI2 HI1 hq
  rw [show ([] : List Int).length = 0 from rfl]
  go_wp2_with fail
  go_loop [14, 15, 16, 39] (fun _ _ _ x => x = .int .i64 0) (fun _ _ _ _ => 0)
  case atStart => rfl
  case round =>
    obtain rfl := hrel
    go_wp2_with fail
    go_ret2
    exact ⟨rfl, H2.out.2.2⟩
end Go.Proofs.Ytkfhopnolflchaa
