/- DomRemoves: for any graph, root and two nodes, one dominates the other exactly if this is reachable, and not without it. -/
import Derived.Test.YtlijimdkadobmaaDnw
namespace Go.Proofs.Ytlijimdkadobmaa
open Go.ChangeShapes Go.WideShapes Go.ChangeAt Go.RowKit Go.Dfl Go.Gra

theorem class_bel {P : Program} {f : FuncId} {args : Array Value} {Z : World} {v : Value} {Cls : World → Prop} (hC : ∀ Z', Below Z.heap.size Z Z' → Cls Z')
    (h : Calls P f args Z fun e Z' => e = .returned v ∧ Below Z.heap.size Z Z') : Calls P f args Z fun e w'' => e = .returned v ∧ ∃ q : Wd Cls, w'' = q.val :=
  class_of (h.mono fun _ Z' ⟨he, hb'⟩ => ⟨he, hC Z' hb'⟩)
/-- The graph and a list. -/
structure GL (bs : Nat) (g : G) (cv lv : Value) (l : List Int) (W Z : World) : Prop where
  gb : GB bs g cv Z
  l : Ints Z lv l
  bel : Below W.heap.size W Z
theorem GL.below {bs : Nat} {g : G} {cv lv : Value} {l : List Int} {W Z Z' : World} (h : GL bs g cv lv l W Z) (hb : Below Z.heap.size Z Z') : GL bs g cv lv l W Z' := ⟨h.gb.below hb, h.l.below hb, bel_trans h.bel hb⟩
set_option maxHeartbeats 6400000 in
set_option maxRecDepth 100000 in
theorem DomRemoves_walk (g : G) (cv : Value) (r : Int) (lv : Value) (l : List Int) (W : World) (h : Pairs W cv g.es) (_hr : -9223372036854775808 ≤ r ∧ r ≤ 9223372036854775807) (hl : Ints W lv l) (_hb : ∀ x ∈ l, -9223372036854775808 ≤ x ∧ x ≤ 9223372036854775807) : Calls Try.prog 8 #[GV g cv, .int .i64 r, lv] W (TruePost W) := by
  obtain ⟨ca, cc, rfl, -, -, -⟩ := pairs_rd h
  have hal := (Below.refl W.heap.size W).alloc (Nat.le_refl _) (.cells #[.int .i64 g.n, .slice ca g.es.length cc] 24)
  obtain ⟨la, lc, rfl, hlm, hli, -, -⟩ := hl.out1 sIntG
  have H0 := Lib.hid (show GL W.heap.size g (.slice ca g.es.length cc) (.slice la l.length lc) l W _ from ⟨GB.new h 24, hl.below hal, hal⟩)
  clear h hal hl _hr _hb
  unfold GV
  go_enter Try.func8, Try.ntmps8
  go_upto_region 1 with fail
  by_cases hq1 : 300 < g.es.length
  · have q1 : (300 : Int) < (g.es.length : Int) := by omega
    obtain ⟨Cls, hCls⟩ : ∃ Cls : World → Prop, ∀ Z', Cls Z' ↔ GL W.heap.size g (.slice ca g.es.length cc) (.slice la l.length lc) l W Z' := ⟨_, fun _ => Iff.rfl⟩
    have hC : Cls (W.alloc (.cells #[.int .i64 g.n, .slice ca g.es.length cc] 24)).drew := (hCls _).2 (H0.out.below ((Below.refl _ _).drew))
    have k0 : ∀ q : Wd Cls, GL W.heap.size g (.slice ca g.es.length cc) (.slice la l.length lc) l W q.val := fun q => (hCls _).1 q.ok
    have e0 : ∀ q : Wd Cls, q.val.cell? ⟨W.heap.size, 0, none⟩ = some (.int .i64 g.n) := fun q => (k0 q).gb.box.1
    have e1 : ∀ q : Wd Cls, q.val.cell? ⟨W.heap.size, 1, none⟩ = some (.slice ca g.es.length cc) := fun q => (k0 q).gb.box.2
    have hB : ∀ q : Wd Cls, ∀ Z', Below q.val.heap.size q.val Z' → Cls Z' := fun q Z' hb => (hCls _).2 ((k0 q).below hb)
    have f1 : ∀ (q : Wd Cls) (v : Int) (b : Bool), nodeG g v = b → Calls Try.prog 9 #[.agg #[.int .i64 g.n, .slice ca g.es.length cc], .int .i64 v] q.val fun e w'' => e = .returned (.bool b) ∧ ∃ q : Wd Cls, w'' = q.val := fun q v b hb => class_bel (hB q) (by have h9 := rNode_any g (.slice ca g.es.length cc) v q.val (k0 q).gb.es; rw [hb] at h9; exact h9)
    have F1 := Lib.hid f1
    have HK := Lib.hid k0
    have HCC := Lib.hid hC
    haveI hne : Nonempty (Wd Cls) := ⟨⟨_, hC⟩⟩
    clear f1 k0 hB hCls hC
    refine wp_region_class Cls (by kernel_rfl) (by kernel_rfl) HCC.out ?_
    repeat (go_big_quiet_step ((go_at_call 9; first | exact F1.out _ _ _ rfl | exact F1.out _ _ _ rfl | exact F1.out _ _ _ rfl)))
    refine wpQuiet_nil ?_
    rintro _ ⟨q9, rfl⟩
    have H9 := Lib.hid (HK.out q9).bel
    clear e0 e1
    go_wp2_with fail
    refine (awake_any _).mono ?_
    rintro e Z ⟨rfl, b⟩
    have HB := Lib.hid (bel_trans H9.out b)
    go_wp2_with fail
    go_ret
    exact ⟨rfl, HB.out⟩
  have q1 : ¬ (300 : Int) < (g.es.length : Int) := by omega
  by_cases q2 : 300 < g.n
  · obtain ⟨Cls, hCls⟩ : ∃ Cls : World → Prop, ∀ Z', Cls Z' ↔ GL W.heap.size g (.slice ca g.es.length cc) (.slice la l.length lc) l W Z' := ⟨_, fun _ => Iff.rfl⟩
    have hC : Cls (W.alloc (.cells #[.int .i64 g.n, .slice ca g.es.length cc] 24)).drew := (hCls _).2 (H0.out.below ((Below.refl _ _).drew))
    have k0 : ∀ q : Wd Cls, GL W.heap.size g (.slice ca g.es.length cc) (.slice la l.length lc) l W q.val := fun q => (hCls _).1 q.ok
    have e0 : ∀ q : Wd Cls, q.val.cell? ⟨W.heap.size, 0, none⟩ = some (.int .i64 g.n) := fun q => (k0 q).gb.box.1
    have e1 : ∀ q : Wd Cls, q.val.cell? ⟨W.heap.size, 1, none⟩ = some (.slice ca g.es.length cc) := fun q => (k0 q).gb.box.2
    have hB : ∀ q : Wd Cls, ∀ Z', Below q.val.heap.size q.val Z' → Cls Z' := fun q Z' hb => (hCls _).2 ((k0 q).below hb)
    have f1 : ∀ (q : Wd Cls) (v : Int) (b : Bool), nodeG g v = b → Calls Try.prog 9 #[.agg #[.int .i64 g.n, .slice ca g.es.length cc], .int .i64 v] q.val fun e w'' => e = .returned (.bool b) ∧ ∃ q : Wd Cls, w'' = q.val := fun q v b hb => class_bel (hB q) (by have h9 := rNode_any g (.slice ca g.es.length cc) v q.val (k0 q).gb.es; rw [hb] at h9; exact h9)
    have F1 := Lib.hid f1
    have HK := Lib.hid k0
    have HCC := Lib.hid hC
    haveI hne : Nonempty (Wd Cls) := ⟨⟨_, hC⟩⟩
    clear f1 k0 hB hCls hC
    refine wp_region_class Cls (by kernel_rfl) (by kernel_rfl) HCC.out ?_
    repeat (go_big_quiet_step ((go_at_call 9; first | exact F1.out _ _ _ rfl | exact F1.out _ _ _ rfl | exact F1.out _ _ _ rfl)))
    refine wpQuiet_nil ?_
    rintro _ ⟨q9, rfl⟩
    have H9 := Lib.hid (HK.out q9).bel
    clear e0 e1
    go_wp2_with fail
    refine (awake_any _).mono ?_
    rintro e Z ⟨rfl, b⟩
    have HB := Lib.hid (bel_trans H9.out b)
    go_wp2_with fail
    go_ret
    exact ⟨rfl, HB.out⟩
  by_cases hl2 : l.length = 2
  rotate_left
  · have q3 : ((l.length : Int) != 2) = true := by simp; omega
    obtain ⟨Cls, hCls⟩ : ∃ Cls : World → Prop, ∀ Z', Cls Z' ↔ GL W.heap.size g (.slice ca g.es.length cc) (.slice la l.length lc) l W Z' := ⟨_, fun _ => Iff.rfl⟩
    have hC : Cls (W.alloc (.cells #[.int .i64 g.n, .slice ca g.es.length cc] 24)).drew := (hCls _).2 (H0.out.below ((Below.refl _ _).drew))
    have k0 : ∀ q : Wd Cls, GL W.heap.size g (.slice ca g.es.length cc) (.slice la l.length lc) l W q.val := fun q => (hCls _).1 q.ok
    have e0 : ∀ q : Wd Cls, q.val.cell? ⟨W.heap.size, 0, none⟩ = some (.int .i64 g.n) := fun q => (k0 q).gb.box.1
    have e1 : ∀ q : Wd Cls, q.val.cell? ⟨W.heap.size, 1, none⟩ = some (.slice ca g.es.length cc) := fun q => (k0 q).gb.box.2
    have hB : ∀ q : Wd Cls, ∀ Z', Below q.val.heap.size q.val Z' → Cls Z' := fun q Z' hb => (hCls _).2 ((k0 q).below hb)
    have f1 : ∀ (q : Wd Cls) (v : Int) (b : Bool), nodeG g v = b → Calls Try.prog 9 #[.agg #[.int .i64 g.n, .slice ca g.es.length cc], .int .i64 v] q.val fun e w'' => e = .returned (.bool b) ∧ ∃ q : Wd Cls, w'' = q.val := fun q v b hb => class_bel (hB q) (by have h9 := rNode_any g (.slice ca g.es.length cc) v q.val (k0 q).gb.es; rw [hb] at h9; exact h9)
    have F1 := Lib.hid f1
    have HK := Lib.hid k0
    have HCC := Lib.hid hC
    haveI hne : Nonempty (Wd Cls) := ⟨⟨_, hC⟩⟩
    clear f1 k0 hB hCls hC
    refine wp_region_class Cls (by kernel_rfl) (by kernel_rfl) HCC.out ?_
    repeat (go_big_quiet_step ((go_at_call 9; first | exact F1.out _ _ _ rfl | exact F1.out _ _ _ rfl | exact F1.out _ _ _ rfl)))
    refine wpQuiet_nil ?_
    rintro _ ⟨q9, rfl⟩
    have H9 := Lib.hid (HK.out q9).bel
    clear e0 e1
    go_wp2_with fail
    refine (awake_any _).mono ?_
    rintro e Z ⟨rfl, b⟩
    have HB := Lib.hid (bel_trans H9.out b)
    go_wp2_with fail
    go_ret
    exact ⟨rfl, HB.out⟩
  obtain ⟨a, ha⟩ : ∃ a, a = nth l 0 := ⟨_, rfl⟩
  obtain ⟨b, hb⟩ : ∃ b, b = nth l 1 := ⟨_, rfl⟩
  rw [hl2] at H0 hli hlm ⊢
  have x0 : ∀ W, (Instr.indexAt 31 (.slice la 2 lc) (.int .i64 0)).run Try.prog W = .ok (.pointer (some ⟨blk la, ofs la, none⟩)) W := hli .i64 0 (by omega) (by simp)
  have x1 : ∀ W, (Instr.indexAt 31 (.slice la 2 lc) (.int .i64 1)).run Try.prog W = .ok (.pointer (some ⟨blk la, ofs la + 1, none⟩)) W := hli .i64 1 (by omega) (by simp)
  have hcell : ∀ Z, Ints Z (.slice la 2 lc) l → Z.cell? ⟨blk la, ofs la, none⟩ = some (.int .i64 a) ∧ Z.cell? ⟨blk la, ofs la + 1, none⟩ = some (.int .i64 b) := fun Z hZ => by
    obtain ⟨a9, c9, he, -, -, h10, -⟩ := hZ.out1 sIntG
    rw [hl2] at he h10
    simp only [Value.slice.injEq] at he
    obtain ⟨rfl, -, rfl⟩ := he
    exact ⟨by rw [ha]; exact h10 0 (by omega), by rw [hb]; exact h10 1 (by omega)⟩
  have HCL := Lib.hid hcell
  clear hli hlm hcell hl2 ha hb
  cases hn1 : nodeG g r
  · obtain ⟨Cls, hCls⟩ : ∃ Cls : World → Prop, ∀ Z', Cls Z' ↔ GL W.heap.size g (.slice ca g.es.length cc) (.slice la 2 lc) l W Z' := ⟨_, fun _ => Iff.rfl⟩
    have hC : Cls (W.alloc (.cells #[.int .i64 g.n, .slice ca g.es.length cc] 24)).drew := (hCls _).2 (H0.out.below ((Below.refl _ _).drew))
    have k0 : ∀ q : Wd Cls, GL W.heap.size g (.slice ca g.es.length cc) (.slice la 2 lc) l W q.val := fun q => (hCls _).1 q.ok
    have e0 : ∀ q : Wd Cls, q.val.cell? ⟨W.heap.size, 0, none⟩ = some (.int .i64 g.n) := fun q => (k0 q).gb.box.1
    have e1 : ∀ q : Wd Cls, q.val.cell? ⟨W.heap.size, 1, none⟩ = some (.slice ca g.es.length cc) := fun q => (k0 q).gb.box.2
    have hB : ∀ q : Wd Cls, ∀ Z', Below q.val.heap.size q.val Z' → Cls Z' := fun q Z' hb => (hCls _).2 ((k0 q).below hb)
    have f1 : ∀ (q : Wd Cls) (v : Int) (b : Bool), nodeG g v = b → Calls Try.prog 9 #[.agg #[.int .i64 g.n, .slice ca g.es.length cc], .int .i64 v] q.val fun e w'' => e = .returned (.bool b) ∧ ∃ q : Wd Cls, w'' = q.val := fun q v b hb => class_bel (hB q) (by have h9 := rNode_any g (.slice ca g.es.length cc) v q.val (k0 q).gb.es; rw [hb] at h9; exact h9)
    have F1 := Lib.hid f1
    have HK := Lib.hid k0
    have HCC := Lib.hid hC
    haveI hne : Nonempty (Wd Cls) := ⟨⟨_, hC⟩⟩
    clear f1 k0 hB hCls hC
    refine wp_region_class Cls (by kernel_rfl) (by kernel_rfl) HCC.out ?_
    repeat (go_big_quiet_step ((go_at_call 9; first | exact F1.out _ _ _ hn1 | exact F1.out _ _ _ rfl | exact F1.out _ _ _ rfl)))
    refine wpQuiet_nil ?_
    rintro _ ⟨q9, rfl⟩
    have H9 := Lib.hid (HK.out q9).bel
    clear e0 e1
    go_wp2_with fail
    refine (awake_any _).mono ?_
    rintro e Z ⟨rfl, b⟩
    have HB := Lib.hid (bel_trans H9.out b)
    go_wp2_with fail
    go_ret
    exact ⟨rfl, HB.out⟩
  cases hn2 : nodeG g a
  · obtain ⟨Cls, hCls⟩ : ∃ Cls : World → Prop, ∀ Z', Cls Z' ↔ GL W.heap.size g (.slice ca g.es.length cc) (.slice la 2 lc) l W Z' := ⟨_, fun _ => Iff.rfl⟩
    have hC : Cls (W.alloc (.cells #[.int .i64 g.n, .slice ca g.es.length cc] 24)).drew := (hCls _).2 (H0.out.below ((Below.refl _ _).drew))
    have k0 : ∀ q : Wd Cls, GL W.heap.size g (.slice ca g.es.length cc) (.slice la 2 lc) l W q.val := fun q => (hCls _).1 q.ok
    have e0 : ∀ q : Wd Cls, q.val.cell? ⟨W.heap.size, 0, none⟩ = some (.int .i64 g.n) := fun q => (k0 q).gb.box.1
    have e1 : ∀ q : Wd Cls, q.val.cell? ⟨W.heap.size, 1, none⟩ = some (.slice ca g.es.length cc) := fun q => (k0 q).gb.box.2
    have hB : ∀ q : Wd Cls, ∀ Z', Below q.val.heap.size q.val Z' → Cls Z' := fun q Z' hb => (hCls _).2 ((k0 q).below hb)
    have f1 : ∀ (q : Wd Cls) (v : Int) (b : Bool), nodeG g v = b → Calls Try.prog 9 #[.agg #[.int .i64 g.n, .slice ca g.es.length cc], .int .i64 v] q.val fun e w'' => e = .returned (.bool b) ∧ ∃ q : Wd Cls, w'' = q.val := fun q v b hb => class_bel (hB q) (by have h9 := rNode_any g (.slice ca g.es.length cc) v q.val (k0 q).gb.es; rw [hb] at h9; exact h9)
    have F1 := Lib.hid f1
    have HK := Lib.hid k0
    have HCC := Lib.hid hC
    haveI hne : Nonempty (Wd Cls) := ⟨⟨_, hC⟩⟩
    clear f1 k0 hB hCls hC
    have e2 : ∀ q : Wd Cls, q.val.cell? ⟨blk la, ofs la, none⟩ = some (.int .i64 a) := fun q => (HCL.out _ (HK.out q).l).1
    refine wp_region_class Cls (by kernel_rfl) (by kernel_rfl) HCC.out ?_
    repeat (go_big_quiet_step ((go_at_call 9; first | exact F1.out _ _ _ hn1 | exact F1.out _ _ _ hn2 | exact F1.out _ _ _ rfl)))
    refine wpQuiet_nil ?_
    rintro _ ⟨q9, rfl⟩
    clear e2
    have H9 := Lib.hid (HK.out q9).bel
    clear e0 e1
    go_wp2_with fail
    refine (awake_any _).mono ?_
    rintro e Z ⟨rfl, b⟩
    have HB := Lib.hid (bel_trans H9.out b)
    go_wp2_with fail
    go_ret
    exact ⟨rfl, HB.out⟩
  cases hn3 : nodeG g b
  · obtain ⟨Cls, hCls⟩ : ∃ Cls : World → Prop, ∀ Z', Cls Z' ↔ GL W.heap.size g (.slice ca g.es.length cc) (.slice la 2 lc) l W Z' := ⟨_, fun _ => Iff.rfl⟩
    have hC : Cls (W.alloc (.cells #[.int .i64 g.n, .slice ca g.es.length cc] 24)).drew := (hCls _).2 (H0.out.below ((Below.refl _ _).drew))
    have k0 : ∀ q : Wd Cls, GL W.heap.size g (.slice ca g.es.length cc) (.slice la 2 lc) l W q.val := fun q => (hCls _).1 q.ok
    have e0 : ∀ q : Wd Cls, q.val.cell? ⟨W.heap.size, 0, none⟩ = some (.int .i64 g.n) := fun q => (k0 q).gb.box.1
    have e1 : ∀ q : Wd Cls, q.val.cell? ⟨W.heap.size, 1, none⟩ = some (.slice ca g.es.length cc) := fun q => (k0 q).gb.box.2
    have hB : ∀ q : Wd Cls, ∀ Z', Below q.val.heap.size q.val Z' → Cls Z' := fun q Z' hb => (hCls _).2 ((k0 q).below hb)
    have f1 : ∀ (q : Wd Cls) (v : Int) (b : Bool), nodeG g v = b → Calls Try.prog 9 #[.agg #[.int .i64 g.n, .slice ca g.es.length cc], .int .i64 v] q.val fun e w'' => e = .returned (.bool b) ∧ ∃ q : Wd Cls, w'' = q.val := fun q v b hb => class_bel (hB q) (by have h9 := rNode_any g (.slice ca g.es.length cc) v q.val (k0 q).gb.es; rw [hb] at h9; exact h9)
    have F1 := Lib.hid f1
    have HK := Lib.hid k0
    have HCC := Lib.hid hC
    haveI hne : Nonempty (Wd Cls) := ⟨⟨_, hC⟩⟩
    clear f1 k0 hB hCls hC
    have e2 : ∀ q : Wd Cls, q.val.cell? ⟨blk la, ofs la, none⟩ = some (.int .i64 a) := fun q => (HCL.out _ (HK.out q).l).1
    have e3 : ∀ q : Wd Cls, q.val.cell? ⟨blk la, ofs la + 1, none⟩ = some (.int .i64 b) := fun q => (HCL.out _ (HK.out q).l).2
    refine wp_region_class Cls (by kernel_rfl) (by kernel_rfl) HCC.out ?_
    repeat (go_big_quiet_step ((go_at_call 9; first | exact F1.out _ _ _ hn1 | exact F1.out _ _ _ hn2 | exact F1.out _ _ _ hn3)))
    refine wpQuiet_nil ?_
    rintro _ ⟨q9, rfl⟩
    clear e2 e3
    have H9 := Lib.hid (HK.out q9).bel
    clear e0 e1
    go_wp2_with fail
    refine (awake_any _).mono ?_
    rintro e Z ⟨rfl, b⟩
    have HB := Lib.hid (bel_trans H9.out b)
    go_wp2_with fail
    go_ret
    exact ⟨rfl, HB.out⟩
  obtain ⟨Cls, hCls⟩ : ∃ Cls : World → Prop, ∀ Z', Cls Z' ↔ GL W.heap.size g (.slice ca g.es.length cc) (.slice la 2 lc) l W Z' := ⟨_, fun _ => Iff.rfl⟩
  have hC : Cls (W.alloc (.cells #[.int .i64 g.n, .slice ca g.es.length cc] 24)).drew := (hCls _).2 (H0.out.below ((Below.refl _ _).drew))
  have k0 : ∀ q : Wd Cls, GL W.heap.size g (.slice ca g.es.length cc) (.slice la 2 lc) l W q.val := fun q => (hCls _).1 q.ok
  have e0 : ∀ q : Wd Cls, q.val.cell? ⟨W.heap.size, 0, none⟩ = some (.int .i64 g.n) := fun q => (k0 q).gb.box.1
  have e1 : ∀ q : Wd Cls, q.val.cell? ⟨W.heap.size, 1, none⟩ = some (.slice ca g.es.length cc) := fun q => (k0 q).gb.box.2
  have hB : ∀ q : Wd Cls, ∀ Z', Below q.val.heap.size q.val Z' → Cls Z' := fun q Z' hb => (hCls _).2 ((k0 q).below hb)
  have f1 : ∀ (q : Wd Cls) (v : Int) (b : Bool), nodeG g v = b → Calls Try.prog 9 #[.agg #[.int .i64 g.n, .slice ca g.es.length cc], .int .i64 v] q.val fun e w'' => e = .returned (.bool b) ∧ ∃ q : Wd Cls, w'' = q.val := fun q v b hb => class_bel (hB q) (by have h9 := rNode_any g (.slice ca g.es.length cc) v q.val (k0 q).gb.es; rw [hb] at h9; exact h9)
  have F1 := Lib.hid f1
  have HK := Lib.hid k0
  have HCC := Lib.hid hC
  haveI hne : Nonempty (Wd Cls) := ⟨⟨_, hC⟩⟩
  clear f1 k0 hB hCls hC
  have e2 : ∀ q : Wd Cls, q.val.cell? ⟨blk la, ofs la, none⟩ = some (.int .i64 a) := fun q => (HCL.out _ (HK.out q).l).1
  have e3 : ∀ q : Wd Cls, q.val.cell? ⟨blk la, ofs la + 1, none⟩ = some (.int .i64 b) := fun q => (HCL.out _ (HK.out q).l).2
  refine wp_region_class Cls (by kernel_rfl) (by kernel_rfl) HCC.out ?_
  repeat (go_big_quiet_step ((go_at_call 9; first | exact F1.out _ _ _ hn1 | exact F1.out _ _ _ hn2 | exact F1.out _ _ _ hn3)))
  refine wpQuiet_nil ?_
  rintro _ ⟨q9, rfl⟩
  have HQ := Lib.hid (HK.out q9)
  clear e0 e1 e2 e3
  generalize q9.val = V at *
  clear HK HCC F1
  obtain ⟨v1, v2, v3⟩ := nodeG_iff.1 hn1
  obtain ⟨-, v4, v5⟩ := nodeG_iff.1 hn2
  obtain ⟨-, v6, v7⟩ := nodeG_iff.1 hn3
  obtain ⟨r, rfl⟩ : ∃ k : Nat, r = (k : Int) := ⟨r.toNat, by omega⟩
  obtain ⟨a, rfl⟩ : ∃ k : Nat, a = (k : Int) := ⟨a.toNat, by omega⟩
  obtain ⟨b, rfl⟩ : ∃ k : Nat, b = (k : Int) := ⟨b.toNat, by omega⟩
  have hrn : r < g.n.toNat := by omega
  have han : a < g.n.toNat := by omega
  have hbn : b < g.n.toNat := by omega
  have hdc : dcode g (r : Int) = 0 := by
    unfold dcode
    rw [if_neg (by rw [gCode_ok.2 v1]; simp), if_pos (nodeB_nat hrn)]
  have HV := Lib.hid (And.intro v1 (And.intro hrn (And.intro han (And.intro hbn hdc))))
  clear hn1 hn2 hn3 v1 v2 v3 v4 v5 v6 v7 hrn han hdc hq1 q1 q2
  obtain ⟨d0, d1⟩ := HCL.out _ HQ.out.l
  go_wp2_with fail
  go_quiet (fail)
  refine K_gen (fun Z => Qt V Z) (Qt.drewN _ _) ?_
  intro V2 hV2
  have HQ2 := Lib.hid (HQ.out.below (qt_below hV2))
  clear d0 d1 hV2 HQ
  obtain ⟨c0, c1⟩ := HQ2.out.gb.box
  go_wp2_with fail
  have hw := rWithout_any g (.slice ca g.es.length cc) r (-1) V2 HQ2.out.gb.es HV.out.1
  unfold GV at hw
  refine hw.mono ?_
  rintro e V3 ⟨s1, k1, rfl, o1, b3⟩
  have HQ3 := Lib.hid (And.intro (HQ2.out.below b3) o1)
  clear hw c0 c1 b3 o1
  obtain ⟨c0, c1⟩ := HQ3.out.1.gb.box
  go_wp2_with fail
  have hw := rWithout_any g (.slice ca g.es.length cc) r (a : Int) V3 HQ3.out.1.gb.es HV.out.1
  unfold GV at hw
  refine hw.mono ?_
  rintro e V4 ⟨s2, k2, rfl, o2, b4⟩
  have HQ4 := Lib.hid (And.intro (HQ3.out.1.below b4) (And.intro (HQ3.out.2.below b4) o2))
  clear hw c0 c1 b4 o2
  obtain ⟨c0, c1⟩ := HQ4.out.1.gb.box
  obtain ⟨r1, i1, -⟩ := own_bool HQ4.out.2.1 (withoutL_len _ _ _) hbn
  obtain ⟨r2, i2, -⟩ := own_bool HQ4.out.2.2 (withoutL_len _ _ _) hbn
  rw [withoutL_nth hbn] at r1 r2
  clear hbn
  have hdd : domD g (r : Int) (a : Int) (b : Int) = domB g r a b := by
    unfold domD
    rw [decide_eq_true HV.out.2.2.2.2, Int.toNat_natCast, domZ_nat HV.out.1 HV.out.2.1 HV.out.2.2.1 HV.out.2.2.2.1]; rfl
  have HDD := Lib.hid hdd
  clear hdd
  cases hA : seenB g r (-1) b
  · have HD : Hid (domB g r a b = false) := Lib.hid (by unfold domB; rw [hA]; rfl)
    rw [hA] at r1
    clear hA r2 i2
    by_cases hab : a = b
    · have w1 : ((a : Int) != (b : Int)) = false := by simp; omega
      clear hab
      go_wp2_with fail
      have hd := dDominates_any g (.slice ca g.es.length cc) (r : Int) (a : Int) (b : Int) V4 HQ4.out.1.gb.es
      unfold GV at hd
      rw [HDD.out, HD.out] at hd
      refine hd.mono ?_
      rintro e V5 ⟨rfl, b5⟩
      have HQ5 := Lib.hid (HQ4.out.1.below b5)
      clear hd c0 c1 b5
      obtain ⟨c0, c1⟩ := HQ5.out.gb.box
      go_wp2_with fail
      have hd := dStrict_any g (.slice ca g.es.length cc) (r : Int) (b : Int) V5 HQ5.out.gb.es
      unfold GV at hd
      refine hd.mono ?_
      rintro e V6 ⟨sa, sc, L, rfl, iL, b6, hL9⟩
      have HQ6 := Lib.hid (HQ5.out.below b6)
      clear hd c0 c1 b6
      obtain ⟨c0, c1⟩ := HQ6.out.gb.box
      go_wp2_with fail
      refine (in_any _ L (a : Int) V6 iL).mono ?_
      rintro e V7 ⟨rfl, rfl⟩
      have hin : decide ((a : Int) ∈ L) = false := decide_eq_false fun hm => by
        have h := (hL9.2 _).1 hm
        revert h
        exact fun h => by rw [HDD.out, HD.out] at h; cases h.1
      rw [hin]
      clear hin iL
      go_wp2_with fail
      refine (awake_any _).mono ?_
      rintro e Z ⟨rfl, b9⟩
      have HB := Lib.hid (bel_trans HQ6.out.bel b9)
      clear b9
      go_wp2_with fail
      go_ret
      exact ⟨rfl, HB.out⟩
    · have w1 : ((a : Int) != (b : Int)) = true := by simp; omega
      clear hab
      go_wp2_with fail
      have hd := dDominates_any g (.slice ca g.es.length cc) (r : Int) (a : Int) (b : Int) V4 HQ4.out.1.gb.es
      unfold GV at hd
      rw [HDD.out, HD.out] at hd
      refine hd.mono ?_
      rintro e V5 ⟨rfl, b5⟩
      have HQ5 := Lib.hid (HQ4.out.1.below b5)
      clear hd c0 c1 b5
      obtain ⟨c0, c1⟩ := HQ5.out.gb.box
      go_wp2_with fail
      have hd := dStrict_any g (.slice ca g.es.length cc) (r : Int) (b : Int) V5 HQ5.out.gb.es
      unfold GV at hd
      refine hd.mono ?_
      rintro e V6 ⟨sa, sc, L, rfl, iL, b6, hL9⟩
      have HQ6 := Lib.hid (HQ5.out.below b6)
      clear hd c0 c1 b6
      obtain ⟨c0, c1⟩ := HQ6.out.gb.box
      go_wp2_with fail
      refine (in_any _ L (a : Int) V6 iL).mono ?_
      rintro e V7 ⟨rfl, rfl⟩
      have hin : decide ((a : Int) ∈ L) = false := decide_eq_false fun hm => by
        have h := (hL9.2 _).1 hm
        revert h
        exact fun h => by rw [HDD.out, HD.out] at h; cases h.1
      rw [hin]
      clear hin iL
      go_wp2_with fail
      refine (awake_any _).mono ?_
      rintro e Z ⟨rfl, b9⟩
      have HB := Lib.hid (bel_trans HQ6.out.bel b9)
      clear b9
      go_wp2_with fail
      go_ret
      exact ⟨rfl, HB.out⟩
  · rw [hA] at r1
    by_cases hab : a = b
    · have HD : Hid (domB g r a b = true) := Lib.hid (by unfold domB; rw [hA, decide_eq_true hab]; rfl)
      have w1 : ((a : Int) != (b : Int)) = false := by simp; omega
      have w2 : ((a : Int) == (b : Int)) = true := by simp; omega
      have HN := Lib.hid hab
      clear hA hab r2 i2
      go_wp2_with fail
      have hd := dDominates_any g (.slice ca g.es.length cc) (r : Int) (a : Int) (b : Int) V4 HQ4.out.1.gb.es
      unfold GV at hd
      rw [HDD.out, HD.out] at hd
      refine hd.mono ?_
      rintro e V5 ⟨rfl, b5⟩
      have HQ5 := Lib.hid (HQ4.out.1.below b5)
      clear hd c0 c1 b5
      obtain ⟨c0, c1⟩ := HQ5.out.gb.box
      go_wp2_with fail
      have hd := dStrict_any g (.slice ca g.es.length cc) (r : Int) (b : Int) V5 HQ5.out.gb.es
      unfold GV at hd
      refine hd.mono ?_
      rintro e V6 ⟨sa, sc, L, rfl, iL, b6, hL9⟩
      have HQ6 := Lib.hid (HQ5.out.below b6)
      clear hd c0 c1 b6
      obtain ⟨c0, c1⟩ := HQ6.out.gb.box
      go_wp2_with fail
      refine (in_any _ L (a : Int) V6 iL).mono ?_
      rintro e V7 ⟨rfl, rfl⟩
      have hin : decide ((a : Int) ∈ L) = false := decide_eq_false fun hm => by
        have h := (hL9.2 _).1 hm
        revert h
        exact fun h => absurd (by rw [HN.out]) h.2
      rw [hin]
      clear hin iL
      go_wp2_with fail
      refine (awake_any _).mono ?_
      rintro e Z ⟨rfl, b9⟩
      have HB := Lib.hid (bel_trans HQ6.out.bel b9)
      clear b9
      go_wp2_with fail
      go_ret
      exact ⟨rfl, HB.out⟩
    · have w1 : ((a : Int) != (b : Int)) = true := by simp; omega
      have w2 : ((a : Int) == (b : Int)) = false := by simp; omega
      by_cases har : a = r
      · have HD : Hid (domB g r a b = true) := Lib.hid (by unfold domB; rw [hA, decide_eq_true har, Bool.or_true]; rfl)
        have w3 : ((a : Int) == (r : Int)) = true := by simp; omega
        have HN := Lib.hid hab
        clear hA hab har r2 i2
        go_wp2_with fail
        have hd := dDominates_any g (.slice ca g.es.length cc) (r : Int) (a : Int) (b : Int) V4 HQ4.out.1.gb.es
        unfold GV at hd
        rw [HDD.out, HD.out] at hd
        refine hd.mono ?_
        rintro e V5 ⟨rfl, b5⟩
        have HQ5 := Lib.hid (HQ4.out.1.below b5)
        clear hd c0 c1 b5
        obtain ⟨c0, c1⟩ := HQ5.out.gb.box
        go_wp2_with fail
        have hd := dStrict_any g (.slice ca g.es.length cc) (r : Int) (b : Int) V5 HQ5.out.gb.es
        unfold GV at hd
        refine hd.mono ?_
        rintro e V6 ⟨sa, sc, L, rfl, iL, b6, hL9⟩
        have HQ6 := Lib.hid (HQ5.out.below b6)
        clear hd c0 c1 b6
        obtain ⟨c0, c1⟩ := HQ6.out.gb.box
        go_wp2_with fail
        refine (in_any _ L (a : Int) V6 iL).mono ?_
        rintro e V7 ⟨rfl, rfl⟩
        have hin : decide ((a : Int) ∈ L) = true := decide_eq_true ((hL9.2 _).2 ⟨by rw [HDD.out, HD.out], fun e => HN.out (by omega)⟩)
        rw [hin]
        clear hin iL
        go_wp2_with fail
        refine (awake_any _).mono ?_
        rintro e Z ⟨rfl, b9⟩
        have HB := Lib.hid (bel_trans HQ6.out.bel b9)
        clear b9
        go_wp2_with fail
        go_ret
        exact ⟨rfl, HB.out⟩
      · have w3 : ((a : Int) == (r : Int)) = false := by simp; omega
        cases hL : seenB g r (a : Int) b
        · have HD : Hid (domB g r a b = true) := Lib.hid (by unfold domB; rw [hA, hL, Bool.not_false, Bool.or_true]; rfl)
          have HN := Lib.hid hab
          rw [hL] at r2
          clear hA hab har hL
          go_wp2_with fail
          have hd := dDominates_any g (.slice ca g.es.length cc) (r : Int) (a : Int) (b : Int) V4 HQ4.out.1.gb.es
          unfold GV at hd
          rw [HDD.out, HD.out] at hd
          refine hd.mono ?_
          rintro e V5 ⟨rfl, b5⟩
          have HQ5 := Lib.hid (HQ4.out.1.below b5)
          clear hd c0 c1 b5
          obtain ⟨c0, c1⟩ := HQ5.out.gb.box
          go_wp2_with fail
          have hd := dStrict_any g (.slice ca g.es.length cc) (r : Int) (b : Int) V5 HQ5.out.gb.es
          unfold GV at hd
          refine hd.mono ?_
          rintro e V6 ⟨sa, sc, L, rfl, iL, b6, hL9⟩
          have HQ6 := Lib.hid (HQ5.out.below b6)
          clear hd c0 c1 b6
          obtain ⟨c0, c1⟩ := HQ6.out.gb.box
          go_wp2_with fail
          refine (in_any _ L (a : Int) V6 iL).mono ?_
          rintro e V7 ⟨rfl, rfl⟩
          have hin : decide ((a : Int) ∈ L) = true := decide_eq_true ((hL9.2 _).2 ⟨by rw [HDD.out, HD.out], fun e => HN.out (by omega)⟩)
          rw [hin]
          clear hin iL
          go_wp2_with fail
          refine (awake_any _).mono ?_
          rintro e Z ⟨rfl, b9⟩
          have HB := Lib.hid (bel_trans HQ6.out.bel b9)
          clear b9
          go_wp2_with fail
          go_ret
          exact ⟨rfl, HB.out⟩
        · have HD : Hid (domB g r a b = false) := Lib.hid (by unfold domB; rw [hA, hL, decide_eq_false hab, decide_eq_false har]; rfl)
          rw [hL] at r2
          clear hA hab har hL
          go_wp2_with fail
          have hd := dDominates_any g (.slice ca g.es.length cc) (r : Int) (a : Int) (b : Int) V4 HQ4.out.1.gb.es
          unfold GV at hd
          rw [HDD.out, HD.out] at hd
          refine hd.mono ?_
          rintro e V5 ⟨rfl, b5⟩
          have HQ5 := Lib.hid (HQ4.out.1.below b5)
          clear hd c0 c1 b5
          obtain ⟨c0, c1⟩ := HQ5.out.gb.box
          go_wp2_with fail
          have hd := dStrict_any g (.slice ca g.es.length cc) (r : Int) (b : Int) V5 HQ5.out.gb.es
          unfold GV at hd
          refine hd.mono ?_
          rintro e V6 ⟨sa, sc, L, rfl, iL, b6, hL9⟩
          have HQ6 := Lib.hid (HQ5.out.below b6)
          clear hd c0 c1 b6
          obtain ⟨c0, c1⟩ := HQ6.out.gb.box
          go_wp2_with fail
          refine (in_any _ L (a : Int) V6 iL).mono ?_
          rintro e V7 ⟨rfl, rfl⟩
          have hin : decide ((a : Int) ∈ L) = false := decide_eq_false fun hm => by
            have h := (hL9.2 _).1 hm
            revert h
            exact fun h => by rw [HDD.out, HD.out] at h; cases h.1
          rw [hin]
          clear hin iL
          go_wp2_with fail
          refine (awake_any _).mono ?_
          rintro e Z ⟨rfl, b9⟩
          have HB := Lib.hid (bel_trans HQ6.out.bel b9)
          clear b9
          go_wp2_with fail
          go_ret
          exact ⟨rfl, HB.out⟩
set_option maxRecDepth 100000 in
theorem DomRemoves_lifted (os : Os) (started : os.Started) (H : Type) (enc : TypeId × Value → H) :
    ReturnsInHanded {} Try.checked os 8 .any (Rows.domRemovesSpec.pre6 enc Try.prog Try.f8 Rows.domRemovesRow.domain false) (Rows.domRemovesSpec.post enc Try.prog Try.f8 false true false false) := by
  refine returnsInHanded_of_change (C := Try.checked) own started (by kernel_rfl) Try.func8
    (ChangeSpec.witness6 (enc := enc) (C := Try.checked) false ⟨#[], #[.agg #[.int .i64 0, .slice none 0 0], .int .i64 0, .slice none 0 0], []⟩ 8 (by kernel_rfl) (by kernel_rfl) (by kernel_rfl) (by kernel_rfl)) ?_
  intro W base args ds gs before hval0 hW hcnd _
  have hval : ∀ (j : Nat) t v, Try.f8.params[j]? = some t → args[j]? = some v → Value.okWide Try.prog W .any base t v := hval0
  have hW' := hW
  obtain ⟨p, q, hA0, hV, rfl, hfz, hnd⟩ := hW
  have hA : DataW.TrodAll enc Try.prog W 0 (fun _ => true) true Try.f8.params.toList args.toList ds p := hA0
  rw [Try.params8] at hA hval
  obtain ⟨v0, vs0, d0, ds0, p0, q0, hargs, rfl, rfl, h0, r0⟩ := trodAll_cons hA
  obtain ⟨v1, vs1, d1, ds1, p1, q1, rfl, rfl, rfl, h1, r1⟩ := trodAll_cons r0
  obtain ⟨v2, vs2, d2, ds2, p2, q2, rfl, rfl, rfl, h2, r2⟩ := trodAll_cons r1
  obtain ⟨rfl, rfl, rfl⟩ := trodAll_nil r2
  obtain rfl : args = #[v0, v1, v2] := by cases args; simp_all
  obtain ⟨rfl, rfl⟩ := trodVars_none hV
  obtain ⟨c0, rfl, sz0⟩ := okWide_struct Try.underlying24 (hval 0 24 v0 rfl rfl)
  have k0 := h0
  obtain ⟨g0, cv0, eq0, hC0⟩ := graph_of_trod sz0 h0
  obtain rfl : c0 = #[.int .i64 g0.n, cv0] := by simpa [GV] using eq0
  have lt0 : ∀ x ∈ p0, x.block < W.heap.size := by obtain ⟨m, hm⟩ := k0; exact DataW.trod_lt m _ _ _ hm
  obtain ⟨a1, rfl, rfl, rfl, w1⟩ := open_int Try.underlying3 (hval 1 3 v1 rfl rfl) h1
  have b1 := bounds_i64 w1
  obtain ⟨a2, len2, cap2, rfl⟩ := okWide_slice Try.underlying31 (hval 2 31 v2 rfl rfl)
  have k2 := h2
  have lt2 : ∀ x ∈ p2, x.block < W.heap.size := by obtain ⟨m, hm⟩ := k2; exact DataW.trod_lt m _ _ _ hm
  obtain ⟨l2, hl2, hI2, b2⟩ := ints_of_trod Try.underlying31 Try.underlying3 (by kernel_rfl) h2
  clear hA0 hval0
  refine (DomRemoves_walk g0 cv0 a1 _ l2 W hC0 b1 hI2 b2).mono fun e W' ⟨he, bel⟩ => ?_
  subst he
  exact ⟨_, rfl, _, _, _, [], _, [], hW', trodAll_mk1 (shut_bool Try.underlying4 _), (trodAll_cons_mk (Below.trod laidOut (by kernel_rfl) (of_decide_eq_true (by kernel_rfl)) k0 bel lt0) (trodAll_cons_mk (shut_int Try.underlying3 w1) (trodAll_cons_mk (Below.trod laidOut (by kernel_rfl) (of_decide_eq_true (by kernel_rfl)) k2 bel lt2) trodAll_mk0))), rfl, bel.frame _, fun h => by cases h⟩

/-- The given statement. -/
theorem DomRemoves_holds : Rows.DomRemovesSaid :=
  OpenClaim.holds_of_wide 8 Try.f8 rfl rfl rfl rfl rfl rfl rfl ⟨rfl, rfl, rfl, rfl, rfl⟩ rfl rfl rfl rfl rfl (by kernel_rfl) Try.func8 (by kernel_rfl)
    (of_decide_eq_true (by kernel_rfl)) (by unfold Func.isWrapper; first | (rw [if_pos (by decide +kernel)]; kernel_rfl) | (rw [if_neg (by decide +kernel)]; exact ⟨rfl, rfl⟩))
    (fun os started H enc _ => DomRemoves_lifted os started H enc)

end Go.Proofs.Ytlijimdkadobmaa
