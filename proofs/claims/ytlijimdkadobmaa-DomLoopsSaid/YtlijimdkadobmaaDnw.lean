/- What the statements on dominators share; their closed example. -/
import Derived.Test.YtlijimdkadobmaaDnk
import Derived.Test.YtlijimdkadobmaaGop
import Derived.Test.YtlijimdkadobmaaGeq
namespace Go.Gra
open Go.Dfl (nth nth_mem mem_nth nth_eq nth_ext)
def awD : G := ⟨4, [(0, 1), (1, 2), (2, 1), (2, 3)]⟩
theorem awD_dcode : dcode awD 0 = 0 := by decide +kernel
theorem awD_idom : idomZ awD 0 = [-1, 0, 1, 2] := by decide +kernel
theorem awD_dom : domD awD 0 1 3 = true := by decide +kernel
end Go.Gra
namespace Go.Proofs.Ytlijimdkadobmaa
open Go.RowKit Go.Dfl Go.Gra
theorem awD_loops : loopsZ awD 0 = [1] := by decide +kernel
theorem qt_below {w w' : World} (h : Qt w w') : Below w.heap.size w w' := h.below _
theorem bel_trans {W A B : World} (h : Below W.heap.size W A) (k : Below A.heap.size A B) : Below W.heap.size W B := h.trans (k.mono h.size)
theorem eqB_refl (l : List Int) : eqB l l = true := by simp [eqB]
theorem class_bel {P : Program} {f : FuncId} {args : Array Value} {Z : World} {v : Value} {Cls : World → Prop} (hC : ∀ Z', Below Z.heap.size Z Z' → Cls Z')
    (h : Calls P f args Z fun e Z' => e = .returned v ∧ Below Z.heap.size Z Z') : Calls P f args Z fun e w'' => e = .returned v ∧ ∃ q : Wd Cls, w'' = q.val :=
  class_of (h.mono fun _ Z' ⟨he, hb'⟩ => ⟨he, hC Z' hb'⟩)
/-- A boxed graph in memory. -/
structure GB (bs : Nat) (g : G) (cv : Value) (Z : World) : Prop where
  box : BoxG Z bs g.n cv
  es : Pairs Z cv g.es
theorem GB.below {bs : Nat} {g : G} {cv : Value} {Z Z' : World} (h : GB bs g cv Z) (hb : Below Z.heap.size Z Z') : GB bs g cv Z' := ⟨h.box.below hb, h.es.below hb⟩
theorem GB.new {g : G} {cv : Value} {Z : World} (h : Pairs Z cv g.es) (t : TypeId) : GB Z.heap.size g cv (Z.alloc (.cells #[.int .i64 g.n, cv] t)) := ⟨BoxG.new _ _ _ _, h.below ((Below.refl _ _).alloc (Nat.le_refl _) _)⟩
/-- The first loop of a list that is read. -/
theorem LpV.rd {W : World} {v : Value} {ls : List (Int × List Int)} (h : LpV W v ls) : ∃ a c, v = .slice a ls.length c ∧ ls.length ≤ 9223372036854775807 ∧
    (∀ (x : Int), 0 ≤ x → x < ls.length → ∀ W, (Instr.indexAt 27 (.slice a ls.length c) (.int .i64 x)).run Try.prog W = .ok (.pointer (some ⟨blk a, ofs a + x.toNat * 2, none⟩)) W) ∧
    ∀ i, i < ls.length → blk a < W.heap.size ∧ W.cell? ⟨blk a, ofs a + i * 2, none⟩ = some (.int .i64 (nth ls i).1) ∧ ∃ ra rc, W.cell? ⟨blk a, ofs a + i * 2 + 1, none⟩ = some (.slice ra (nth ls i).2.length rc) ∧ Ints W (.slice ra (nth ls i).2.length rc) (nth ls i).2 := by
  obtain ⟨es, h1, h2, h3⟩ := h
  obtain ⟨a, cap, rfl, hm, hi, hc, hb⟩ := h1.outN sLoopG (by omega)
  rw [h2] at hm hi hc hb
  refine ⟨a, cap, by rw [h2], hm, fun x h0 h1 W => hi .i64 x h0 h1 W, fun i hil => ⟨hb i hil, ?_, ?_⟩⟩
  · have h9 := hc i hil 0 (by omega)
    rw [← (h3 i hil).1]; exact h9
  · have h9 := hc i hil 1 (by omega)
    have h10 := (h3 i hil).2
    obtain ⟨ra, rc, he, -⟩ := h10.out1 sIntG
    refine ⟨ra, rc, ?_, by rw [← he]; exact h10⟩
    rw [← he]; exact h9
set_option maxHeartbeats 1600000 in
set_option maxRecDepth 100000 in
theorem awake_any (W : World) : Calls Try.prog 10 #[] W (TruePost W) := by
  go_enter Try.func10, Try.ntmps10
  have hnew := cells_new (W := W) (cs := [.int .i64 0, .int .i64 1, .int .i64 1, .int .i64 2, .int .i64 2, .int .i64 1, .int .i64 2, .int .i64 3]) (t := 53) rfl
  have hb1 : Below W.heap.size W (W.alloc (.cells #[.int .i64 0, .int .i64 1, .int .i64 1, .int .i64 2, .int .i64 2, .int .i64 1, .int .i64 2, .int .i64 3] 53)) := (Below.refl _ _).alloc (Nat.le_refl _) _
  have hp1 : Pairs (W.alloc (.cells #[.int .i64 0, .int .i64 1, .int .i64 1, .int .i64 2, .int .i64 2, .int .i64 1, .int .i64 2, .int .i64 3] 53)) (.slice (some ⟨W.heap.size, 0, none⟩) 4 4) awD.es := by
    refine ⟨some ⟨W.heap.size, 0, none⟩, 4, rfl, by simp [awD], by unfold maxLen; omega, fun i hi => ⟨rfl, by simp [blk], fun j hj => ?_⟩⟩
    have hi3 : i = 0 ∨ i = 1 ∨ i = 2 ∨ i = 3 := by simp [awD] at hi; omega
    have hj2 : j = 0 ∨ j = 1 := by omega
    rcases hi3 with rfl | rfl | rfl | rfl <;> rcases hj2 with rfl | rfl <;> exact hnew _ _ rfl
  generalize hV : W.alloc (.cells #[.int .i64 0, .int .i64 1, .int .i64 1, .int .i64 2, .int .i64 2, .int .i64 1, .int .i64 2, .int .i64 3] 53) = V at *
  have hgb := GB.new (g := awD) hp1 24
  have hbb := hb1.trans (((Below.refl V.heap.size V).alloc (Nat.le_refl _) (.cells #[.int .i64 awD.n, .slice (some ⟨W.heap.size, 0, none⟩) 4 4] 24)).mono hb1.size)
  have hz : V.heap.size = W.heap.size + 1 := by rw [← hV, World.size_alloc]
  rw [hz] at hgb
  have H1 := Lib.hid (And.intro hgb hbb)
  have HVV := Lib.hid hV
  clear hnew hb1 hp1 hgb hbb hV hz
  go_wp2_with fail
  rw [HVV.out]
  clear HVV
  refine (dIdom_any awD (.slice (some ⟨W.heap.size, 0, none⟩) 4 4) 0 _ H1.out.1.es).mono ?_
  rintro e W2 ⟨a, c, rfl, hI, b2, -⟩
  rw [awD_idom] at hI
  simp only [awD_idom, awD_dcode, List.length_cons, List.length_nil]
  obtain ⟨a', c', he, hm, hi, hcl, hb⟩ := hI.out1 sIntG
  simp only [Value.slice.injEq, List.length_cons, List.length_nil] at he
  obtain ⟨rfl, -, rfl⟩ := he
  have r3 := hcl 3 (by simp)
  have r0 := hcl 0 (by simp)
  have i3 : ∀ W, (Instr.indexAt 31 (.slice a 4 c) (.int .i64 3)).run Try.prog W = .ok (.pointer (some ⟨blk a, ofs a + 3, none⟩)) W := hi .i64 3 (by omega) (by simp)
  have i0 : ∀ W, (Instr.indexAt 31 (.slice a 4 c) (.int .i64 0)).run Try.prog W = .ok (.pointer (some ⟨blk a, ofs a, none⟩)) W := hi .i64 0 (by omega) (by simp)
  have k3 := hb 3 (by simp)
  have H2 := Lib.hid (And.intro (H1.out.1.below b2) (And.intro (bel_trans H1.out.2 b2) (And.intro r3 (And.intro r0 k3))))
  clear r3 r0 k3 hm hi hcl hb hI b2 H1
  obtain ⟨c0, c1⟩ := H2.out.1.box
  go_wp2_with fail
  refine (dLoops_any awD (.slice (some ⟨W.heap.size, 0, none⟩) 4 4) 0 _ H2.out.1.es).mono ?_
  rintro e W3 ⟨la, lc, ls, rfl, hL, hA, b3⟩
  rw [awD_loops] at hA
  obtain ⟨l1, l2⟩ := hA
  have l3 := (l2 0 (by simp)).1
  obtain ⟨la', lc', he, hm, hi, hcl⟩ := hL.rd
  have hls : ls.length = 1 := l1
  rw [hls] at he hm hi hcl ⊢
  simp only [Value.slice.injEq] at he
  obtain ⟨rfl, -, rfl⟩ := he
  obtain ⟨-, q0, -⟩ := hcl 0 (by omega)
  rw [l3] at q0
  have j0 : ∀ W, (Instr.indexAt 27 (.slice la 1 lc) (.int .i64 0)).run Try.prog W = .ok (.pointer (some ⟨blk la, ofs la, none⟩)) W := hi 0 (by omega) (by omega)
  rw [awD_dcode]
  have H3 := Lib.hid (And.intro (H2.out.1.below b3) (bel_trans H2.out.2.1 b3))
  have r3 := (b3.cell (p := ⟨blk a, ofs a + 3, none⟩) H2.out.2.2.2.2).trans H2.out.2.2.1
  have r0 := (b3.cell (p := ⟨blk a, ofs a + 0, none⟩) H2.out.2.2.2.2).trans H2.out.2.2.2.1
  clear c0 c1 hL b3 l1 l2 l3 hm hi hcl hls
  obtain ⟨c0, c1⟩ := H3.out.1.box
  have s3 : nth ([-1, 0, 1, 2] : List Int) 3 = 2 := rfl
  have s0 : nth ([-1, 0, 1, 2] : List Int) 0 = -1 := rfl
  have s1 : ((nth ([1] : List Nat) 0 : Nat) : Int) = 1 := rfl
  rw [s3] at r3
  rw [s0, Nat.add_zero] at r0
  rw [s1, Nat.zero_mul, Nat.add_zero] at q0
  clear s3 s0 s1
  go_wp2_with fail
  refine (dDominates_any awD (.slice (some ⟨W.heap.size, 0, none⟩) 4 4) 0 1 3 _ H3.out.1.es).mono ?_
  rintro e W4 ⟨rfl, b4⟩
  rw [awD_dom]
  have H4 := Lib.hid (bel_trans H3.out.2 b4)
  clear b4
  go_wp2_with fail
  go_ret
  exact ⟨rfl, H4.out⟩
end Go.Proofs.Ytlijimdkadobmaa
