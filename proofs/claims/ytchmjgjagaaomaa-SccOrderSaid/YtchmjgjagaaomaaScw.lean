/- What the statements on components share; their closed example. -/
import Derived.Test.YtchmjgjagaaomaaSca
import Derived.Test.YtchmjgjagaaomaaGop
namespace Go.Gra
open Go.Dfl (nth nth_mem mem_nth nth_eq nth_ext)
def awS : G := ⟨3, [(0, 1), (1, 0), (1, 2)]⟩
theorem awS_code : gCode awS = 0 := by decide +kernel
end Go.Gra
namespace Go.Proofs.Ytchmjgjagaaomaa
open Go.RowKit Go.Dfl Go.Gra Go.Tj
theorem awS_rec : recB awS 1 = true := by decide +kernel
theorem awS_heads : HdsAre awS [0, 0, 2] := by
  have e01 : eG awS 0 1 := by unfold eG; decide +kernel
  have e10 : eG awS 1 0 := by unfold eG; decide +kernel
  refine ⟨rfl, fun v hv => ?_⟩
  have hv3 : v = 0 ∨ v = 1 ∨ v = 2 := by have : awS.n.toNat = 3 := rfl; omega
  rcases hv3 with rfl | rfl | rfl
  · exact ⟨0, rfl, ⟨.refl _, .refl _⟩, fun w _ => Nat.zero_le _⟩
  · exact ⟨0, rfl, ⟨.one e10, .one e01⟩, fun w _ => Nat.zero_le _⟩
  · refine ⟨2, rfl, ⟨.refl _, .refl _⟩, fun w hw => ?_⟩
    have := hw.1.closed (P := fun x => x = 2) (fun a b ha hab => by
      subst ha
      have h9 : suc awS.es 2 = [] := by decide +kernel
      have h8 := hab.2
      rw [h9] at h8
      exact absurd h8 (by simp)) rfl
    omega
theorem awS_qE : qE awS [0, 0, 2] awS.es.length = [(2, 0)] := by decide +kernel
theorem awS_ord : OrdIs awS [0, 0, 2] [2, 0] := by
  unfold OrdIs
  rw [awS_qE]
  have s0 : hdN [0, 0, 2] ((0 : Nat) : Int) = 0 := by decide +kernel
  have s1 : hdN [0, 0, 2] ((1 : Nat) : Int) = 0 := by decide +kernel
  have s2 : hdN [0, 0, 2] ((2 : Nat) : Int) = 2 := by decide +kernel
  have hc : ∀ y, y < awS.n.toNat → y = 0 ∨ y = 1 ∨ y = 2 := fun y hy => by have : awS.n.toNat = 3 := rfl; omega
  refine ⟨fun j hj => ?_, by decide, fun x => ?_⟩
  · have hj2 : j = 0 ∨ j = 1 := by simp at hj; omega
    rcases hj2 with rfl | rfl
    · refine ⟨⟨s2, by decide, by simp, fun u hu => ?_⟩, fun y hS hy hm hu => ?_⟩
      · simp [nth] at hu
      · rcases hc y hy with rfl | rfl | rfl
        · exact absurd (hu 2 (by simp)) (by simp)
        · rw [s1] at hS; omega
        · exact Nat.le_refl _
    · exact ⟨⟨s0, by decide, by simp [nth], fun u hu => by simp [nth] at hu ⊢; exact hu⟩, fun y _ _ _ _ => Nat.zero_le _⟩
  · constructor
    · intro h
      simp at h
      rcases h with rfl | rfl
      · exact ⟨s2, by decide⟩
      · exact ⟨s0, by decide⟩
    · rintro ⟨hS, hx⟩
      rcases hc x hx with rfl | rfl | rfl
      · simp
      · rw [s1] at hS; omega
      · simp
theorem awS_parts : PartsAre awS [[2], [0, 1]] [1, 1, 0] := by
  refine ⟨[0, 0, 2], [2, 0], awS_heads, awS_ord, by decide +kernel, rfl, fun v hv => ?_⟩
  have hv3 : v = 0 ∨ v = 1 ∨ v = 2 := by have : awS.n.toNat = 3 := rfl; omega
  rcases hv3 with rfl | rfl | rfl
  · exact ⟨1, rfl, by decide, by decide +kernel⟩
  · exact ⟨1, rfl, by decide, by decide +kernel⟩
  · exact ⟨0, rfl, by decide, by decide +kernel⟩
theorem awS_acy {b : Bool} (h : b = true ↔ Acy awS) : b = false := by
  rw [Bool.eq_false_iff, Ne, h]
  rintro ⟨-, -, ls, of, h1, h2⟩
  rw [(h1.unique awS_parts).1] at h2
  exact absurd h2 (by decide)
theorem qt_below {w w' : World} (h : Qt w w') : Below w.heap.size w w' := h.below _
theorem bel_trans {W A B : World} (h : Below W.heap.size W A) (k : Below A.heap.size A B) : Below W.heap.size W B := h.trans (k.mono h.size)
theorem class_bel {P : Program} {f : FuncId} {args : Array Value} {Z : World} {v : Value} {Cls : World → Prop} (hC : ∀ Z', Below Z.heap.size Z Z' → Cls Z')
    (h : Calls P f args Z fun e Z' => e = .returned v ∧ Below Z.heap.size Z Z') : Calls P f args Z fun e w'' => e = .returned v ∧ ∃ q : Wd Cls, w'' = q.val :=
  class_of (h.mono fun _ Z' ⟨he, hb'⟩ => ⟨he, hC Z' hb'⟩)
/-- A boxed graph in memory. -/
structure GB (bs : Nat) (g : G) (cv : Value) (Z : World) : Prop where
  box : BoxG Z bs g.n cv
  es : Pairs Z cv g.es
theorem GB.below {bs : Nat} {g : G} {cv : Value} {Z Z' : World} (h : GB bs g cv Z) (hb : Below Z.heap.size Z Z') : GB bs g cv Z' := ⟨h.box.below hb, h.es.below hb⟩
theorem GB.new {g : G} {cv : Value} {Z : World} (h : Pairs Z cv g.es) (t : TypeId) : GB Z.heap.size g cv (Z.alloc (.cells #[.int .i64 g.n, cv] t)) := ⟨BoxG.new _ _ _ _, h.below ((Below.refl _ _).alloc (Nat.le_refl _) _)⟩
set_option maxHeartbeats 1600000 in
set_option maxRecDepth 100000 in
theorem awake_any (W : World) : Calls Try.prog 10 #[] W (TruePost W) := by
  go_enter Try.func10, Try.ntmps10
  have hnew := cells_new (W := W) (cs := [.int .i64 0, .int .i64 1, .int .i64 1, .int .i64 0, .int .i64 1, .int .i64 2]) (t := 35) rfl
  have hb1 : Below W.heap.size W (W.alloc (.cells #[.int .i64 0, .int .i64 1, .int .i64 1, .int .i64 0, .int .i64 1, .int .i64 2] 35)) := (Below.refl _ _).alloc (Nat.le_refl _) _
  have hp1 : Pairs (W.alloc (.cells #[.int .i64 0, .int .i64 1, .int .i64 1, .int .i64 0, .int .i64 1, .int .i64 2] 35)) (.slice (some ⟨W.heap.size, 0, none⟩) 3 3) awS.es := by
    refine ⟨some ⟨W.heap.size, 0, none⟩, 3, rfl, by simp [awS], by unfold maxLen; omega, fun i hi => ⟨rfl, by simp [blk], fun j hj => ?_⟩⟩
    have hi3 : i = 0 ∨ i = 1 ∨ i = 2 := by simp [awS] at hi; omega
    have hj2 : j = 0 ∨ j = 1 := by omega
    rcases hi3 with rfl | rfl | rfl <;> rcases hj2 with rfl | rfl <;> exact hnew _ _ rfl
  generalize hV : W.alloc (.cells #[.int .i64 0, .int .i64 1, .int .i64 1, .int .i64 0, .int .i64 1, .int .i64 2] 35) = V at *
  have hgb := GB.new (g := awS) hp1 24
  have hbb := hb1.trans (((Below.refl V.heap.size V).alloc (Nat.le_refl _) (.cells #[.int .i64 awS.n, .slice (some ⟨W.heap.size, 0, none⟩) 3 3] 24)).mono hb1.size)
  have hz : V.heap.size = W.heap.size + 1 := by rw [← hV, World.size_alloc]
  rw [hz] at hgb
  have H1 := Lib.hid (And.intro hgb hbb)
  have HVV := Lib.hid hV
  clear hnew hb1 hp1 hgb hbb hV hz
  go_wp2_with fail
  rw [HVV.out]
  clear HVV
  refine (gComps_any awS (.slice (some ⟨W.heap.size, 0, none⟩) 3 3) _ H1.out.1.es).mono ?_
  rintro e W2 ⟨ls, of, v, vs, rfl, hc, hG, b2⟩
  obtain rfl : ls = [[2], [0, 1]] := (hc.unique (.inr ⟨awS_code, awS_parts⟩)).1
  obtain ⟨a, c, rfl, hm, hvl, hr⟩ := rows_rd hG
  obtain ⟨i1, l1, r1, hI⟩ := hr 1 (by simp)
  obtain ⟨a1, c1, he1, -, -⟩ := hI.out1 sIntG
  rw [he1] at r1
  simp only [List.length_cons, List.length_nil, Nat.zero_add, Nat.reduceAdd] at i1 hm ⊢
  have i1' : ∀ Y, (Instr.indexAt 28 (.slice a 2 c) (.int .i64 1)).run Try.prog Y = .ok (.pointer (some ⟨blk a, ofs a + 1, none⟩)) Y := i1
  have r1' : W2.cell? ⟨blk a, ofs a + 1, none⟩ = some (.slice a1 2 c1) := r1
  rw [awS_code]
  have H2 := Lib.hid (And.intro (H1.out.1.below b2) (bel_trans H1.out.2 b2))
  clear hc hG b2 hm hvl hr i1 l1 r1 hI he1 H1
  obtain ⟨c0, c1⟩ := H2.out.1.box
  go_wp2_with fail
  refine (gRecursive_any awS (.slice (some ⟨W.heap.size, 0, none⟩) 3 3) 1 _ H2.out.1.es).mono ?_
  rintro e W3 ⟨rfl, b3⟩
  rw [awS_rec]
  have H3 := Lib.hid (And.intro (H2.out.1.below b3) (bel_trans H2.out.2 b3))
  clear b3 c0 c1 i1' r1'
  obtain ⟨c0, c1⟩ := H3.out.1.box
  go_wp2_with fail
  refine (gAcyclic_any awS (.slice (some ⟨W.heap.size, 0, none⟩) 3 3) _ H3.out.1.es).mono ?_
  rintro e W4 ⟨b, rfl, hb, b4⟩
  obtain rfl := awS_acy hb
  have H4 := Lib.hid (bel_trans H3.out.2 b4)
  clear b4 hb
  go_wp2_with fail
  go_ret
  exact ⟨rfl, H4.out⟩
end Go.Proofs.Ytchmjgjagaaomaa
