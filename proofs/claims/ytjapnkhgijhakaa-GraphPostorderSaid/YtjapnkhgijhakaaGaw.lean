/- The closed example of the statements on graphs: awake. -/
import Derived.Test.YtjapnkhgijhakaaGrf
import Derived.Test.YtjapnkhgijhakaaGop
namespace Go.Gra
open Go.Dfl (nth nth_mem mem_nth nth_eq nth_ext)
def awG : G := ⟨3, [(0, 1), (1, 2)]⟩
theorem awG_sort : SortOf [(1, 2), (0, 1), (1, 2)] awG.es := by
  refine ⟨by simp [awG, eLt], fun e => ?_⟩
  simp only [awG, List.mem_cons, List.not_mem_nil, or_false]
  constructor
  · rintro (h | h) <;> simp [h]
  · rintro (h | h | h) <;> simp [h]
theorem awG_code : gCode awG = 0 := gCode_ok.2 ⟨by simp [awG], by simp [awG], by simp [awG], fun e he => by
  simp only [awG, List.mem_cons, List.not_mem_nil, or_false] at he
  rcases he with rfl | rfl <;> simp [awG], by simp [awG, eLt]⟩
theorem awG_rev : RevOf awG.es [(1, 0), (2, 1)] := by
  refine ⟨rfl, by simp [eLt], fun e => ?_⟩
  simp [awG, swp]
theorem awG_path {o : Bool} {l : List Nat} (h : PathIs awG 0 2 o l) : o = true ∧ l.length = 3 := by
  have h1 := PathIs.yes (g := awG) (a := 0) (b := 2) ⟨awG_code, by decide, by decide⟩ _ awG_rev 2 (by decide)
  obtain ⟨rfl, rfl⟩ := h.unique h1
  exact ⟨rfl, by decide⟩
theorem awG_reach : reachL awG [1] = [1, 2] := by decide
end Go.Gra
namespace Go.Proofs.Ytjapnkhgijhakaa
open Go.RowKit Go.Dfl Go.Gra

theorem awG_reachR {l : List Int} (h1 : l.Pairwise (· < ·)) (h2 : ∀ y : Int, y ∈ l ↔ 0 ≤ y ∧ y.toNat ∈ reachL awG [1]) : l.length = 2 := by
  have : l = [1, 2] := asc_unique h1 (by simp) fun y => by
    rw [h2, awG_reach]
    simp only [List.mem_cons, List.not_mem_nil, or_false]
    omega
  rw [this]; rfl
theorem awake_any (W : World) : Calls Try.prog 10 #[] W (TruePost W) := by
  go_enter Try.func10, Try.ntmps10
  have hnew := cells_new (W := W) (cs := [.int .i64 1, .int .i64 2, .int .i64 0, .int .i64 1, .int .i64 1, .int .i64 2]) (t := 39) rfl
  have hb1 : Below W.heap.size W (W.alloc (.cells #[.int .i64 1, .int .i64 2, .int .i64 0, .int .i64 1, .int .i64 1, .int .i64 2] 39)) := (Below.refl _ _).alloc (Nat.le_refl _) _
  have hp1 : Pairs (W.alloc (.cells #[.int .i64 1, .int .i64 2, .int .i64 0, .int .i64 1, .int .i64 1, .int .i64 2] 39)) (.slice (some ⟨W.heap.size, 0, none⟩) 3 3) [(1, 2), (0, 1), (1, 2)] := by
    refine ⟨some ⟨W.heap.size, 0, none⟩, 3, rfl, by simp, by unfold maxLen; omega, fun i hi => ⟨rfl, by simp [blk], fun j hj => ?_⟩⟩
    have hi3 : i = 0 ∨ i = 1 ∨ i = 2 := by simp at hi; omega
    have hj2 : j = 0 ∨ j = 1 := by omega
    rcases hi3 with rfl | rfl | rfl <;> rcases hj2 with rfl | rfl <;> exact hnew _ _ rfl
  have H1 := Lib.hid (And.intro hb1 hp1)
  clear hnew hb1 hp1
  go_wp2_with fail
  refine (gMake_any 3 _ _ _ H1.out.2 (by simp)).mono ?_
  rintro e W2 ⟨a, c, g, code, rfl, p2, mk, b2⟩
  obtain ⟨rfl, rfl⟩ := mk.unique (g' := awG) (c' := 0) (.inr (.inr (.inr ⟨⟨by omega, by omega⟩, fun e he => (by
    simp only [List.mem_cons, List.not_mem_nil, or_false] at he
    rcases he with rfl | rfl | rfl <;> decide), rfl, rfl, awG_sort⟩)))
  have hal := (Below.refl W2.heap.size W2).alloc (Nat.le_refl _) (.cells #[.int .i64 3, .slice a 2 c] 25)
  have hbx := BoxG.new W2 3 (.slice a 2 c) 25
  have hb2 := H1.out.1.trans (b2.mono H1.out.1.size)
  have H2 := Lib.hid (And.intro (show Pairs _ (.slice a 2 c) awG.es from p2.below hal) (And.intro hal (And.intro hbx hb2)))
  clear mk p2 b2 hal hbx hb2 H1
  unfold GV
  simp only [show awG.n = 3 from rfl, show awG.es.length = 2 from rfl]
  go_wp2_with fail
  have hpa := gPath_any awG (.slice a 2 c) 0 2 _ H2.out.1
  unfold GV at hpa
  refine hpa.mono ?_
  rintro e W3 ⟨o, ps, pc, l, rfl, -, b3, pis⟩
  obtain ⟨rfl, hl3⟩ := awG_path pis
  rw [hl3]
  have hb3 := H2.out.2.1.trans (b3.mono H2.out.2.1.size)
  obtain ⟨c0, c1⟩ := H2.out.2.2.1.below b3
  have hal := (Below.refl W3.heap.size W3).alloc (Nat.le_refl _) (.cells #[.int .i64 1] 3)
  have H3 := Lib.hid (And.intro (H2.out.1.below b3) (And.intro hb3 (own_one' (Value.int .i64) (w := W3) (base := W3.heap.size) (e := 3) (B := W3.heap.size) (1 : Int) rfl (Nat.le_refl _))))
  have HA := Lib.hid hal
  clear hpa b3 pis hl3 hb3 hal
  have hcn := World.block_lt_of_cell? W3 ⟨W2.heap.size, 0, none⟩ c0
  dsimp only at hcn
  go_wp2_with fail
  have hre := gReach_any awG (.slice a 2 c) (.slice (some ⟨W3.heap.size, 0, none⟩) 1 1) [1] _ (H3.out.1.below HA.out) H3.out.2.2.lst
  unfold GV at hre
  refine hre.mono ?_
  rintro e W4 ⟨ra, rc, L, rfl, -, b4, hcase⟩
  rcases hcase with ⟨h1, -⟩ | ⟨-, h2, h3⟩
  · exact absurd awG_code h1
  rw [awG_reachR h2 h3]
  have H4 := Lib.hid (H2.out.2.2.2.trans ((H3.out.2.1.trans ((HA.out.trans (b4.mono HA.out.size)).mono H3.out.2.1.size)).mono H2.out.2.2.2.size))
  clear hre b4 h2 h3
  go_wp2_with fail
  go_ret
  exact ⟨rfl, H4.out⟩
end Go.Proofs.Ytjapnkhgijhakaa
