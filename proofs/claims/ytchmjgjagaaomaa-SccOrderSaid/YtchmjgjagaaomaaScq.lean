/- Contracts of Components and Of. -/
import Derived.Test.YtchmjgjagaaomaaSpw
import Derived.Test.YtchmjgjagaaomaaDsl
namespace Go.Proofs.Ytchmjgjagaaomaa
open Go.RowKit Go.Dfl Go.Gra Go.Tj
theorem parts0 (x y : Value) (w : World) : (Instr.field 48 (.agg #[x, y]) 0).run Try.prog w = .ok x w := by kernel_rfl
theorem parts1 (x y : Value) (w : World) : (Instr.field 48 (.agg #[x, y]) 1).run Try.prog w = .ok y w := by kernel_rfl
/-- The components and their index. -/
def CmpIs (g : G) (ls : List (List Int)) (of : List Int) : Prop := (gCode g ≠ 0 ∧ ls = [] ∧ of = []) ∨ (gCode g = 0 ∧ PartsAre g ls of)
theorem CmpIs.unique {g : G} {ls ls2 : List (List Int)} {of of2 : List Int} (h : CmpIs g ls of) (k : CmpIs g ls2 of2) : ls = ls2 ∧ of = of2 := by
  rcases h with ⟨h1, rfl, rfl⟩ | ⟨h1, h2⟩ <;> rcases k with ⟨k1, rfl, rfl⟩ | ⟨k1, k2⟩
  · exact ⟨rfl, rfl⟩
  · exact absurd k1 h1
  · exact absurd h1 k1
  · exact h2.unique k2
def CompsR (g : G) (W : World) (e : Ending) (W' : World) : Prop := ∃ ls of v vs, e = .returned (.tuple #[v, .int .i64 (gCode g)]) ∧ CmpIs g ls of ∧ Grid (Value.int .i64) W' v vs ls ∧ Below W.heap.size W W'
def OfR (g : G) (W : World) (e : Ending) (W' : World) : Prop := ∃ ls of v, e = .returned (.tuple #[v, .int .i64 (gCode g)]) ∧ CmpIs g ls of ∧ Ints W' v of ∧ Below W.heap.size W W'
theorem grid_nil (W : World) : Grid (Value.int .i64) W (.slice none 0 0) [] [] := by
  refine ⟨?_, rfl, fun i hi => by simp at hi⟩
  exact (Go.Dfl.Own.nil _ _ _ _ : Go.Dfl.Own (fun x : Value => x) W 0 0 (.slice none 0 0) []).lst
theorem ints_nil (W : World) : Ints W (.slice none 0 0) [] := (Go.Dfl.Own.nil _ _ _ _ : OwnI W 0 0 (.slice none 0 0) []).lst
set_option maxHeartbeats 1600000 in
set_option maxRecDepth 100000 in
theorem gComps_any (g : G) (cv : Value) (W : World) (h : Pairs W cv g.es) : Calls Try.prog 11 #[GV g cv] W (CompsR g W) := by
  obtain ⟨ca, cc, rfl, -, -, -⟩ := pairs_rd h
  have hal := (Below.refl W.heap.size W).alloc (Nat.le_refl _) (.cells #[.int .i64 g.n, .slice ca g.es.length cc] 24)
  have H0 := Lib.hid (And.intro (h.below hal) (And.intro hal (BoxG.new W g.n (.slice ca g.es.length cc) 24)))
  clear h hal
  unfold GV
  go_enter Try.func11, Try.ntmps11
  go_wp2_with fail
  have hck := gCheck_any g (.slice ca g.es.length cc) _ H0.out.1
  unfold GV at hck
  refine hck.mono ?_
  rintro e W1 ⟨rfl, r1⟩
  have H1 := Lib.hid (And.intro (H0.out.1.below r1) (And.intro (H0.out.2.1.trans (r1.mono H0.out.2.1.size)) (H0.out.2.2.below r1)))
  clear r1 hck
  obtain ⟨c0, c1⟩ := H1.out.2.2
  have hfld := parts0
  by_cases hc : gCode g = 0
  · have q0 : (gCode g != 0) = false := by simpa using hc
    have HV := Lib.hid (gCode_ok.1 hc)
    have HC := Lib.hid hc
    clear hc
    go_wp2_with fail
    have hsp := gSplit_any g (.slice ca g.es.length cc) _ H1.out.1 HV.out
    unfold GV at hsp
    refine hsp.mono ?_
    rintro e W2 ⟨ls, of, lv, vs, ov, rfl, hpa, hl, ho, b2⟩
    have H2 := Lib.hid (And.intro hpa (And.intro hl (And.intro ho (H1.out.2.1.trans (b2.mono H1.out.2.1.size)))))
    clear hpa hl ho b2 hsp
    go_wp2_with fail
    go_ret2
    exact ⟨ls, of, lv, vs, by rw [HC.out]; rfl, .inr ⟨HC.out, H2.out.1⟩, OwnN.grid H2.out.2.1, H2.out.2.2.2⟩
  · have q0 : (gCode g != 0) = true := by simpa using hc
    have HC := Lib.hid hc
    clear hc
    go_wp2_with fail
    go_ret2
    exact ⟨[], [], _, _, rfl, .inl ⟨HC.out, rfl, rfl⟩, grid_nil _, H1.out.2.1⟩
set_option maxHeartbeats 1600000 in
set_option maxRecDepth 100000 in
theorem gOf_any (g : G) (cv : Value) (W : World) (h : Pairs W cv g.es) : Calls Try.prog 14 #[GV g cv] W (OfR g W) := by
  obtain ⟨ca, cc, rfl, -, -, -⟩ := pairs_rd h
  have hal := (Below.refl W.heap.size W).alloc (Nat.le_refl _) (.cells #[.int .i64 g.n, .slice ca g.es.length cc] 24)
  have H0 := Lib.hid (And.intro (h.below hal) (And.intro hal (BoxG.new W g.n (.slice ca g.es.length cc) 24)))
  clear h hal
  unfold GV
  go_enter Try.func14, Try.ntmps14
  go_wp2_with fail
  have hck := gCheck_any g (.slice ca g.es.length cc) _ H0.out.1
  unfold GV at hck
  refine hck.mono ?_
  rintro e W1 ⟨rfl, r1⟩
  have H1 := Lib.hid (And.intro (H0.out.1.below r1) (And.intro (H0.out.2.1.trans (r1.mono H0.out.2.1.size)) (H0.out.2.2.below r1)))
  clear r1 hck
  obtain ⟨c0, c1⟩ := H1.out.2.2
  have hfld := parts1
  by_cases hc : gCode g = 0
  · have q0 : (gCode g != 0) = false := by simpa using hc
    have HV := Lib.hid (gCode_ok.1 hc)
    have HC := Lib.hid hc
    clear hc
    go_wp2_with fail
    have hsp := gSplit_any g (.slice ca g.es.length cc) _ H1.out.1 HV.out
    unfold GV at hsp
    refine hsp.mono ?_
    rintro e W2 ⟨ls, of, lv, vs, ov, rfl, hpa, hl, ho, b2⟩
    have H2 := Lib.hid (And.intro hpa (And.intro hl (And.intro ho (H1.out.2.1.trans (b2.mono H1.out.2.1.size)))))
    clear hpa hl ho b2 hsp
    go_wp2_with fail
    go_ret2
    exact ⟨ls, of, ov, by rw [HC.out]; rfl, .inr ⟨HC.out, H2.out.1⟩, H2.out.2.2.1.lst, H2.out.2.2.2⟩
  · have q0 : (gCode g != 0) = true := by simpa using hc
    have HC := Lib.hid hc
    clear hc
    go_wp2_with fail
    go_ret2
    exact ⟨[], [], _, rfl, .inl ⟨HC.out, rfl, rfl⟩, ints_nil _, H1.out.2.1⟩
end Go.Proofs.Ytchmjgjagaaomaa
