/- What the statements on components of small graphs share. -/
import Derived.Test.YtchmjgjagaaomaaScw
import Derived.Test.YtchmjgjagaaomaaGrc
namespace Go.Proofs.Ytchmjgjagaaomaa
open Go.RowKit Go.Dfl Go.Gra Go.Tj
def smS (g : G) : Bool := decide (g.n ≤ 40) && decide (g.es.length ≤ 200)
set_option maxHeartbeats 800000 in
set_option maxRecDepth 100000 in
theorem small_any (g : G) (cv : Value) (W : World) (h : Pairs W cv g.es) : Calls Try.prog 16 #[GV g cv] W (BooR (smS g) W) := by
  obtain ⟨ca, cc, rfl, -, -, -⟩ := pairs_rd h
  have hal := (Below.refl W.heap.size W).alloc (Nat.le_refl _) (.cells #[.int .i64 g.n, .slice ca g.es.length cc] 24)
  have H0 := Lib.hid hal
  obtain ⟨c0, c1⟩ := BoxG.new W g.n (.slice ca g.es.length cc) 24
  clear h hal
  unfold GV
  go_enter Try.func16, Try.ntmps16
  by_cases h1 : g.n ≤ 40
  · by_cases h2 : g.es.length ≤ 200
    · have h2' : (g.es.length : Int) ≤ 200 := by omega
      have HD : Hid (smS g = true) := Lib.hid (by unfold smS; rw [decide_eq_true h1, decide_eq_true h2]; rfl)
      go_wp2_with fail
      go_ret
      exact ⟨by rw [HD.out]; rfl, H0.out⟩
    · have h2' : ¬ (g.es.length : Int) ≤ 200 := by omega
      have HD : Hid (smS g = false) := Lib.hid (by unfold smS; rw [decide_eq_true h1, decide_eq_false h2]; rfl)
      go_wp2_with fail
      go_ret
      exact ⟨by rw [HD.out]; rfl, H0.out⟩
  · have HD : Hid (smS g = false) := Lib.hid (by unfold smS; rw [decide_eq_false h1]; rfl)
    go_wp2_with fail
    go_ret
    exact ⟨by rw [HD.out]; rfl, H0.out⟩
end Go.Proofs.Ytchmjgjagaaomaa
