/- Contract of Pred. -/
import Derived.Test.YtjapnkhgijhakaaGrs
namespace Go.Proofs.Ytjapnkhgijhakaa
open Go.RowKit Go.Dfl Go.Gra

/-- The predecessors of v in the first k edges. -/
def predK (es : List (Int × Int)) (v : Int) (k : Nat) : List Int := ((es.take k).filter fun e => decide (e.2 = v)).map fun e => e.1
theorem predK_yes {es : List (Int × Int)} {v : Int} {k : Nat} (h : k < es.length) (hv : (nth es k).2 = v) : predK es v (k + 1) = predK es v k ++ [(nth es k).1] := by
  unfold predK; rw [take_snoc _ _ h, List.filter_append, List.map_append]; simp [hv]
theorem predK_no {es : List (Int × Int)} {v : Int} {k : Nat} (h : k < es.length) (hv : (nth es k).2 ≠ v) : predK es v (k + 1) = predK es v k := by
  unfold predK; rw [take_snoc _ _ h, List.filter_append, List.map_append]; simp [hv]
theorem predK_len (es : List (Int × Int)) (v : Int) (k : Nat) : (predK es v k).length ≤ k := by
  unfold predK; rw [List.length_map]; exact Nat.le_trans (List.length_filter_le _ _) (by rw [List.length_take]; omega)
def predZ (g : G) (v : Int) : List Int := if nodeG g v then predK g.es v g.es.length else []
def PredR (g : G) (v : Int) (W : World) (e : Ending) (W' : World) : Prop := ∃ a c, e = .returned (.slice a (predZ g v).length c) ∧ Ints W' (.slice a (predZ g v).length c) (predZ g v) ∧ Below W.heap.size W W'
set_option maxHeartbeats 3200000 in
set_option maxRecDepth 100000 in
theorem gPred_any (g : G) (cv : Value) (v : Int) (W : World) (h : Pairs W cv g.es) : Calls Try.prog 26 #[GV g cv, .int .i64 v] W (PredR g v W) := by
  obtain ⟨ca, cc, rfl, -, -, -⟩ := pairs_rd h
  have hal := (Below.refl W.heap.size W).alloc (Nat.le_refl _) (.cells #[.int .i64 g.n, .slice ca g.es.length cc] 25)
  have H0 := Lib.hid (And.intro (h.below hal) (And.intro hal (BoxG.new W g.n (.slice ca g.es.length cc) 25)))
  clear h hal
  unfold GV
  go_enter Try.func26, Try.ntmps26
  go_wp2_with fail
  have hck := gCheck_any g (.slice ca g.es.length cc) _ H0.out.1
  unfold GV at hck
  refine hck.mono ?_
  rintro e W1 ⟨rfl, r1⟩
  have H1 := Lib.hid (And.intro (H0.out.1.below r1) (And.intro (H0.out.2.1.trans (r1.mono H0.out.2.1.size)) (H0.out.2.2.below r1)))
  clear r1 hck
  obtain ⟨c0, c1⟩ := H1.out.2.2
  have n1 : W.heap.size < W1.heap.size := H1.out.2.2.lt
  generalize hbs : W.heap.size = bs at *
  have HBS := Lib.hid hbs
  have n2 : bs ≠ W1.heap.size := by omega
  clear hbs
  by_cases hc : gCode g = 0
  · have q0 : (gCode g != 0) = false := by simpa using hc
    cases hnd : nodeB g.n v
    · have HN : Hid (predZ g v = []) := Lib.hid (by unfold predZ nodeG; simp [hnd])
      go_wp2_with (go_at_call 30; refine (node_any _ _ _).mono ?_; rintro e w' ⟨rfl, hw⟩; rw [hw]; clear hw w')
      go_ret
      exact ⟨none, 0, by rw [HN.out]; rfl, by rw [HN.out]; exact Lst.nil _ _, by rw [HBS.out]; exact H1.out.2.1⟩
    · have hvg := gCode_ok.1 hc
      have HN : Hid (predZ g v = predK g.es v g.es.length) := Lib.hid (by unfold predZ nodeG; simp [hc, hnd])
      have hl := hvg.len
      obtain ⟨ca', cc', hce, -, hci, hcc⟩ := pairs_rd H1.out.1
      simp only [Value.slice.injEq] at hce
      obtain ⟨rfl, -, rfl⟩ := hce
      have HCC := Lib.hid hcc
      clear hcc hvg hc
      go_wp2_with (go_at_call 30; refine (node_any _ _ _).mono ?_; rintro e w' ⟨rfl, hw⟩; rw [hw]; clear hw w')
      go_loopw [5, 21] (fun o x wr => ∃ k : Nat, k ≤ g.es.length ∧ x = .int .i64 k ∧ Hid (OwnI wr W1.heap.size 3 o (predK g.es v k) ∧ Below W1.heap.size W1 wr)) (fun _ x _ => g.es.length - (intOf x).toNat)
      case atStart => exact ⟨0, by omega, rfl, Own.nil _ _ _ _, Below.refl _ _⟩
      case round =>
        obtain ⟨k, hk, rfl, hh⟩ := hrel
        have hsz := hh.out.2.size
        by_cases hlt : k < g.es.length
        · obtain ⟨p0, p1⟩ := (HCC.out k hlt).2 wr hh.out.2
          obtain ⟨e, he⟩ : ∃ e, e = nth g.es k := ⟨_, rfl⟩
          rw [← he] at p0 p1
          have HE := Lib.hid he
          clear he
          obtain ⟨x, y⟩ := e
          dsimp only at p0 p1
          by_cases hy : y = v
          · have HY : Hid (predK g.es v (k + 1) = predK g.es v k ++ [x]) := Lib.hid (by rw [predK_yes hlt (by rw [← HE.out]; exact hy), ← HE.out])
            subst hy
            have hll : (predK g.es y k).length < 17592186044416 := Nat.lt_of_le_of_lt (predK_len _ _ _) (by omega)
            have HL := Lib.hid hll
            clear hll
            go_wp2_with (at_builtin; refine wp_append1 (f := Value.int .i64) sIntG rfl _ rfl _ _ rfl W1.heap.size _ (predK g.es y k) rfl ((hh.out.1.alloc _).alloc _) x ⟨wr.heap.size + 1, 0, none⟩ rfl (by have h1 := cell_alloc1 (wr.alloc (.cells #[.int .i64 x, .int .i64 y] 39)) (.int .i64 x) 3; rw [World.size_alloc] at h1; exact h1) rfl HL.out (by omega) (le_alloc _ (le_alloc _ hsz)) ?_; intro v' w3 hown hgr hb3)
            go_roundw
            case rel => exact ⟨k + 1, by omega, by go_num, by rw [HY.out]; exact hown, ((hh.out.2.alloc hh.out.2.size _).alloc (le_alloc _ hh.out.2.size) _).trans hb3⟩
            case measure => simp [intOf]; omega
          · have HY : Hid (predK g.es v (k + 1) = predK g.es v k) := Lib.hid (predK_no hlt (by rw [← HE.out]; exact hy))
            have hd : decide (y = v) = false := by simpa using hy
            have hyb : (y == v) = false := by simpa using hy
            clear hy
            go_wp2_with fail
            go_roundw
            case rel => exact ⟨k + 1, by omega, by go_num, by rw [HY.out]; exact hh.out.1.alloc _, hh.out.2.alloc hh.out.2.size _⟩
            case measure => simp [intOf]; omega
        · obtain rfl : k = g.es.length := by omega
          obtain ⟨ua, uc, rfl⟩ := hh.out.1.shape (n := (predZ g v).length) (by rw [HN.out])
          go_wp2_with fail
          go_ret
          exact ⟨ua, uc, rfl, by have h1 := hh.out.1.lst; rw [← HN.out] at h1; exact h1, by rw [HBS.out]; exact H1.out.2.1.trans (hh.out.2.mono (Nat.le_of_lt n1))⟩
  · have hz : (gCode g != 0) = true := by simpa using hc
    have HN : Hid (predZ g v = []) := Lib.hid (by unfold predZ nodeG; simp [hc])
    clear hc
    go_wp2_with fail
    go_ret
    exact ⟨none, 0, by rw [HN.out]; rfl, by rw [HN.out]; exact Lst.nil _ _, by rw [HBS.out]; exact H1.out.2.1⟩
end Go.Proofs.Ytjapnkhgijhakaa
