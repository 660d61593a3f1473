/- Contract of the reference's Succ. -/
import Derived.Test.YtchmjgjagaaomaaGt
namespace Go.Gra
open Go.Dfl (nth nth_mem mem_nth nth_eq take_snoc)
/-- The successors of v in the first k edges. -/
def succK (es : List (Int × Int)) (v : Int) (k : Nat) : List Int := ((es.take k).filter fun e => decide (e.1 = v)).map fun e => e.2
theorem succK_yes {es : List (Int × Int)} {v : Int} {k : Nat} (h : k < es.length) (hv : (nth es k).1 = v) : succK es v (k + 1) = succK es v k ++ [(nth es k).2] := by
  unfold succK; rw [take_snoc _ _ h, List.filter_append, List.map_append]; simp [hv]
theorem succK_no {es : List (Int × Int)} {v : Int} {k : Nat} (h : k < es.length) (hv : (nth es k).1 ≠ v) : succK es v (k + 1) = succK es v k := by
  unfold succK; rw [take_snoc _ _ h, List.filter_append, List.map_append]; simp [hv]
theorem succK_len (es : List (Int × Int)) (v : Int) (k : Nat) : (succK es v k).length ≤ k := by
  unfold succK; rw [List.length_map]; exact Nat.le_trans (List.length_filter_le _ _) (by rw [List.length_take]; omega)
theorem succK_suc {g : G} (h : VG g) {v : Int} (hv : 0 ≤ v) : succK g.es v g.es.length = (suc g.es v.toNat).map fun x : Nat => (x : Int) := by
  unfold succK suc
  rw [List.take_length, List.map_map, Int.toNat_of_nonneg hv]
  refine List.map_congr_left fun e he => ?_
  have := h.inn e (List.mem_filter.1 he).1
  show e.2 = ((e.2.toNat : Nat) : Int)
  omega
end Go.Gra
namespace Go.Proofs.Ytchmjgjagaaomaa
open Go.RowKit Go.Dfl Go.Gra
set_option maxHeartbeats 3200000 in
set_option maxRecDepth 100000 in
theorem rSucc_any (g : G) (cv : Value) (v : Int) (W : World) (h : Pairs W cv g.es) : Calls Try.prog 40 #[GV g cv, .int .i64 v] W (SuccR g v W) := by
  obtain ⟨ca, cc, rfl, -, -, -⟩ := pairs_rd h
  have hal := (Below.refl W.heap.size W).alloc (Nat.le_refl _) (.cells #[.int .i64 g.n, .slice ca g.es.length cc] 24)
  have H0 := Lib.hid (And.intro (h.below hal) (And.intro hal (BoxG.new W g.n (.slice ca g.es.length cc) 24)))
  clear h hal
  unfold GV
  go_enter Try.func40, Try.ntmps40
  go_wp2_with fail
  have hck := rNode_any g (.slice ca g.es.length cc) v _ H0.out.1
  unfold GV at hck
  refine hck.mono ?_
  rintro e W1 ⟨rfl, r1⟩
  have H1 := Lib.hid (And.intro (H0.out.1.below r1) (And.intro (H0.out.2.1.trans (r1.mono H0.out.2.1.size)) (H0.out.2.2.below r1)))
  clear r1 hck
  obtain ⟨c0, c1⟩ := H1.out.2.2
  have n1 : W.heap.size < W1.heap.size := H1.out.2.2.lt
  generalize hbs : W.heap.size = bs at *
  have HBS := Lib.hid hbs
  have n2 : bs ≠ W1.heap.size := by omega
  clear hbs
  cases hnd : nodeG g v
  · have HN : Hid (sucZ g v = []) := Lib.hid (by unfold sucZ; simp [hnd])
    go_wp2_with fail
    go_ret
    exact ⟨none, 0, by rw [HN.out]; rfl, by rw [HN.out]; exact Lst.nil _ _, by rw [HBS.out]; exact H1.out.2.1⟩
  · obtain ⟨hvg, hv0, -⟩ := nodeG_iff.1 hnd
    have HN : Hid ((sucZ g v).map (fun x : Nat => (x : Int)) = succK g.es v g.es.length ∧ (succK g.es v g.es.length).length = (sucZ g v).length) := Lib.hid (by
      have h1 : (sucZ g v).map (fun x : Nat => (x : Int)) = succK g.es v g.es.length := by unfold sucZ; rw [if_pos hnd, succK_suc hvg hv0]
      exact ⟨h1, by rw [← h1, List.length_map]⟩)
    have hl := hvg.len
    obtain ⟨ca', cc', hce, -, hci, hcc⟩ := pairs_rd H1.out.1
    simp only [Value.slice.injEq] at hce
    obtain ⟨rfl, -, rfl⟩ := hce
    have HCC := Lib.hid hcc
    clear hcc hvg hnd hv0
    go_wp2_with fail
    go_loopw [5, 6] (fun o x wr => ∃ k : Nat, k ≤ g.es.length ∧ x = .int .i64 k ∧ Hid (OwnI wr W1.heap.size 3 o (succK g.es v k) ∧ Below W1.heap.size W1 wr)) (fun _ x _ => g.es.length - (intOf x).toNat)
    case atStart => exact ⟨0, by omega, rfl, Own.nil _ _ _ _, Below.refl _ _⟩
    case round =>
      obtain ⟨k, hk, rfl, hh⟩ := hrel
      have hsz := hh.out.2.size
      obtain ⟨d0, d1⟩ := H1.out.2.2.below hh.out.2
      have hbw : bs ≠ wr.heap.size := by omega
      by_cases hlt : k < g.es.length
      · obtain ⟨p0, p1⟩ := (HCC.out k hlt).2 wr hh.out.2
        obtain ⟨e, he⟩ : ∃ e, e = nth g.es k := ⟨_, rfl⟩
        rw [← he] at p0 p1
        have HE := Lib.hid he
        clear he
        obtain ⟨x, y⟩ := e
        dsimp only at p0 p1
        by_cases hy : x = v
        · have HY : Hid (succK g.es v (k + 1) = succK g.es v k ++ [y]) := Lib.hid (by rw [succK_yes hlt (by rw [← HE.out]; exact hy), ← HE.out])
          subst hy
          have hll : (succK g.es x k).length < 17592186044416 := Nat.lt_of_le_of_lt (succK_len _ _ _) (by omega)
          have HL := Lib.hid hll
          clear hll
          go_wp2_with (at_builtin; refine wp_append1 (f := Value.int .i64) sIntG rfl _ rfl _ _ rfl W1.heap.size _ (succK g.es x k) rfl (hh.out.1.alloc _) y ⟨wr.heap.size, 0, none⟩ rfl (cell_alloc1 _ _ _) rfl HL.out (by omega) (le_alloc _ hsz) ?_; intro v' w3 hown hgr hb3)
          go_roundw
          case rel => exact ⟨k + 1, by omega, by go_num, by rw [HY.out]; exact hown, (hh.out.2.alloc hh.out.2.size _).trans hb3⟩
          case measure => simp [intOf]; omega
        · have HY : Hid (succK g.es v (k + 1) = succK g.es v k) := Lib.hid (succK_no hlt (by rw [← HE.out]; exact hy))
          have hyb : (x == v) = false := by simpa using hy
          clear hy
          go_wp2_with fail
          go_roundw
          case rel => exact ⟨k + 1, by omega, by go_num, by rw [HY.out]; exact hh.out.1, hh.out.2⟩
          case measure => simp [intOf]; omega
      · obtain rfl : k = g.es.length := by omega
        obtain ⟨ua, uc, rfl⟩ := hh.out.1.shape (n := (sucZ g v).length) HN.out.2
        go_wp2_with fail
        go_ret
        exact ⟨ua, uc, rfl, by have h1 := hh.out.1.lst; rw [← HN.out.1] at h1; exact h1, by rw [HBS.out]; exact H1.out.2.1.trans (hh.out.2.mono (Nat.le_of_lt n1))⟩
end Go.Proofs.Ytchmjgjagaaomaa
