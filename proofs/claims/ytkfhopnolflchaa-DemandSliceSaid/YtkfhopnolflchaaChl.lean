/- Contracts of check, Check. -/
import Derived.Test.YtkfhopnolflchaaChk
namespace Go.Proofs.Ytkfhopnolflchaa
open Go.RowKit Go.Dfl Go.And

theorem below2 {W W1 : World} {a b : Obj} (q : Qt ((W.alloc a).alloc b) W1) : Below W.heap.size W W1 := by
  have h := (((Below.refl W.heap.size W).alloc (Nat.le_refl _) a).alloc (by simp) b)
  obtain ⟨n, rfl⟩ := q
  exact below_drewN h n
theorem ints_two {W : World} {v : Value} {l : List Int} (h : Ints W v l) (a b : Obj) : Ints ((W.alloc a).alloc b) v l := h.below (below2 (Qt.refl _))

set_option maxHeartbeats 6400000 in
theorem check_any (s : Sy) (cv : Value) (c : R) (sv : Value) (W : World) (hset : Ints W sv c.s) :
    Calls Try.prog 34 #[SysV s cv, .agg #[.int .i64 c.k, .int .i64 c.a, .int .i64 c.b, .int .i64 c.f, sv]] W fun e W' => e = .returned (.int .i64 (conCode s c)) ∧ Below W.heap.size W W' := by
  obtain ⟨sa, sc, rfl, hm, hidx, hcell, hblk⟩ := hset.out1 sInt
  have HS := Lib.hid hset
  clear hset hidx hcell hblk
  unfold SysV
  obtain ⟨vars, sites, fields, cons⟩ := s
  obtain ⟨k, a, b, f, cs⟩ := c
  dsimp only at *
  by_cases h1 : k < 1
  · go_enter Try.func34, Try.ntmps34
    go_wp2_with fail
    go_ret
    refine ⟨ret_int ?_, ?_⟩
    · (unfold conCode mostOf; dsimp only; repeat' split) <;> first | rfl | omega | (exfalso; simp_all; done) | (exfalso; simp_all; omega)
    · first | exact below2 (Qt.refl _) | exact below2 (Qt.drewN _ _) | exact below2 ((Qt.drewN _ _).trans (Qt.drewN _ _))
  · by_cases h2 : 5 < k
    · go_enter Try.func34, Try.ntmps34
      go_wp2_with fail
      go_ret
      refine ⟨ret_int ?_, ?_⟩
      · (unfold conCode mostOf; dsimp only; repeat' split) <;> first | rfl | omega | (exfalso; simp_all; done) | (exfalso; simp_all; omega)
      · first | exact below2 (Qt.refl _) | exact below2 (Qt.drewN _ _) | exact below2 ((Qt.drewN _ _).trans (Qt.drewN _ _))
    · have hk : k = 1 ∨ k = 2 ∨ k = 3 ∨ k = 4 ∨ k = 5 := by omega
      clear h1 h2
      rcases hk with rfl | rfl | rfl | rfl | rfl
      · go_enter Try.func34, Try.ntmps34
        go_wp2_with fail
        all_goals first
          | (refine (subset_any _ cs sites _ (ints_two HS.out _ _)).mono ?_
             rintro e W1 ⟨rfl, n1, rfl⟩
             cases hb : subB cs sites
             · go_wp2_with fail
               go_ret
               refine ⟨ret_int ?_, ?_⟩
               · (unfold conCode mostOf; dsimp only; repeat' split) <;> first | rfl | omega | (exfalso; simp_all; done) | (exfalso; simp_all; omega)
               · first | exact below2 (Qt.refl _) | exact below2 (Qt.drewN _ _) | exact below2 ((Qt.drewN _ _).trans (Qt.drewN _ _))
             · go_wp2_with fail
               all_goals first
                 | (refine (ascending_any _ cs _ ((ints_two HS.out _ _).qt (Qt.drewN _ _))).mono ?_
                    rintro e W2 ⟨rfl, n2, rfl⟩
                    cases hc : ascB cs
                    · go_wp2_with fail
                      go_ret
                      refine ⟨ret_int ?_, ?_⟩
                      · (unfold conCode mostOf; dsimp only; repeat' split) <;> first | rfl | omega | (exfalso; simp_all; done) | (exfalso; simp_all; omega)
                      · first | exact below2 (Qt.refl _) | exact below2 (Qt.drewN _ _) | exact below2 ((Qt.drewN _ _).trans (Qt.drewN _ _))
                    · go_wp2_with fail
                      go_ret
                      refine ⟨ret_int ?_, ?_⟩
                      · (unfold conCode mostOf; dsimp only; repeat' split) <;> first | rfl | omega | (exfalso; simp_all; done) | (exfalso; simp_all; omega)
                      · first | exact below2 (Qt.refl _) | exact below2 (Qt.drewN _ _) | exact below2 ((Qt.drewN _ _).trans (Qt.drewN _ _))
                    )
                 | (skip
                    go_ret
                    refine ⟨ret_int ?_, ?_⟩
                    · (unfold conCode mostOf; dsimp only; repeat' split) <;> first | rfl | omega | (exfalso; simp_all; done) | (exfalso; simp_all; omega)
                    · first | exact below2 (Qt.refl _) | exact below2 (Qt.drewN _ _) | exact below2 ((Qt.drewN _ _).trans (Qt.drewN _ _))
                    ))
          | (skip
             go_ret
             refine ⟨ret_int ?_, ?_⟩
             · (unfold conCode mostOf; dsimp only; repeat' split) <;> first | rfl | omega | (exfalso; simp_all; done) | (exfalso; simp_all; omega)
             · first | exact below2 (Qt.refl _) | exact below2 (Qt.drewN _ _) | exact below2 ((Qt.drewN _ _).trans (Qt.drewN _ _))
             )
      · go_enter Try.func34, Try.ntmps34
        go_wp2_with fail
        all_goals first
          | (refine (subset_any _ cs sites _ (ints_two HS.out _ _)).mono ?_
             rintro e W1 ⟨rfl, n1, rfl⟩
             cases hb : subB cs sites
             · go_wp2_with fail
               go_ret
               refine ⟨ret_int ?_, ?_⟩
               · (unfold conCode mostOf; dsimp only; repeat' split) <;> first | rfl | omega | (exfalso; simp_all; done) | (exfalso; simp_all; omega)
               · first | exact below2 (Qt.refl _) | exact below2 (Qt.drewN _ _) | exact below2 ((Qt.drewN _ _).trans (Qt.drewN _ _))
             · go_wp2_with fail
               all_goals first
                 | (refine (ascending_any _ cs _ ((ints_two HS.out _ _).qt (Qt.drewN _ _))).mono ?_
                    rintro e W2 ⟨rfl, n2, rfl⟩
                    cases hc : ascB cs
                    · go_wp2_with fail
                      go_ret
                      refine ⟨ret_int ?_, ?_⟩
                      · (unfold conCode mostOf; dsimp only; repeat' split) <;> first | rfl | omega | (exfalso; simp_all; done) | (exfalso; simp_all; omega)
                      · first | exact below2 (Qt.refl _) | exact below2 (Qt.drewN _ _) | exact below2 ((Qt.drewN _ _).trans (Qt.drewN _ _))
                    · go_wp2_with fail
                      go_ret
                      refine ⟨ret_int ?_, ?_⟩
                      · (unfold conCode mostOf; dsimp only; repeat' split) <;> first | rfl | omega | (exfalso; simp_all; done) | (exfalso; simp_all; omega)
                      · first | exact below2 (Qt.refl _) | exact below2 (Qt.drewN _ _) | exact below2 ((Qt.drewN _ _).trans (Qt.drewN _ _))
                    )
                 | (skip
                    go_ret
                    refine ⟨ret_int ?_, ?_⟩
                    · (unfold conCode mostOf; dsimp only; repeat' split) <;> first | rfl | omega | (exfalso; simp_all; done) | (exfalso; simp_all; omega)
                    · first | exact below2 (Qt.refl _) | exact below2 (Qt.drewN _ _) | exact below2 ((Qt.drewN _ _).trans (Qt.drewN _ _))
                    ))
          | (skip
             go_ret
             refine ⟨ret_int ?_, ?_⟩
             · (unfold conCode mostOf; dsimp only; repeat' split) <;> first | rfl | omega | (exfalso; simp_all; done) | (exfalso; simp_all; omega)
             · first | exact below2 (Qt.refl _) | exact below2 (Qt.drewN _ _) | exact below2 ((Qt.drewN _ _).trans (Qt.drewN _ _))
             )
      · go_enter Try.func34, Try.ntmps34
        go_wp2_with fail
        all_goals first
          | (refine (subset_any _ cs sites _ (ints_two HS.out _ _)).mono ?_
             rintro e W1 ⟨rfl, n1, rfl⟩
             cases hb : subB cs sites
             · go_wp2_with fail
               go_ret
               refine ⟨ret_int ?_, ?_⟩
               · (unfold conCode mostOf; dsimp only; repeat' split) <;> first | rfl | omega | (exfalso; simp_all; done) | (exfalso; simp_all; omega)
               · first | exact below2 (Qt.refl _) | exact below2 (Qt.drewN _ _) | exact below2 ((Qt.drewN _ _).trans (Qt.drewN _ _))
             · go_wp2_with fail
               all_goals first
                 | (refine (ascending_any _ cs _ ((ints_two HS.out _ _).qt (Qt.drewN _ _))).mono ?_
                    rintro e W2 ⟨rfl, n2, rfl⟩
                    cases hc : ascB cs
                    · go_wp2_with fail
                      go_ret
                      refine ⟨ret_int ?_, ?_⟩
                      · (unfold conCode mostOf; dsimp only; repeat' split) <;> first | rfl | omega | (exfalso; simp_all; done) | (exfalso; simp_all; omega)
                      · first | exact below2 (Qt.refl _) | exact below2 (Qt.drewN _ _) | exact below2 ((Qt.drewN _ _).trans (Qt.drewN _ _))
                    · go_wp2_with fail
                      go_ret
                      refine ⟨ret_int ?_, ?_⟩
                      · (unfold conCode mostOf; dsimp only; repeat' split) <;> first | rfl | omega | (exfalso; simp_all; done) | (exfalso; simp_all; omega)
                      · first | exact below2 (Qt.refl _) | exact below2 (Qt.drewN _ _) | exact below2 ((Qt.drewN _ _).trans (Qt.drewN _ _))
                    )
                 | (skip
                    go_ret
                    refine ⟨ret_int ?_, ?_⟩
                    · (unfold conCode mostOf; dsimp only; repeat' split) <;> first | rfl | omega | (exfalso; simp_all; done) | (exfalso; simp_all; omega)
                    · first | exact below2 (Qt.refl _) | exact below2 (Qt.drewN _ _) | exact below2 ((Qt.drewN _ _).trans (Qt.drewN _ _))
                    ))
          | (skip
             go_ret
             refine ⟨ret_int ?_, ?_⟩
             · (unfold conCode mostOf; dsimp only; repeat' split) <;> first | rfl | omega | (exfalso; simp_all; done) | (exfalso; simp_all; omega)
             · first | exact below2 (Qt.refl _) | exact below2 (Qt.drewN _ _) | exact below2 ((Qt.drewN _ _).trans (Qt.drewN _ _))
             )
      · go_enter Try.func34, Try.ntmps34
        go_wp2_with fail
        all_goals first
          | (refine (subset_any _ cs sites _ (ints_two HS.out _ _)).mono ?_
             rintro e W1 ⟨rfl, n1, rfl⟩
             cases hb : subB cs sites
             · go_wp2_with fail
               go_ret
               refine ⟨ret_int ?_, ?_⟩
               · (unfold conCode mostOf; dsimp only; repeat' split) <;> first | rfl | omega | (exfalso; simp_all; done) | (exfalso; simp_all; omega)
               · first | exact below2 (Qt.refl _) | exact below2 (Qt.drewN _ _) | exact below2 ((Qt.drewN _ _).trans (Qt.drewN _ _))
             · go_wp2_with fail
               all_goals first
                 | (refine (ascending_any _ cs _ ((ints_two HS.out _ _).qt (Qt.drewN _ _))).mono ?_
                    rintro e W2 ⟨rfl, n2, rfl⟩
                    cases hc : ascB cs
                    · go_wp2_with fail
                      go_ret
                      refine ⟨ret_int ?_, ?_⟩
                      · (unfold conCode mostOf; dsimp only; repeat' split) <;> first | rfl | omega | (exfalso; simp_all; done) | (exfalso; simp_all; omega)
                      · first | exact below2 (Qt.refl _) | exact below2 (Qt.drewN _ _) | exact below2 ((Qt.drewN _ _).trans (Qt.drewN _ _))
                    · go_wp2_with fail
                      go_ret
                      refine ⟨ret_int ?_, ?_⟩
                      · (unfold conCode mostOf; dsimp only; repeat' split) <;> first | rfl | omega | (exfalso; simp_all; done) | (exfalso; simp_all; omega)
                      · first | exact below2 (Qt.refl _) | exact below2 (Qt.drewN _ _) | exact below2 ((Qt.drewN _ _).trans (Qt.drewN _ _))
                    )
                 | (skip
                    go_ret
                    refine ⟨ret_int ?_, ?_⟩
                    · (unfold conCode mostOf; dsimp only; repeat' split) <;> first | rfl | omega | (exfalso; simp_all; done) | (exfalso; simp_all; omega)
                    · first | exact below2 (Qt.refl _) | exact below2 (Qt.drewN _ _) | exact below2 ((Qt.drewN _ _).trans (Qt.drewN _ _))
                    ))
          | (skip
             go_ret
             refine ⟨ret_int ?_, ?_⟩
             · (unfold conCode mostOf; dsimp only; repeat' split) <;> first | rfl | omega | (exfalso; simp_all; done) | (exfalso; simp_all; omega)
             · first | exact below2 (Qt.refl _) | exact below2 (Qt.drewN _ _) | exact below2 ((Qt.drewN _ _).trans (Qt.drewN _ _))
             )
      · go_enter Try.func34, Try.ntmps34
        go_wp2_with fail
        all_goals first
          | (refine (subset_any _ cs sites _ (ints_two HS.out _ _)).mono ?_
             rintro e W1 ⟨rfl, n1, rfl⟩
             cases hb : subB cs sites
             · go_wp2_with fail
               go_ret
               refine ⟨ret_int ?_, ?_⟩
               · (unfold conCode mostOf; dsimp only; repeat' split) <;> first | rfl | omega | (exfalso; simp_all; done) | (exfalso; simp_all; omega)
               · first | exact below2 (Qt.refl _) | exact below2 (Qt.drewN _ _) | exact below2 ((Qt.drewN _ _).trans (Qt.drewN _ _))
             · go_wp2_with fail
               all_goals first
                 | (refine (ascending_any _ cs _ ((ints_two HS.out _ _).qt (Qt.drewN _ _))).mono ?_
                    rintro e W2 ⟨rfl, n2, rfl⟩
                    cases hc : ascB cs
                    · go_wp2_with fail
                      go_ret
                      refine ⟨ret_int ?_, ?_⟩
                      · (unfold conCode mostOf; dsimp only; repeat' split) <;> first | rfl | omega | (exfalso; simp_all; done) | (exfalso; simp_all; omega)
                      · first | exact below2 (Qt.refl _) | exact below2 (Qt.drewN _ _) | exact below2 ((Qt.drewN _ _).trans (Qt.drewN _ _))
                    · go_wp2_with fail
                      go_ret
                      refine ⟨ret_int ?_, ?_⟩
                      · (unfold conCode mostOf; dsimp only; repeat' split) <;> first | rfl | omega | (exfalso; simp_all; done) | (exfalso; simp_all; omega)
                      · first | exact below2 (Qt.refl _) | exact below2 (Qt.drewN _ _) | exact below2 ((Qt.drewN _ _).trans (Qt.drewN _ _))
                    )
                 | (skip
                    go_ret
                    refine ⟨ret_int ?_, ?_⟩
                    · (unfold conCode mostOf; dsimp only; repeat' split) <;> first | rfl | omega | (exfalso; simp_all; done) | (exfalso; simp_all; omega)
                    · first | exact below2 (Qt.refl _) | exact below2 (Qt.drewN _ _) | exact below2 ((Qt.drewN _ _).trans (Qt.drewN _ _))
                    ))
          | (skip
             go_ret
             refine ⟨ret_int ?_, ?_⟩
             · (unfold conCode mostOf; dsimp only; repeat' split) <;> first | rfl | omega | (exfalso; simp_all; done) | (exfalso; simp_all; omega)
             · first | exact below2 (Qt.refl _) | exact below2 (Qt.drewN _ _) | exact below2 ((Qt.drewN _ _).trans (Qt.drewN _ _))
             )
end Go.Proofs.Ytkfhopnolflchaa
