/- Contract of the reference's Pred; ascending lists are settled by their members. -/
import Derived.Test.YtjapnkhgijhakaaGrr
import Derived.Test.YtjapnkhgijhakaaGrq
import Derived.Test.YtjapnkhgijhakaaGpp
namespace Go.Gra
open Go.Dfl (nth nth_mem mem_nth nth_eq nth_ext)
theorem asc_unique : ∀ {l m : List Int}, l.Pairwise (· < ·) → m.Pairwise (· < ·) → (∀ e, e ∈ l ↔ e ∈ m) → l = m
  | [], [], _, _, _ => rfl
  | [], b :: m, _, _, h => by have := (h b).2 (by simp); simp at this
  | a :: l, [], _, _, h => by have := (h a).1 (by simp); simp at this
  | a :: l, b :: m, hl, hm, h => by
    rw [List.pairwise_cons] at hl hm
    have hab : a = b := by
      have h1 := (h a).1 (by simp)
      have h2 := (h b).2 (by simp)
      rcases List.mem_cons.1 h1 with e | h1
      · exact e
      · rcases List.mem_cons.1 h2 with e | h2
        · exact e.symm
        · have := hl.1 b h2; have := hm.1 a h1; omega
    subst hab
    congr 1
    refine asc_unique hl.2 hm.2 fun e => ?_
    have he := h e
    simp only [List.mem_cons] at he
    constructor
    · intro h1
      rcases he.1 (.inr h1) with rfl | h2
      · have := hl.1 e h1; omega
      · exact h2
    · intro h1
      rcases he.2 (.inr h1) with rfl | h2
      · have := hm.1 e h1; omega
      · exact h2
theorem succK_asc {es : List (Int × Int)} (h : es.Pairwise eLt) (v : Int) : (succK es v es.length).Pairwise (· < ·) := by
  unfold succK
  rw [List.take_length, List.pairwise_map]
  refine (h.filter _).imp_of_mem ?_
  intro a b ha hb hab
  have h1 := (List.mem_filter.1 ha).2
  have h2 := (List.mem_filter.1 hb).2
  rw [decide_eq_true_eq] at h1 h2
  unfold eLt at hab
  omega
end Go.Gra
namespace Go.Proofs.Ytjapnkhgijhakaa
open Go.RowKit Go.Dfl Go.Gra
theorem predK_asc {es : List (Int × Int)} (h : es.Pairwise eLt) (v : Int) : (predK es v es.length).Pairwise (· < ·) := by
  unfold predK
  rw [List.take_length, List.pairwise_map]
  refine (h.filter _).imp_of_mem ?_
  intro a b ha hb hab
  have h1 := (List.mem_filter.1 ha).2
  have h2 := (List.mem_filter.1 hb).2
  rw [decide_eq_true_eq] at h1 h2
  unfold eLt at hab
  omega
theorem gCode_rev {g : G} (h : gCode g = 0) {r : List (Int × Int)} (hr : RevOf g.es r) : gCode ⟨g.n, r⟩ = 0 := gCode_ok.2 ((gCode_ok.1 h).rev hr)
theorem sucZ_succK {g : G} {v : Int} (h : nodeG g v = true) : (sucZ g v).map (fun x : Nat => (x : Int)) = succK g.es v g.es.length := by
  obtain ⟨hvg, hv0, -⟩ := nodeG_iff.1 h
  unfold sucZ; rw [if_pos h, succK_suc hvg hv0]
/-- The successors in the reversed graph are the predecessors. -/
theorem sucZ_rev {g : G} (h : gCode g = 0) {r : List (Int × Int)} (hr : RevOf g.es r) (v : Int) : (sucZ ⟨g.n, r⟩ v).map (fun x : Nat => (x : Int)) = predZ g v := by
  have hn : nodeG ⟨g.n, r⟩ v = nodeG g v := by unfold nodeG; rw [gCode_rev h hr, h]
  cases hnd : nodeG g v
  · unfold sucZ predZ; rw [hn, hnd]; rfl
  · rw [sucZ_succK (by rw [hn]; exact hnd)]
    unfold predZ
    rw [hnd, if_pos rfl]
    refine asc_unique (succK_asc hr.2.1 v) (predK_asc (gCode_ok.1 h).srt v) fun x => ?_
    unfold succK predK
    simp only [List.take_length, List.mem_map, List.mem_filter, decide_eq_true_eq]
    constructor
    · rintro ⟨⟨a, b⟩, ⟨h1, rfl⟩, rfl⟩
      exact ⟨_, ⟨(mem_rev hr).1 h1, rfl⟩, rfl⟩
    · rintro ⟨⟨a, b⟩, ⟨h1, rfl⟩, rfl⟩
      exact ⟨_, ⟨(mem_rev hr).2 h1, rfl⟩, rfl⟩
/-- In no graph at all there is no successor. -/
theorem sucZ_zero (v : Int) : sucZ ⟨0, []⟩ v = [] := by
  unfold sucZ
  rw [if_neg]
  intro h
  obtain ⟨-, h1, h2⟩ := nodeG_iff.1 h
  dsimp only at h2
  omega
set_option maxHeartbeats 3200000 in
set_option maxRecDepth 100000 in
theorem rPred_any (g : G) (cv : Value) (v : Int) (W : World) (h : Pairs W cv g.es) : Calls Try.prog 27 #[GV g cv, .int .i64 v] W (PredR g v W) := by
  obtain ⟨ca, cc, rfl, -, -, -⟩ := pairs_rd h
  have hal := (Below.refl W.heap.size W).alloc (Nat.le_refl _) (.cells #[.int .i64 g.n, .slice ca g.es.length cc] 25)
  have H0 := Lib.hid (And.intro (h.below hal) (And.intro hal (BoxG.new W g.n (.slice ca g.es.length cc) 25)))
  clear h hal
  unfold GV
  obtain ⟨c0, c1⟩ := H0.out.2.2
  go_enter Try.func27, Try.ntmps27
  go_wp2_with fail
  have hre := rReverse_any g (.slice ca g.es.length cc) _ H0.out.1
  unfold GV at hre
  refine hre.mono ?_
  rintro e W1 (⟨hc, rfl, b1⟩ | ⟨hc, a, c, r, rfl, o1, hr, b1⟩)
  · have HB := Lib.hid (H0.out.2.1.trans (b1.mono H0.out.2.1.size))
    have HN : Hid (predZ g v = []) := Lib.hid (by unfold predZ nodeG; rw [decide_eq_false hc]; rfl)
    clear b1 hre hc
    go_wp2_with fail
    refine (rSucc_any ⟨0, []⟩ (.slice none 0 0) v W1 (pairs_nil _)).mono ?_
    rintro e W2 ⟨a2, c2, rfl, s2, b2⟩
    rw [sucZ_zero] at s2 ⊢
    have HS := Lib.hid (And.intro s2 b2)
    clear s2 b2
    go_wp2_with fail
    go_ret
    exact ⟨a2, c2, by rw [HN.out]; rfl, by rw [HN.out]; exact HS.out.1, HB.out.trans (HS.out.2.mono HB.out.size)⟩
  · have HB := Lib.hid (And.intro (H0.out.2.1.trans (b1.mono H0.out.2.1.size)) (And.intro o1 (sucZ_rev hc hr v)))
    clear b1 hre hc o1
    go_wp2_with fail
    refine (rSucc_any ⟨g.n, r⟩ (.slice a r.length c) v W1 (own_pairs HB.out.2.1)).mono ?_
    rintro e W2 ⟨a2, c2, rfl, s2, b2⟩
    have hlen : (sucZ ⟨g.n, r⟩ v).length = (predZ g v).length := by rw [← HB.out.2.2, List.length_map]
    rw [HB.out.2.2, hlen] at s2
    rw [hlen]
    have HS := Lib.hid (And.intro s2 b2)
    clear s2 b2 hlen
    go_wp2_with fail
    go_ret
    exact ⟨a2, c2, rfl, HS.out.1, HB.out.1.trans (HS.out.2.mono HB.out.1.size)⟩
end Go.Proofs.Ytjapnkhgijhakaa
