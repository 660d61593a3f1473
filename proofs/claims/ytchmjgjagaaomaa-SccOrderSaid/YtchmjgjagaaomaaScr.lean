/- Contracts of slices.BinarySearch and Recursive. -/
import Derived.Test.YtchmjgjagaaomaaScq
import Derived.Test.YtchmjgjagaaomaaLbs
import Derived.Test.YtchmjgjagaaomaaGrh
import Derived.Test.YtchmjgjagaaomaaGa
namespace Go.Proofs.Ytchmjgjagaaomaa
open Go.RowKit Go.Dfl Go.Gra Go.Tj
def FoundR (b : Bool) (W : World) (e : Ending) (W' : World) : Prop := ∃ i : Int, e = .returned (.tuple #[.int .i64 i, .bool b]) ∧ Qt W W'
set_option maxHeartbeats 800000 in
set_option maxRecDepth 100000 in
theorem bs_any (v : Value) (l : List Int) (x : Int) (W : World) (h : Ints W v l) (hs : l.Pairwise (· < ·)) (hl : l.length ≤ 8192) : Calls Try.prog 37 #[v, .int .i64 x] W (FoundR (decide (x ∈ l)) W) := by
  obtain ⟨a, c, rfl, hm, hm2, h3⟩ := h
  cases l with
  | nil =>
    clear h3 hs hl hm hm2
    go_enter Try.func37, Try.ntmps37
    go_wp2_with fail
    go_loopw [7, 8] (fun s t wr => s = .int .i64 0 ∧ t = .int .i64 0 ∧ wr = W) (fun _ _ _ => 0)
    case atStart => exact ⟨rfl, rfl, rfl⟩
    case round =>
      obtain ⟨rfl, rfl, rfl⟩ := hrel
      go_wp2_with fail
      go_ret2
      exact ⟨0, rfl, (by first | exact Qt.refl _ | exact Qt.drewN _ _ | exact (Qt.drewN _ _).trans (Qt.drewN _ _) | exact ((Qt.drewN _ _).trans (Qt.drewN _ _)).trans (Qt.drewN _ _) | exact Qt.drew _ | exact (Qt.drewN _ _).trans (Qt.drew _))⟩
  | cons y t =>
    obtain ⟨ha, -⟩ := h3 0 (by simp)
    obtain ⟨b, off, rfl⟩ : ∃ b off, a = some ⟨b, off, none⟩ := ⟨_, _, ha⟩
    have e1 : blk (some (⟨b, off, none⟩ : Addr)) = b := rfl
    have e2 : ofs (some (⟨b, off, none⟩ : Addr)) = off := rfl
    refine (AnyG.slices_BinarySearch_int bsI b off (y :: t).length c (y :: t) x W (Nat.le_refl _) (by omega) (fun j hj => ?_) ?_).mono ?_
    · have h9 := (h3 j hj).2.2 0 (by omega)
      rw [e1, e2, Nat.mul_one, Nat.add_zero] at h9
      exact h9
    · rw [List.take_length]; exact hs.imp (fun h => Int.le_of_lt h)
    · rintro e W' ⟨rfl, q, rfl⟩
      have hh : decide (x ∈ y :: t) = ((y :: t).take (y :: t).length).contains x := by rw [List.take_length, List.contains_eq_mem]
      exact ⟨_, by rw [hh], (by first | exact Qt.refl _ | exact Qt.drewN _ _ | exact (Qt.drewN _ _).trans (Qt.drewN _ _) | exact ((Qt.drewN _ _).trans (Qt.drewN _ _)).trans (Qt.drewN _ _) | exact Qt.drew _ | exact (Qt.drewN _ _).trans (Qt.drew _))⟩
/-- Is v on a cycle? -/
def recB (g : G) (v : Int) : Bool := decide (gCode g = 0) && (nodeB g.n v && decide (v.toNat ∈ reachL g ((sucZ g v).map fun x : Nat => (x : Int))))
def BooR (b : Bool) (W : World) (e : Ending) (W' : World) : Prop := e = .returned (.bool b) ∧ Below W.heap.size W W'
theorem asc_len {l : List Int} (h : l.Pairwise (· < ·)) {n : Nat} (hn : ∀ y ∈ l, 0 ≤ y ∧ y.toNat < n) : l.length ≤ n := by
  have h1 : (l.map Int.toNat).Nodup := by
    rw [List.nodup_iff_pairwise_ne, List.pairwise_map]
    refine h.imp_of_mem fun {a b} ha hb hab e => ?_
    have := (hn a ha).1
    have := (hn b hb).1
    omega
  have h2 := Go.Kah.nodup_le _ (List.range n) h1 (fun x hx => by
    obtain ⟨y, hy, rfl⟩ := List.mem_map.1 hx
    rw [List.mem_range]; exact (hn y hy).2)
  rw [List.length_map, List.length_range] at h2
  exact h2
set_option maxHeartbeats 1600000 in
set_option maxRecDepth 100000 in
theorem gRecursive_any (g : G) (cv : Value) (v : Int) (W : World) (h : Pairs W cv g.es) : Calls Try.prog 26 #[GV g cv, .int .i64 v] W (BooR (recB g v) W) := by
  obtain ⟨ca, cc, rfl, -, -, -⟩ := pairs_rd h
  have hal := (Below.refl W.heap.size W).alloc (Nat.le_refl _) (.cells #[.int .i64 g.n, .slice ca g.es.length cc] 24)
  have H0 := Lib.hid (And.intro (h.below hal) (And.intro hal (BoxG.new W g.n (.slice ca g.es.length cc) 24)))
  clear h hal
  unfold GV
  go_enter Try.func26, Try.ntmps26
  go_wp2_with fail
  have hck := gCheck_any g (.slice ca g.es.length cc) _ H0.out.1
  unfold GV at hck
  refine hck.mono ?_
  rintro e W1 ⟨rfl, r1⟩
  have H1 := Lib.hid (And.intro (H0.out.1.below r1) (And.intro (H0.out.2.1.trans (r1.mono H0.out.2.1.size)) (H0.out.2.2.below r1)))
  clear r1 hck
  obtain ⟨c0, c1⟩ := H1.out.2.2
  by_cases hc : gCode g = 0
  · have q0 : (gCode g != 0) = false := by simpa using hc
    by_cases h0 : 0 ≤ v
    · have q1 : decide (v < 0) = false := decide_eq_false (by omega)
      by_cases h1 : v < g.n
      · have q2 : decide (v ≥ g.n) = false := decide_eq_false (by omega)
        obtain ⟨u, rfl⟩ : ∃ u : Nat, v = (u : Int) := ⟨v.toNat, by omega⟩
        have HD : Hid (recB g (u : Int) = decide (u ∈ reachL g ((sucZ g (u : Int)).map fun x : Nat => (x : Int)))) := Lib.hid (by
          unfold recB; rw [decide_eq_true hc, nodeB_iff.2 ⟨h0, h1⟩, Int.toNat_natCast]; rfl)
        have HV := Lib.hid (And.intro (gCode_ok.1 hc) hc)
        clear hc h0 h1
        go_upto_region 3 with fail
        clear q0 q1 q2
        refine wp_region_plan (.take 0 (.take 1 (.take 2 (.take 5 (.alt 3 (.alt 4 (.alt 6 (.take 7 (.take 8 (.take 9 (.take 10 (.take 11 .done))))) .stop) .stop) .stop))))) (fun w' => BoxG w' W.heap.size g.n (.slice ca g.es.length cc)) (by kernel_rfl) (by kernel_rfl) (by kernel_rfl) (by kernel_rfl) (H1.out.2.2.below ((Below.refl _ _).drew)) ?_
        have hdr : Below W1.heap.size W1 W1.drew := (Below.refl _ _).drew
        have H1' := Lib.hid (And.intro (H1.out.1.below hdr) (And.intro (H1.out.2.1.trans (hdr.mono H1.out.2.1.size)) (H1.out.2.2.below hdr)))
        clear hdr c0 c1
        generalize W1.drew = V1 at *
        repeat (
          refine plan_take (v := ?_) rfl (Or.inl ⟨by rfl, ?_⟩) ?_
          rotate_left
          · (intro W hW; obtain ⟨q1, q2⟩ := hW; go_simp; try with_reducible rfl)
          simp only [Act.put, List.setIfInBounds_toArray, List.getElem_toArray, List.getElem_cons_zero, List.getElem_cons_succ, List.set_cons_succ, List.set_cons_zero])
        refine plan_alt rfl ?_ plan_stop
        go_wp2_with fail
        have hsu := gSucc_any g (.slice ca g.es.length cc) (u : Int) V1 H1'.out.1
        unfold GV at hsu
        refine hsu.mono ?_
        rintro e W2 ⟨sa, sc, rfl, hs2, b2⟩
        have H2 := Lib.hid (And.intro (H1'.out.1.below b2) (And.intro (H1'.out.2.1.trans (b2.mono H1'.out.2.1.size)) (And.intro (H1'.out.2.2.below b2) hs2)))
        clear hsu hs2 b2
        go_wp2_with fail
        refine tail_mk H2.out.2.2.1 ?_
        refine plan_alt rfl ?_ plan_stop
        have hre := gReach_any g (.slice ca g.es.length cc) _ _ W2 H2.out.1 H2.out.2.2.2
        unfold GV at hre
        go_wp2_with fail
        refine hre.mono ?_
        rintro e W3 ⟨ra, rc, L, rfl, hL, b3, hm⟩
        have H3 := Lib.hid (And.intro (H2.out.2.1.trans (b3.mono H2.out.2.1.size)) (H2.out.2.2.1.below b3))
        obtain ⟨-, hasc, hmem⟩ : gCode g = 0 ∧ L.Pairwise (· < ·) ∧ ∀ y : Int, y ∈ L ↔ 0 ≤ y ∧ y.toNat ∈ reachL g ((sucZ g (u : Int)).map fun x : Nat => (x : Int)) := by
          rcases hm with h9 | h9
          · exact absurd HV.out.2 h9.1
          · exact h9
        have hLl : L.length ≤ 8192 := by
          have h9 := asc_len hasc (n := g.n.toNat) (fun y hy => ⟨((hmem y).1 hy).1, reachL_lt HV.out.1 ((hmem y).1 hy).2⟩)
          have := HV.out.1.n1
          omega
        have hbs := bs_any _ L (u : Int) W3 hL hasc hLl
        have HX : Hid (decide ((u : Int) ∈ L) = recB g (u : Int)) := Lib.hid (by
          rw [HD.out, decide_eq_decide, hmem, Int.toNat_natCast]; simp)
        rw [HX.out] at hbs
        clear hre hL b3 hm hasc hmem hLl
        go_wp2_with fail
        refine tail_mk H3.out.2 ?_
        refine plan_alt rfl ?_ plan_stop
        go_wp2_with fail
        refine hbs.mono ?_
        rintro e W4 ⟨i, rfl, q4⟩
        have H4 := Lib.hid (And.intro (H3.out.1.trans (q4.below _)) (H3.out.2.below (q4.below _)))
        clear q4 hbs
        go_wp2_with fail
        refine tail_mk H4.out.2 ?_
        repeat (
          refine plan_take (v := ?_) rfl (Or.inl ⟨by rfl, ?_⟩) ?_
          rotate_left
          · (intro W hW; go_simp; try with_reducible rfl)
          simp only [Act.put, List.setIfInBounds_toArray, List.getElem_toArray, List.getElem_cons_zero, List.getElem_cons_succ, List.set_cons_succ, List.set_cons_zero])
        refine plan_done ?_
        go_wp2_with fail
        go_ret
        exact ⟨rfl, H4.out.1⟩
      · have q2 : decide (v ≥ g.n) = true := decide_eq_true (by omega)
        have HD : Hid (recB g v = false) := Lib.hid (by unfold recB; rw [show nodeB g.n v = false by rw [Bool.eq_false_iff]; intro h9; exact h1 (nodeB_iff.1 h9).2]; simp)
        clear hc h0 h1
        go_wp2_with fail
        go_ret
        exact ⟨by rw [HD.out]; rfl, H1.out.2.1⟩
    · have q1 : decide (v < 0) = true := decide_eq_true (by omega)
      have HD : Hid (recB g v = false) := Lib.hid (by unfold recB; rw [show nodeB g.n v = false by rw [Bool.eq_false_iff]; intro h9; exact h0 (nodeB_iff.1 h9).1]; simp)
      clear hc h0
      go_wp2_with fail
      go_ret
      exact ⟨by rw [HD.out]; rfl, H1.out.2.1⟩
  · have q0 : (gCode g != 0) = true := by simpa using hc
    have HD : Hid (recB g v = false) := Lib.hid (by unfold recB; rw [decide_eq_false hc]; rfl)
    clear hc
    go_wp2_with fail
    go_ret
    exact ⟨by rw [HD.out]; rfl, H1.out.2.1⟩
end Go.Proofs.Ytchmjgjagaaomaa
