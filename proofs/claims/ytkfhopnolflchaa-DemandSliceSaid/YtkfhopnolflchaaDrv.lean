/- Contracts of Derive and of the reference's Short, Small, Few. -/
import Derived.Test.YtkfhopnolflchaaCls
namespace Go.Proofs.Ytkfhopnolflchaa
open Go.RowKit Go.Dfl Go.And

theorem sorted_ext : ∀ {L M : List Nat}, L.Pairwise (· < ·) → M.Pairwise (· < ·) → (∀ x, x ∈ L ↔ x ∈ M) → L = M
  | [], [], _, _, _ => rfl
  | [], y :: M, _, _, h => by have := (h y).2 (by simp); cases this
  | x :: L, [], _, _, h => by have := (h x).1 (by simp); cases this
  | x :: L, y :: M, hL, hM, h => by
    rw [List.pairwise_cons] at hL hM
    have hxy : x = y := by
      have h1 := (h x).1 (by simp)
      have h2 := (h y).2 (by simp)
      rcases List.mem_cons.1 h1 with e | e
      · exact e
      · rcases List.mem_cons.1 h2 with e2 | e2
        · exact e2.symm
        · have := hM.1 x e; have := hL.1 y e2; omega
    subst hxy
    rw [sorted_ext hL.2 hM.2 fun z => ?_]
    have := h z
    constructor
    · intro hz
      have hlt := hL.1 z hz
      rcases List.mem_cons.1 (this.1 (by simp [hz])) with e | e
      · omega
      · exact e
    · intro hz
      have hlt := hM.1 z hz
      rcases List.mem_cons.1 (this.2 (by simp [hz])) with e | e
      · omega
      · exact e
theorem IsSol.unique {S : Syst} {i : Nat} {l m : List Int} (h : IsSol S i l) (k : IsSol S i m) : l = m := by
  obtain ⟨L, rfl, h1, h2⟩ := h
  obtain ⟨M, rfl, k1, k2⟩ := k
  rw [sorted_ext h1 k1 fun x => by rw [h2, k2]]
theorem Sol.unique {S : Syst} {lu lv lu' lv' : List (List Int)} (h : Sol S lu lv) (k : Sol S lu' lv') : lu = lu' ∧ lv = lv' := by
  refine ⟨nth_ext (by rw [h.1, k.1]) fun i hi => (h.2.2.1 i (by rw [← h.1]; exact hi)).unique (k.2.2.1 i (by rw [← h.1]; exact hi)), nth_ext (by rw [h.2.1, k.2.1]) fun i hi => (h.2.2.2 i (by rw [← h.2.1]; exact hi)).unique (k.2.2.2 i (by rw [← h.2.1]; exact hi))⟩
theorem IsSol.mem {S : Syst} {i : Nat} {l : List Int} (h : IsSol S i l) (x : Int) : x ∈ l ↔ 0 ≤ x ∧ Pts S i x.toNat := by
  obtain ⟨L, rfl, -, h2⟩ := h
  constructor
  · intro hx
    obtain ⟨y, hy, rfl⟩ := List.mem_map.1 hx
    exact ⟨by omega, by simpa using (h2 y).1 hy⟩
  · rintro ⟨h0, hx⟩
    exact List.mem_map.2 ⟨x.toNat, (h2 _).2 hx, by omega⟩
theorem IsSol.small {S : Syst} {i : Nat} {l : List Int} (h : IsSol S i l) (hS : S.Ok) (hs : S.sites ≤ 12) : (∀ x ∈ l, 0 ≤ x ∧ x < S.sites) ∧ l.length ≤ 12 := by
  refine ⟨fun x hx => ?_, ?_⟩
  · obtain ⟨h0, hp⟩ := (h.mem x).1 hx
    have := (pts_bound hS hp).2
    omega
  · obtain ⟨L, rfl, h1, h2⟩ := h
    rw [List.length_map]
    have := sorted_len' h1 fun x hx => (pts_bound hS ((h2 x).1 hx)).2
    omega
theorem Sol.inR {S : Syst} {lu lv : List (List Int)} (h : Sol S lu lv) (hS : S.Ok) (hs : S.sites ≤ 12) : InR lu ∧ InR lv ∧ (∀ i, i < lu.length → (nth lu i).length ≤ 12) ∧ ∀ i, i < lv.length → (nth lv i).length ≤ 12 :=
  ⟨fun i hi x hx => by have := ((h.2.2.1 i (by rw [← h.1]; exact hi)).small hS hs).1 x hx; omega, fun i hi x hx => by have := ((h.2.2.2 i (by rw [← h.2.1]; exact hi)).small hS hs).1 x hx; omega,
    fun i hi => ((h.2.2.1 i (by rw [← h.1]; exact hi)).small hS hs).2, fun i hi => ((h.2.2.2 i (by rw [← h.2.1]; exact hi)).small hS hs).2⟩

/-- What Derive asks. -/
def DeriveP (s : Sy) (a1 a2 : List (List Int)) : Prop := ClosedP s a1 a2 ∧ ∃ lu lv, Sol s.S lu lv ∧ winB a1 lu = true ∧ winB a2 lv = true

theorem PtsIn.below {W W' : World} {u v : Value} {a b : List (List Int)} (h : PtsIn W u v a b) (hb : Below W.heap.size W W') : PtsIn W' u v a b := by
  obtain ⟨⟨us, h1⟩, vs, h2⟩ := h
  exact ⟨⟨us, h1.below hb⟩, vs, h2.below hb⟩
theorem PtsIn.shape {W : World} {u v : Value} {a b : List (List Int)} (h : PtsIn W u v a b) : ∃ ua uc va vc, u = .slice ua a.length uc ∧ v = .slice va b.length vc := by
  obtain ⟨⟨us, h1⟩, vs, h2⟩ := h
  obtain ⟨ua, uc, e1, -⟩ := h1.1.out1 sInt2
  obtain ⟨va, vc, e2, -⟩ := h2.1.out1 sInt2
  rw [h1.2.1] at e1
  rw [h2.2.1] at e2
  exact ⟨ua, uc, va, vc, e1, e2⟩

/-- A function that tells. -/
def Tell (P : Prop) (W : World) (e : Ending) (W' : World) : Prop := ∃ b, e = .returned (.bool b) ∧ (b = true ↔ P) ∧ Below W.heap.size W W'
/-- What Short asks. -/
def ShortP (s : Sy) : Prop := s.cons.length ≤ 100 ∧ ∀ i, i < s.cons.length → (nth s.cons i).s.length ≤ 40
def SmallP (s : Sy) : Prop := ShortP s ∧ s.vars ≤ 40 ∧ s.sites ≤ 12 ∧ s.fields ≤ 5
def FewP (a1 a2 : List (List Int)) : Prop := a1.length ≤ 50 ∧ a2.length ≤ 70 ∧ (∀ i, i < a1.length → (nth a1 i).length ≤ 40) ∧ ∀ i, i < a2.length → (nth a2 i).length ≤ 40
theorem SmallP.sm {s : Sy} (h : SmallP s) : Sm s := ⟨h.2.1, h.2.2.1, h.2.2.2, by have := h.1.1; omega⟩

set_option maxHeartbeats 1600000 in
theorem Short_any (s : Sy) (cv : Value) (W : World) (hc : ConsIn W cv s.cons) :
    Calls Try.prog 20 #[SysV s cv] W (Tell (ShortP s) W) := by
  obtain ⟨ca, cc, rfl, hlen, hci, hcc⟩ := hc.out
  have HC := Lib.hid hcc
  clear hcc hc
  unfold SysV
  by_cases h1 : 100 < s.cons.length
  · go_enter Try.func20, Try.ntmps20
    go_wp2_with fail
    go_ret
    exact ⟨false, rfl, ⟨fun h => absurd h Bool.false_ne_true, fun h => by have := h.1; omega⟩, (Below.refl _ _).alloc (Nat.le_refl _) _⟩
  · go_enter Try.func20, Try.ntmps20
    go_wp2_with fail
    refine wp_gen (fun Z => BoxS Z W.heap.size s (.slice ca s.cons.length cc) ∧ Below W.heap.size W Z) ⟨BoxS.new _ _ _ _, (Below.refl _ _).alloc (Nat.le_refl _) _⟩ ?_
    rintro W1 ⟨⟨d0, d1, d2, d3⟩, hb1⟩
    have H1 := Lib.hid hb1
    clear hb1
    go_loop [3] (fun x => ∃ k : Nat, k ≤ s.cons.length ∧ x = .int .i64 k ∧ Hid (∀ i, i < k → (nth s.cons i).s.length ≤ 40)) (fun x => s.cons.length - (intOf x).toNat)
    case atStart => exact ⟨0, by omega, rfl, fun i hi => by omega⟩
    case round =>
      obtain ⟨k, hk, rfl, hh⟩ := hrel
      by_cases hlt : k < s.cons.length
      · obtain ⟨sa, sn, sc, -, -, -, -, c4, hset, hbl⟩ := HC.out k hlt
        rw [← H1.out.cell (p := ⟨blk ca, ofs ca + k * 5 + 4, none⟩) hbl] at c4
        obtain ⟨sa2, sc2, he, -⟩ := hset.out1 sInt
        simp only [Value.slice.injEq] at he
        obtain ⟨rfl, rfl, rfl⟩ := he
        clear hset
        by_cases h2 : 40 < (nth s.cons k).s.length
        · go_wp2_with fail
          go_ret
          exact ⟨false, rfl, ⟨fun h => absurd h Bool.false_ne_true, fun h => by have := h.2 k hlt; omega⟩, H1.out⟩
        · go_wp2_with fail
          go_round
          case rel => exact ⟨k + 1, by omega, by go_num, fun i hi => by
            by_cases e : i = k
            · subst e; omega
            · exact hh.out i (by omega)⟩
          case measure => simp [intOf]; omega
      · go_wp2_with fail
        go_ret
        exact ⟨true, rfl, ⟨fun _ => ⟨by omega, fun i hi => hh.out i (by omega)⟩, fun _ => rfl⟩, H1.out⟩

set_option maxHeartbeats 1600000 in
theorem Small_any (s : Sy) (cv : Value) (W : World) (hc : ConsIn W cv s.cons) :
    Calls Try.prog 7 #[SysV s cv] W (Tell (SmallP s) W) := by
  obtain ⟨ca, cc, rfl, -⟩ := hc.out
  have hb0 : Below W.heap.size W _ := (Below.refl W.heap.size W).alloc (Nat.le_refl _) (.cells #[.int .i64 s.vars, .int .i64 s.sites, .int .i64 s.fields, .slice ca s.cons.length cc] 24)
  have hbs := BoxS.new W s (.slice ca s.cons.length cc) 24
  have HC := Lib.hid (And.intro hc (And.intro hb0 hbs))
  clear hc hb0 hbs
  unfold SysV
  go_enter Try.func7, Try.ntmps7
  go_wp2_with fail
  refine (Short_any s (.slice ca s.cons.length cc) _ (HC.out.1.below HC.out.2.1)).mono ?_
  rintro e W1 ⟨b, rfl, hb, q1⟩
  have H1 := Lib.hid (And.intro hb (HC.out.2.1.trans (q1.mono HC.out.2.1.size)))
  obtain ⟨d0, d1, d2, d3⟩ := HC.out.2.2.grown (grownBy_below q1) (by simp)
  clear hb q1
  cases b
  · go_wp2_with fail
    go_ret
    exact ⟨false, rfl, ⟨fun h => absurd h Bool.false_ne_true, fun h => absurd (H1.out.1.2 h.1) Bool.false_ne_true⟩, H1.out.2⟩
  · have hsh := H1.out.1.1 rfl
    have HS := Lib.hid hsh
    clear hsh
    by_cases h1 : s.vars ≤ 40
    · by_cases h2 : s.sites ≤ 12
      · by_cases h3 : s.fields ≤ 5
        · go_wp2_with fail
          go_ret
          exact ⟨true, by simp, ⟨fun _ => ⟨HS.out, h1, h2, h3⟩, fun _ => rfl⟩, H1.out.2⟩
        · go_wp2_with fail
          go_ret
          exact ⟨false, by simp; omega, ⟨fun h => absurd h Bool.false_ne_true, fun h => by have := h.2.2.2; omega⟩, H1.out.2⟩
      · go_wp2_with fail
        go_ret
        exact ⟨false, by first | rfl | (simp; omega), ⟨fun h => absurd h Bool.false_ne_true, fun h => by have := h.2.2.1; omega⟩, H1.out.2⟩
    · go_wp2_with fail
      go_ret
      exact ⟨false, by first | rfl | (simp; omega), ⟨fun h => absurd h Bool.false_ne_true, fun h => by have := h.2.1; omega⟩, H1.out.2⟩

end Go.Proofs.Ytkfhopnolflchaa
