/- Plain: the merge by which the reference sorts. -/
import Derived.Test.YtjapnkhgijhakaaGrp
namespace Go.Gra
/-- The merge of two sorted lists, each edge once. -/
def mrg : List (Int × Int) → List (Int × Int) → List (Int × Int)
  | [], b => b
  | x :: a, [] => x :: a
  | x :: a, y :: b => if eLt x y then x :: mrg a (y :: b) else if eLt y x then y :: mrg (x :: a) b else mrg a (y :: b)
termination_by a b => a.length + b.length
theorem mem_mrg : ∀ (a b : List (Int × Int)) (e : Int × Int), e ∈ mrg a b ↔ e ∈ a ∨ e ∈ b
  | [], b, e => by rw [mrg]; simp
  | x :: a, [], e => by rw [mrg]; simp
  | x :: a, y :: b, e => by
    rw [mrg]
    split
    · rw [List.mem_cons, mem_mrg a (y :: b)]; simp only [List.mem_cons, or_assoc]
    · rename_i h1
      split
      · rw [List.mem_cons, mem_mrg (x :: a) b]; simp only [List.mem_cons]
        constructor
        · rintro (h | (h | h) | h)
          · exact .inr (.inl h)
          · exact .inl (.inl h)
          · exact .inl (.inr h)
          · exact .inr (.inr h)
        · rintro ((h | h) | h | h)
          · exact .inr (.inl (.inl h))
          · exact .inr (.inl (.inr h))
          · exact .inl h
          · exact .inr (.inr h)
      · rename_i h2
        have hxy := eLt_total h1 h2
        subst hxy
        rw [mem_mrg a (x :: b)]; simp only [List.mem_cons]
        constructor
        · rintro (h | h | h)
          · exact .inl (.inr h)
          · exact .inl (.inl h)
          · exact .inr (.inr h)
        · rintro ((h | h) | h | h)
          · exact .inr (.inl h)
          · exact .inl h
          · exact .inr (.inl h)
          · exact .inr (.inr h)
termination_by a b => a.length + b.length
theorem mrg_sorted : ∀ (a b : List (Int × Int)), a.Pairwise eLt → b.Pairwise eLt → (mrg a b).Pairwise eLt
  | [], b, _, hb => by rw [mrg]; exact hb
  | x :: a, [], ha, _ => by rw [mrg]; exact ha
  | x :: a, y :: b, ha, hb => by
    rw [mrg]
    rw [List.pairwise_cons] at ha hb
    split
    · rename_i h1
      refine List.pairwise_cons.2 ⟨fun e he => ?_, mrg_sorted a (y :: b) ha.2 (List.pairwise_cons.2 hb)⟩
      rcases (mem_mrg _ _ _).1 he with h | h
      · exact ha.1 e h
      · rcases List.mem_cons.1 h with rfl | h
        · exact h1
        · exact eLt_trans h1 (hb.1 e h)
    · split
      · rename_i h2
        refine List.pairwise_cons.2 ⟨fun e he => ?_, mrg_sorted (x :: a) b (List.pairwise_cons.2 ha) hb.2⟩
        rcases (mem_mrg _ _ _).1 he with h | h
        · rcases List.mem_cons.1 h with rfl | h
          · exact h2
          · exact eLt_trans h2 (ha.1 e h)
        · exact hb.1 e h
      · exact mrg_sorted a (y :: b) ha.2 (List.pairwise_cons.2 hb)
termination_by a b => a.length + b.length
/-- Sorting by halves. -/
theorem sortOf_mrg {l l1 l2 r1 r2 : List (Int × Int)} (hl : l = l1 ++ l2) (h1 : SortOf l1 r1) (h2 : SortOf l2 r2) : SortOf l (mrg r1 r2) :=
  ⟨mrg_sorted _ _ h1.srt h2.srt, fun e => by rw [mem_mrg, h1.mem, h2.mem, hl, List.mem_append]⟩
end Go.Gra
