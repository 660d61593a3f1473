/- A row of the call's own whose elements take several cells, sorted by the library: what the shelf's words say of it. Of no program. -/
import Derived.Test.YtnklnklkblgnfaaGa
import Derived.Shelf.SlSortCmp.WholeK
namespace Go.Dfl
open Go.RowKit Go.Sort Go.Proofs
variable {α : Type} [Inhabited α] {E : El α}

theorem get!_any {γ : Type} {inst : Inhabited γ} (l : List γ) (i : Nat) (h : i < l.length) : l[i]! = l[i] := getElem!_pos l i h
theorem get!_toArray (l : List α) (i : Nat) (h : i < l.length) : l.toArray[i]! = nth l i := by
  rw [getElem!_pos _ i (by simpa using h), nth_eq _ _ h]; simp
theorem OwnE.holdsK {w : World} {base g cap n : Nat} {e : TypeId} {l : List α} (h : OwnE E w base e (.slice (some ⟨g, 0, none⟩) n cap) l) (hn : l.length = n) : HoldsK E.c E.sz w g 0 l.toArray := by
  subst hn
  intro j hj
  rw [size_flatK] at hj
  have hj' : j < l.length * E.sz := by simpa using hj
  have hi : j / E.sz < l.length := Nat.div_lt_of_lt_mul (by rw [Nat.mul_comm]; exact hj')
  have hr : j % E.sz < E.sz := Nat.mod_lt _ E.pos
  obtain ⟨a, c, he, -, -, h3⟩ := OwnE.sliced h
  simp only [Value.slice.injEq] at he
  obtain ⟨rfl, -, rfl⟩ := he
  obtain ⟨-, -, h4⟩ := h3 _ hi
  have h5 := h4 _ hr
  have e1 : blk (some (⟨g, 0, none⟩ : Addr)) = g := rfl
  have e2 : ofs (some (⟨g, 0, none⟩ : Addr)) = 0 := rfl
  rw [e1, e2, Nat.zero_add, show j / E.sz * E.sz + j % E.sz = j by rw [Nat.mul_comm]; exact Nat.div_add_mod j E.sz] at h5
  constructor
  · rw [Nat.zero_add, h5, get_flatK _ _ _ _ (by simpa using hj'), get!_toArray _ _ hi]
    have hlen : j % E.sz < (E.c (nth l (j / E.sz))).length := by rw [E.len]; exact hr
    show some ((E.c (nth l (j / E.sz)))[j % E.sz]?.getD undef) = _
    rw [List.getElem?_eq_getElem hlen, get!_any (E.c (nth l (j / E.sz))) (j % E.sz) hlen]; rfl
  · obtain ⟨h1, ⟨h2, -⟩ | ⟨g2, cap2, cur, hv, hg, hh, -⟩⟩ := h
    · simp at h2
    · simp only [Value.slice.injEq, Option.some.injEq, Addr.mk.injEq] at hv
      obtain ⟨⟨rfl, -⟩, -, rfl⟩ := hv
      simp [World.frozen?, hh]
theorem sortWorldK_heap (E : El α) (w : World) (g m : Nat) (d : Array α) (os : Array Obj) : ∃ f : Array Value → Array Value, (sortWorldK E.c E.sz w g 0 m d os).heap = (w.heap.modify g (onCells f)) ++ os ∧ ∀ c, (f c).size = c.size := ⟨_, rfl, fun c => by simp [putCells]⟩
theorem OwnE.sortK {w : World} {base g cap n : Nat} {e : TypeId} {l : List α} (h : OwnE E w base e (.slice (some ⟨g, 0, none⟩) n cap) l) (hn : l.length = n) (d : Array α) (hd : d.size = n) (m : Nat) (os : Array Obj) :
    OwnE E (sortWorldK E.c E.sz w g 0 m d os) base e (.slice (some ⟨g, 0, none⟩) n cap) d.toList ∧ w.grownBy (sortWorldK E.c E.sz w g 0 m d os) (some g) := by
  subst hn
  have hH := OwnE.holdsK h rfl
  obtain ⟨h1, ⟨h2, -⟩ | ⟨g2, cap2, cur, hv, hg, hh, hc, hm, hs, ht⟩⟩ := h
  · simp at h2
  · simp only [Value.slice.injEq, Option.some.injEq, Addr.mk.injEq] at hv
    obtain ⟨⟨rfl, -⟩, -, rfl⟩ := hv
    have hlt := (Array.getElem?_eq_some_iff.1 hh).1
    obtain ⟨f, hf, hfs⟩ := sortWorldK_heap E w g m d os
    have hheap : ∀ k, k < w.heap.size → (sortWorldK E.c E.sz w g 0 m d os).heap[k]? = if k = g then some (.cells (f cur) e (0, 0)) else w.heap[k]? := fun k hk => by
      rw [hf, Array.getElem?_append_left (by simpa using hk), Array.getElem?_modify]
      by_cases e2 : g = k
      · subst e2
        rw [if_pos rfl, if_pos rfl, hh]; rfl
      · rw [if_neg e2, if_neg (fun e3 => e2 e3.symm)]
    have hdt : d.toList.length = l.length := by rw [Array.length_toList, hd]
    refine ⟨⟨by rw [flat_len], .inr ⟨g, cap, f cur, by rw [hdt], hg, by rw [hheap g hlt, if_pos rfl], by rw [hdt]; exact hc, hm, by rw [hfs, hs], ?_⟩⟩, ⟨rfl, rfl, rfl, ?_, fun k hk hne => ?_⟩⟩
    · rw [hdt]
      have hsz : l.length * E.sz ≤ cur.size := by rw [hs]; exact Nat.mul_le_mul_right _ hc
      have e9 : (putRowK E.c E.sz (Go.Sort.ahead w m) g 0 d).heap.size = w.heap.size := by unfold putRowK putRow mapBlock; simp
      have hH2 : HoldsK E.c E.sz (sortWorldK E.c E.sz w g 0 m d os) g 0 d := holdsK_grow _ _ _ _ _ _ _ (by rw [e9]; exact hlt) (holdsK_putRowK _ _ _ _ _ _ _ (holdsK_ahead _ _ _ _ _ _ _ hH) (by simpa using hd))
      refine List.ext_getElem? fun t => ?_
      by_cases htl : t < l.length * E.sz
      · have hi : t / E.sz < l.length := Nat.div_lt_of_lt_mul (by rw [Nat.mul_comm]; exact htl)
        have hr : t % E.sz < E.sz := Nat.mod_lt _ E.pos
        have htm : t / E.sz * E.sz + t % E.sz = t := by rw [Nat.mul_comm]; exact Nat.div_add_mod t E.sz
        have hdl : t / E.sz < d.toList.length := by rw [hdt]; exact hi
        have hlen : t % E.sz < (E.c (nth d.toList (t / E.sz))).length := by rw [E.len]; exact hr
        have hR := flat_get E d.toList (t / E.sz) (t % E.sz) hdl hr
        rw [htm] at hR
        rw [hR, List.getElem?_take, if_pos htl, List.getElem?_eq_getElem hlen]
        have hcell := (hH2.cell (i := t / E.sz) (c := t % E.sz) (by rw [hd]; exact hi) hr).1
        have hdx : d[t / E.sz]! = nth d.toList (t / E.sz) := by
          rw [getElem!_pos d _ (by rw [hd]; exact hi), nth_eq _ _ hdl]; simp
        rw [Nat.zero_add, htm, hdx, get!_any (E.c (nth d.toList (t / E.sz))) (t % E.sz) hlen] at hcell
        have hg2 := hheap g hlt
        rw [if_pos rfl] at hg2
        rw [← hcell]
        simp [World.cell?, hg2]
      · rw [List.getElem?_take, if_neg htl, List.getElem?_eq_none (by rw [flat_len, hdt]; omega)]
    · rw [hf]; simp
    · rw [hheap k hk, if_neg (fun e3 => hne (by rw [e3]))]
end Go.Dfl
