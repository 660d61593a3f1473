/- ObserveRuns: in every execution, the sites fit the types of variables and fields, and every call edge is one that the hierarchy allows. -/
import Derived.Shelf.SlSortCmp.WholeK
import Derived.Shelf.SlSortCmp.NoneTotal
import Derived.Test.YtnklnklkblgnfaaGreatProg
import Derived.JoinedCond
import Derived.Test.YtnklnklkblgnfaaGreatVrd
section
namespace Go.Dfl
open Go.RowKit Go.Sort Go.Proofs
variable {α : Type} [Inhabited α] {E : El α}
theorem get!_any {γ : Type} {inst : Inhabited γ} (l : List γ) (i : Nat) (h : i < l.length) : l[i]! = l[i] := getElem!_pos l i h
theorem get!_toArray (l : List α) (i : Nat) (h : i < l.length) : l.toArray[i]! = nth l i := by
 rw [getElem!_pos _ i (by simpa using h), nth_eq _ _ h]; simp
theorem OwnE.holdsK {w : World} {base g cap n : Nat} {e : TypeId} {l : List α} (h : OwnE E w base e (.slice (some ⟨g, 0, none⟩) n cap) l) (hn : l.length = n) : HoldsK E.c E.sz w g 0 l.toArray := by
 subst hn
 intro j hj
 rw [size_flatK] at hj
 have hj' : j < l.length * E.sz := by simpa using hj
 have hi : j / E.sz < l.length := Nat.div_lt_of_lt_mul (by rw [Nat.mul_comm]; exact hj')
 have hr : j % E.sz < E.sz := Nat.mod_lt _ E.pos
 obtain ⟨a, c, he, -, -, h3⟩ := OwnE.sliced h
 simp only [Value.slice.injEq] at he
 obtain ⟨rfl, -, rfl⟩ := he
 obtain ⟨-, -, h4⟩ := h3 _ hi
 have h5 := h4 _ hr
 have e1 : blk (some (⟨g, 0, none⟩ : Addr)) = g := rfl
 have e2 : ofs (some (⟨g, 0, none⟩ : Addr)) = 0 := rfl
 rw [e1, e2, Nat.zero_add, show j / E.sz * E.sz + j % E.sz = j by rw [Nat.mul_comm]; exact Nat.div_add_mod j E.sz] at h5
 constructor
 ·rw [Nat.zero_add, h5, get_flatK _ _ _ _ (by simpa using hj'), get!_toArray _ _ hi]
  have hlen : j % E.sz < (E.c (nth l (j / E.sz))).length := by rw [E.len]; exact hr
  show some ((E.c (nth l (j / E.sz)))[j % E.sz]?.getD undef) = _
  rw [List.getElem?_eq_getElem hlen, get!_any (E.c (nth l (j / E.sz))) (j % E.sz) hlen]; rfl
 ·obtain ⟨h1, ⟨h2, -⟩ | ⟨g2, cap2, cur, hv, hg, hh, -⟩⟩ := h
  ·simp at h2
  ·simp only [Value.slice.injEq, Option.some.injEq, Addr.mk.injEq] at hv
   obtain ⟨⟨rfl, -⟩, -, rfl⟩ := hv
   simp [World.frozen?, hh]
theorem sortWorldK_heap (E : El α) (w : World) (g m : Nat) (d : Array α) (os : Array Obj) : ∃ f : Array Value → Array Value, (sortWorldK E.c E.sz w g 0 m d os).heap = (w.heap.modify g (onCells f)) ++ os ∧ ∀ c, (f c).size = c.size := ⟨_, rfl, fun c => by simp [putCells]⟩
theorem OwnE.sortK {w : World} {base g cap n : Nat} {e : TypeId} {l : List α} (h : OwnE E w base e (.slice (some ⟨g, 0, none⟩) n cap) l) (hn : l.length = n) (d : Array α) (hd : d.size = n) (m : Nat) (os : Array Obj) :
  OwnE E (sortWorldK E.c E.sz w g 0 m d os) base e (.slice (some ⟨g, 0, none⟩) n cap) d.toList ∧ w.grownBy (sortWorldK E.c E.sz w g 0 m d os) (some g) := by
 subst hn
 have hH := OwnE.holdsK h rfl
 obtain ⟨h1, ⟨h2, -⟩ | ⟨g2, cap2, cur, hv, hg, hh, hc, hm, hs, ht⟩⟩ := h
 ·simp at h2
 ·simp only [Value.slice.injEq, Option.some.injEq, Addr.mk.injEq] at hv
  obtain ⟨⟨rfl, -⟩, -, rfl⟩ := hv
  have hlt := (Array.getElem?_eq_some_iff.1 hh).1
  obtain ⟨f, hf, hfs⟩ := sortWorldK_heap E w g m d os
  have hheap : ∀ k, k < w.heap.size → (sortWorldK E.c E.sz w g 0 m d os).heap[k]? = if k = g then some (.cells (f cur) e (0, 0)) else w.heap[k]? := fun k hk => by
   rw [hf, Array.getElem?_append_left (by simpa using hk), Array.getElem?_modify]
   by_cases e2 : g = k
   ·subst e2
    rw [if_pos rfl, if_pos rfl, hh]; rfl
   ·rw [if_neg e2, if_neg (fun e3 => e2 e3.symm)]
  have hdt : d.toList.length = l.length := by rw [Array.length_toList, hd]
  refine ⟨⟨by rw [flat_len], .inr ⟨g, cap, f cur, by rw [hdt], hg, by rw [hheap g hlt, if_pos rfl], by rw [hdt]; exact hc, hm, by rw [hfs, hs], ?_⟩⟩, ⟨rfl, rfl, rfl, ?_, fun k hk hne => ?_⟩⟩
  ·rw [hdt]
   have hsz : l.length * E.sz ≤ cur.size := by rw [hs]; exact Nat.mul_le_mul_right _ hc
   have e9 : (putRowK E.c E.sz (Go.Sort.ahead w m) g 0 d).heap.size = w.heap.size := by unfold putRowK putRow mapBlock; simp
   have hH2 : HoldsK E.c E.sz (sortWorldK E.c E.sz w g 0 m d os) g 0 d := holdsK_grow _ _ _ _ _ _ _ (by rw [e9]; exact hlt) (holdsK_putRowK _ _ _ _ _ _ _ (holdsK_ahead _ _ _ _ _ _ _ hH) (by simpa using hd))
   refine List.ext_getElem? fun t => ?_
   by_cases htl : t < l.length * E.sz
   ·have hi : t / E.sz < l.length := Nat.div_lt_of_lt_mul (by rw [Nat.mul_comm]; exact htl)
    have hr : t % E.sz < E.sz := Nat.mod_lt _ E.pos
    have htm : t / E.sz * E.sz + t % E.sz = t := by rw [Nat.mul_comm]; exact Nat.div_add_mod t E.sz
    have hdl : t / E.sz < d.toList.length := by rw [hdt]; exact hi
    have hlen : t % E.sz < (E.c (nth d.toList (t / E.sz))).length := by rw [E.len]; exact hr
    have hR := flat_get E d.toList (t / E.sz) (t % E.sz) hdl hr
    rw [htm] at hR
    rw [hR, List.getElem?_take, if_pos htl, List.getElem?_eq_getElem hlen]
    have hcell := (hH2.cell (i := t / E.sz) (c := t % E.sz) (by rw [hd]; exact hi) hr).1
    have hdx : d[t / E.sz]! = nth d.toList (t / E.sz) := by
     rw [getElem!_pos d _ (by rw [hd]; exact hi), nth_eq _ _ hdl]; simp
    rw [Nat.zero_add, htm, hdx, get!_any (E.c (nth d.toList (t / E.sz))) (t % E.sz) hlen] at hcell
    have hg2 := hheap g hlt
    rw [if_pos rfl] at hg2
    rw [← hcell]
    simp [World.cell?, hg2]
   ·rw [List.getElem?_take, if_neg htl, List.getElem?_eq_none (by rw [flat_len, hdt]; omega)]
  ·rw [hf]; simp
  ·rw [hheap k hk, if_neg (fun e3 => hne (by rw [e3]))]
end Go.Dfl
end
section
namespace Go.Proofs.YtnklnklkblgnfaaGreat
open Go.Shelf
def sortP_ren : Go.Shelf.Ren := ⟨fun | 6 => 46 | 15 => 68 | 14 => 67 | 28 => 84 | 29 => 85 | 20 => 76 | 21 => 77 | 22 => 78 | 23 => 79 | 24 => 80 | 25 => 81 | 26 => 82 | 27 => 83 | 46 => 119 | 47 => 120 | 48 => 121 | 49 => 122 | 50 => 123 | 57 => 145 | n => n, fun | 22 => 38 | 24 => 41 | 25 => 92 | 3 => 3 | 39 => 153 | 0 => 0 | 53 => 170 | 55 => 172 | 4 => 4 | 46 => 163 | 45 => 162 | 50 => 167 | 5 => 5 | 9 => 9 | 66 => 195 | 70 => 199 | 76 => 211 | 77 => 212 | n => n, fun | n => n⟩
theorem sortP : Go.Proofs.SlLaysF0.n6 Tryz.prog sortP_ren := {
 mixed := by kernel_rfl
 f6 := ⟨Tryz.f46.name, by decide, Tryz.func46.trans (congrArg some (by kernel_rfl))⟩
 f14 := ⟨Tryz.f67.name, by decide, Tryz.func67.trans (congrArg some (by kernel_rfl))⟩
 f15 := Tryz.func68.trans (congrArg some (by kernel_rfl))
 f20 := ⟨Tryz.f76.name, by decide, Tryz.func76.trans (congrArg some (by kernel_rfl))⟩
 f21 := ⟨Tryz.f77.name, by decide, Tryz.func77.trans (congrArg some (by kernel_rfl))⟩
 f22 := ⟨Tryz.f78.name, by decide, Tryz.func78.trans (congrArg some (by kernel_rfl))⟩
 f23 := ⟨Tryz.f79.name, by decide, Tryz.func79.trans (congrArg some (by kernel_rfl))⟩
 f24 := ⟨Tryz.f80.name, by decide, Tryz.func80.trans (congrArg some (by kernel_rfl))⟩
 f25 := ⟨Tryz.f81.name, by decide, Tryz.func81.trans (congrArg some (by kernel_rfl))⟩
 f26 := ⟨Tryz.f82.name, by decide, Tryz.func82.trans (congrArg some (by kernel_rfl))⟩
 f27 := ⟨Tryz.f83.name, by decide, Tryz.func83.trans (congrArg some (by kernel_rfl))⟩
 f28 := Tryz.func84.trans (congrArg some (by kernel_rfl))
 f29 := Tryz.func85.trans (congrArg some (by kernel_rfl))
 f46 := ⟨Tryz.f119.name, by decide, Tryz.func119.trans (congrArg some (by kernel_rfl))⟩
 f47 := Tryz.func120.trans (congrArg some (by kernel_rfl))
 f48 := Tryz.func121.trans (congrArg some (by kernel_rfl))
 f49 := ⟨Tryz.f122.name, by decide, Tryz.func122.trans (congrArg some (by kernel_rfl))⟩
 f50 := ⟨Tryz.f123.name, by decide, Tryz.func123.trans (congrArg some (by kernel_rfl))⟩
 f57 := ⟨Tryz.f145.name, by decide, Tryz.func145.trans (congrArg some (by kernel_rfl))⟩
 t0 := Tryz.underlying0
 a0 := Tryz.isAgg0
 z0 := Tryz.sizeOf0
 v0 := Tryz.zeroValue0
 t3 := Tryz.underlying3
 a3 := Tryz.isAgg3
 z3 := Tryz.sizeOf3
 v3 := Tryz.zeroValue3
 t4 := Tryz.underlying4
 a4 := Tryz.isAgg4
 z4 := Tryz.sizeOf4
 v4 := Tryz.zeroValue4
 t5 := Tryz.underlying5
 a5 := Tryz.isAgg5
 z5 := Tryz.sizeOf5
 v5 := Tryz.zeroValue5
 t9 := Tryz.underlying9
 a9 := Tryz.isAgg9
 z9 := Tryz.sizeOf9
 v9 := Tryz.zeroValue9
 t22 := Tryz.underlying38
 a22 := Tryz.isAgg38
 z22 := Tryz.sizeOf38
 v22 := Tryz.zeroValue38
 t25 := Tryz.underlying92
 a25 := Tryz.isAgg92
 z25 := Tryz.sizeOf92
 v25 := Tryz.zeroValue92
 t39 := Tryz.underlying153
 a39 := Tryz.isAgg153
 z39 := Tryz.sizeOf153
 v39 := Tryz.zeroValue153
 t45 := Tryz.underlying162
 a45 := Tryz.isAgg162
 z45 := Tryz.sizeOf162
 v45 := Tryz.zeroValue162
 t46 := Tryz.underlying163
 a46 := Tryz.isAgg163
 z46 := Tryz.sizeOf163
 v46 := Tryz.zeroValue163
 t50 := Tryz.underlying167
 a50 := Tryz.isAgg167
 z50 := Tryz.sizeOf167
 v50 := Tryz.zeroValue167
 t53 := Tryz.underlying170
 a53 := Tryz.isAgg170
 z53 := Tryz.sizeOf170
 v53 := Tryz.zeroValue170
 t55 := Tryz.underlying172
 a55 := Tryz.isAgg172
 z55 := Tryz.sizeOf172
 v55 := Tryz.zeroValue172
 t66 := Tryz.underlying195
 a66 := Tryz.isAgg195
 z66 := Tryz.sizeOf195
 v66 := Tryz.zeroValue195
 t70 := Tryz.underlying199
 a70 := Tryz.isAgg199
 z70 := Tryz.sizeOf199
 v70 := Tryz.zeroValue199
 t76 := Tryz.underlying211
 a76 := Tryz.isAgg211
 z76 := Tryz.sizeOf211
 v76 := Tryz.zeroValue211
 t77 := Tryz.underlying212
 a77 := Tryz.isAgg212
 z77 := Tryz.sizeOf212
 v77 := Tryz.zeroValue212 }
def sortN_ren : Go.Shelf.Ren := ⟨fun | 6 => 65 | 15 => 68 | 14 => 75 | 28 => 84 | 29 => 85 | 20 => 111 | 21 => 112 | 22 => 113 | 23 => 114 | 24 => 115 | 25 => 116 | 26 => 117 | 27 => 118 | 46 => 142 | 47 => 120 | 48 => 121 | 49 => 143 | 50 => 144 | 57 => 153 | n => n, fun | 22 => 81 | 24 => 84 | 25 => 122 | 3 => 3 | 39 => 153 | 0 => 0 | 53 => 170 | 55 => 172 | 4 => 4 | 46 => 163 | 45 => 162 | 50 => 167 | 5 => 5 | 9 => 9 | 66 => 195 | 70 => 199 | 76 => 211 | 77 => 212 | n => n, fun | n => n⟩
theorem sortN : Go.Proofs.SlLaysF0.n6 Tryz.prog sortN_ren := {
 mixed := by kernel_rfl
 f6 := ⟨Tryz.f65.name, by decide, Tryz.func65.trans (congrArg some (by kernel_rfl))⟩
 f14 := ⟨Tryz.f75.name, by decide, Tryz.func75.trans (congrArg some (by kernel_rfl))⟩
 f15 := Tryz.func68.trans (congrArg some (by kernel_rfl))
 f20 := ⟨Tryz.f111.name, by decide, Tryz.func111.trans (congrArg some (by kernel_rfl))⟩
 f21 := ⟨Tryz.f112.name, by decide, Tryz.func112.trans (congrArg some (by kernel_rfl))⟩
 f22 := ⟨Tryz.f113.name, by decide, Tryz.func113.trans (congrArg some (by kernel_rfl))⟩
 f23 := ⟨Tryz.f114.name, by decide, Tryz.func114.trans (congrArg some (by kernel_rfl))⟩
 f24 := ⟨Tryz.f115.name, by decide, Tryz.func115.trans (congrArg some (by kernel_rfl))⟩
 f25 := ⟨Tryz.f116.name, by decide, Tryz.func116.trans (congrArg some (by kernel_rfl))⟩
 f26 := ⟨Tryz.f117.name, by decide, Tryz.func117.trans (congrArg some (by kernel_rfl))⟩
 f27 := ⟨Tryz.f118.name, by decide, Tryz.func118.trans (congrArg some (by kernel_rfl))⟩
 f28 := Tryz.func84.trans (congrArg some (by kernel_rfl))
 f29 := Tryz.func85.trans (congrArg some (by kernel_rfl))
 f46 := ⟨Tryz.f142.name, by decide, Tryz.func142.trans (congrArg some (by kernel_rfl))⟩
 f47 := Tryz.func120.trans (congrArg some (by kernel_rfl))
 f48 := Tryz.func121.trans (congrArg some (by kernel_rfl))
 f49 := ⟨Tryz.f143.name, by decide, Tryz.func143.trans (congrArg some (by kernel_rfl))⟩
 f50 := ⟨Tryz.f144.name, by decide, Tryz.func144.trans (congrArg some (by kernel_rfl))⟩
 f57 := ⟨Tryz.f153.name, by decide, Tryz.func153.trans (congrArg some (by kernel_rfl))⟩
 t0 := Tryz.underlying0
 a0 := Tryz.isAgg0
 z0 := Tryz.sizeOf0
 v0 := Tryz.zeroValue0
 t3 := Tryz.underlying3
 a3 := Tryz.isAgg3
 z3 := Tryz.sizeOf3
 v3 := Tryz.zeroValue3
 t4 := Tryz.underlying4
 a4 := Tryz.isAgg4
 z4 := Tryz.sizeOf4
 v4 := Tryz.zeroValue4
 t5 := Tryz.underlying5
 a5 := Tryz.isAgg5
 z5 := Tryz.sizeOf5
 v5 := Tryz.zeroValue5
 t9 := Tryz.underlying9
 a9 := Tryz.isAgg9
 z9 := Tryz.sizeOf9
 v9 := Tryz.zeroValue9
 t22 := Tryz.underlying81
 a22 := Tryz.isAgg81
 z22 := Tryz.sizeOf81
 v22 := Tryz.zeroValue81
 t25 := Tryz.underlying122
 a25 := Tryz.isAgg122
 z25 := Tryz.sizeOf122
 v25 := Tryz.zeroValue122
 t39 := Tryz.underlying153
 a39 := Tryz.isAgg153
 z39 := Tryz.sizeOf153
 v39 := Tryz.zeroValue153
 t45 := Tryz.underlying162
 a45 := Tryz.isAgg162
 z45 := Tryz.sizeOf162
 v45 := Tryz.zeroValue162
 t46 := Tryz.underlying163
 a46 := Tryz.isAgg163
 z46 := Tryz.sizeOf163
 v46 := Tryz.zeroValue163
 t50 := Tryz.underlying167
 a50 := Tryz.isAgg167
 z50 := Tryz.sizeOf167
 v50 := Tryz.zeroValue167
 t53 := Tryz.underlying170
 a53 := Tryz.isAgg170
 z53 := Tryz.sizeOf170
 v53 := Tryz.zeroValue170
 t55 := Tryz.underlying172
 a55 := Tryz.isAgg172
 z55 := Tryz.sizeOf172
 v55 := Tryz.zeroValue172
 t66 := Tryz.underlying195
 a66 := Tryz.isAgg195
 z66 := Tryz.sizeOf195
 v66 := Tryz.zeroValue195
 t70 := Tryz.underlying199
 a70 := Tryz.isAgg199
 z70 := Tryz.sizeOf199
 v70 := Tryz.zeroValue199
 t76 := Tryz.underlying211
 a76 := Tryz.isAgg211
 z76 := Tryz.sizeOf211
 v76 := Tryz.zeroValue211
 t77 := Tryz.underlying212
 a77 := Tryz.isAgg212
 z77 := Tryz.sizeOf212
 v77 := Tryz.zeroValue212 }
def sortF_ren : Go.Shelf.Ren := ⟨fun | 6 => 49 | 15 => 68 | 14 => 69 | 28 => 84 | 29 => 85 | 20 => 86 | 21 => 87 | 22 => 88 | 23 => 89 | 24 => 90 | 25 => 91 | 26 => 92 | 27 => 93 | 46 => 124 | 47 => 120 | 48 => 121 | 49 => 125 | 50 => 126 | 57 => 146 | n => n, fun | 22 => 51 | 24 => 54 | 25 => 102 | 3 => 3 | 39 => 153 | 0 => 0 | 53 => 170 | 55 => 172 | 4 => 4 | 46 => 163 | 45 => 162 | 50 => 167 | 5 => 5 | 9 => 9 | 66 => 195 | 70 => 199 | 76 => 211 | 77 => 212 | n => n, fun | n => n⟩
theorem sortF : Go.Proofs.SlLaysF0.n6 Tryz.prog sortF_ren := {
 mixed := by kernel_rfl
 f6 := ⟨Tryz.f49.name, by decide, Tryz.func49.trans (congrArg some (by kernel_rfl))⟩
 f14 := ⟨Tryz.f69.name, by decide, Tryz.func69.trans (congrArg some (by kernel_rfl))⟩
 f15 := Tryz.func68.trans (congrArg some (by kernel_rfl))
 f20 := ⟨Tryz.f86.name, by decide, Tryz.func86.trans (congrArg some (by kernel_rfl))⟩
 f21 := ⟨Tryz.f87.name, by decide, Tryz.func87.trans (congrArg some (by kernel_rfl))⟩
 f22 := ⟨Tryz.f88.name, by decide, Tryz.func88.trans (congrArg some (by kernel_rfl))⟩
 f23 := ⟨Tryz.f89.name, by decide, Tryz.func89.trans (congrArg some (by kernel_rfl))⟩
 f24 := ⟨Tryz.f90.name, by decide, Tryz.func90.trans (congrArg some (by kernel_rfl))⟩
 f25 := ⟨Tryz.f91.name, by decide, Tryz.func91.trans (congrArg some (by kernel_rfl))⟩
 f26 := ⟨Tryz.f92.name, by decide, Tryz.func92.trans (congrArg some (by kernel_rfl))⟩
 f27 := ⟨Tryz.f93.name, by decide, Tryz.func93.trans (congrArg some (by kernel_rfl))⟩
 f28 := Tryz.func84.trans (congrArg some (by kernel_rfl))
 f29 := Tryz.func85.trans (congrArg some (by kernel_rfl))
 f46 := ⟨Tryz.f124.name, by decide, Tryz.func124.trans (congrArg some (by kernel_rfl))⟩
 f47 := Tryz.func120.trans (congrArg some (by kernel_rfl))
 f48 := Tryz.func121.trans (congrArg some (by kernel_rfl))
 f49 := ⟨Tryz.f125.name, by decide, Tryz.func125.trans (congrArg some (by kernel_rfl))⟩
 f50 := ⟨Tryz.f126.name, by decide, Tryz.func126.trans (congrArg some (by kernel_rfl))⟩
 f57 := ⟨Tryz.f146.name, by decide, Tryz.func146.trans (congrArg some (by kernel_rfl))⟩
 t0 := Tryz.underlying0
 a0 := Tryz.isAgg0
 z0 := Tryz.sizeOf0
 v0 := Tryz.zeroValue0
 t3 := Tryz.underlying3
 a3 := Tryz.isAgg3
 z3 := Tryz.sizeOf3
 v3 := Tryz.zeroValue3
 t4 := Tryz.underlying4
 a4 := Tryz.isAgg4
 z4 := Tryz.sizeOf4
 v4 := Tryz.zeroValue4
 t5 := Tryz.underlying5
 a5 := Tryz.isAgg5
 z5 := Tryz.sizeOf5
 v5 := Tryz.zeroValue5
 t9 := Tryz.underlying9
 a9 := Tryz.isAgg9
 z9 := Tryz.sizeOf9
 v9 := Tryz.zeroValue9
 t22 := Tryz.underlying51
 a22 := Tryz.isAgg51
 z22 := Tryz.sizeOf51
 v22 := Tryz.zeroValue51
 t25 := Tryz.underlying102
 a25 := Tryz.isAgg102
 z25 := Tryz.sizeOf102
 v25 := Tryz.zeroValue102
 t39 := Tryz.underlying153
 a39 := Tryz.isAgg153
 z39 := Tryz.sizeOf153
 v39 := Tryz.zeroValue153
 t45 := Tryz.underlying162
 a45 := Tryz.isAgg162
 z45 := Tryz.sizeOf162
 v45 := Tryz.zeroValue162
 t46 := Tryz.underlying163
 a46 := Tryz.isAgg163
 z46 := Tryz.sizeOf163
 v46 := Tryz.zeroValue163
 t50 := Tryz.underlying167
 a50 := Tryz.isAgg167
 z50 := Tryz.sizeOf167
 v50 := Tryz.zeroValue167
 t53 := Tryz.underlying170
 a53 := Tryz.isAgg170
 z53 := Tryz.sizeOf170
 v53 := Tryz.zeroValue170
 t55 := Tryz.underlying172
 a55 := Tryz.isAgg172
 z55 := Tryz.sizeOf172
 v55 := Tryz.zeroValue172
 t66 := Tryz.underlying195
 a66 := Tryz.isAgg195
 z66 := Tryz.sizeOf195
 v66 := Tryz.zeroValue195
 t70 := Tryz.underlying199
 a70 := Tryz.isAgg199
 z70 := Tryz.sizeOf199
 v70 := Tryz.zeroValue199
 t76 := Tryz.underlying211
 a76 := Tryz.isAgg211
 z76 := Tryz.sizeOf211
 v76 := Tryz.zeroValue211
 t77 := Tryz.underlying212
 a77 := Tryz.isAgg212
 z77 := Tryz.sizeOf212
 v77 := Tryz.zeroValue212 }
def sortC_ren : Go.Shelf.Ren := ⟨fun | 6 => 51 | 15 => 68 | 14 => 70 | 28 => 84 | 29 => 85 | 20 => 94 | 21 => 95 | 22 => 96 | 23 => 97 | 24 => 98 | 25 => 99 | 26 => 100 | 27 => 101 | 46 => 127 | 47 => 120 | 48 => 121 | 49 => 128 | 50 => 129 | 57 => 147 | n => n, fun | 22 => 57 | 24 => 61 | 25 => 109 | 3 => 3 | 39 => 153 | 0 => 0 | 53 => 170 | 55 => 172 | 4 => 4 | 46 => 163 | 45 => 162 | 50 => 167 | 5 => 5 | 9 => 9 | 66 => 195 | 70 => 199 | 76 => 211 | 77 => 212 | n => n, fun | n => n⟩
theorem sortC : Go.Proofs.SlLaysF0.n6 Tryz.prog sortC_ren := {
 mixed := by kernel_rfl
 f6 := ⟨Tryz.f51.name, by decide, Tryz.func51.trans (congrArg some (by kernel_rfl))⟩
 f14 := ⟨Tryz.f70.name, by decide, Tryz.func70.trans (congrArg some (by kernel_rfl))⟩
 f15 := Tryz.func68.trans (congrArg some (by kernel_rfl))
 f20 := ⟨Tryz.f94.name, by decide, Tryz.func94.trans (congrArg some (by kernel_rfl))⟩
 f21 := ⟨Tryz.f95.name, by decide, Tryz.func95.trans (congrArg some (by kernel_rfl))⟩
 f22 := ⟨Tryz.f96.name, by decide, Tryz.func96.trans (congrArg some (by kernel_rfl))⟩
 f23 := ⟨Tryz.f97.name, by decide, Tryz.func97.trans (congrArg some (by kernel_rfl))⟩
 f24 := ⟨Tryz.f98.name, by decide, Tryz.func98.trans (congrArg some (by kernel_rfl))⟩
 f25 := ⟨Tryz.f99.name, by decide, Tryz.func99.trans (congrArg some (by kernel_rfl))⟩
 f26 := ⟨Tryz.f100.name, by decide, Tryz.func100.trans (congrArg some (by kernel_rfl))⟩
 f27 := ⟨Tryz.f101.name, by decide, Tryz.func101.trans (congrArg some (by kernel_rfl))⟩
 f28 := Tryz.func84.trans (congrArg some (by kernel_rfl))
 f29 := Tryz.func85.trans (congrArg some (by kernel_rfl))
 f46 := ⟨Tryz.f127.name, by decide, Tryz.func127.trans (congrArg some (by kernel_rfl))⟩
 f47 := Tryz.func120.trans (congrArg some (by kernel_rfl))
 f48 := Tryz.func121.trans (congrArg some (by kernel_rfl))
 f49 := ⟨Tryz.f128.name, by decide, Tryz.func128.trans (congrArg some (by kernel_rfl))⟩
 f50 := ⟨Tryz.f129.name, by decide, Tryz.func129.trans (congrArg some (by kernel_rfl))⟩
 f57 := ⟨Tryz.f147.name, by decide, Tryz.func147.trans (congrArg some (by kernel_rfl))⟩
 t0 := Tryz.underlying0
 a0 := Tryz.isAgg0
 z0 := Tryz.sizeOf0
 v0 := Tryz.zeroValue0
 t3 := Tryz.underlying3
 a3 := Tryz.isAgg3
 z3 := Tryz.sizeOf3
 v3 := Tryz.zeroValue3
 t4 := Tryz.underlying4
 a4 := Tryz.isAgg4
 z4 := Tryz.sizeOf4
 v4 := Tryz.zeroValue4
 t5 := Tryz.underlying5
 a5 := Tryz.isAgg5
 z5 := Tryz.sizeOf5
 v5 := Tryz.zeroValue5
 t9 := Tryz.underlying9
 a9 := Tryz.isAgg9
 z9 := Tryz.sizeOf9
 v9 := Tryz.zeroValue9
 t22 := Tryz.underlying57
 a22 := Tryz.isAgg57
 z22 := Tryz.sizeOf57
 v22 := Tryz.zeroValue57
 t25 := Tryz.underlying109
 a25 := Tryz.isAgg109
 z25 := Tryz.sizeOf109
 v25 := Tryz.zeroValue109
 t39 := Tryz.underlying153
 a39 := Tryz.isAgg153
 z39 := Tryz.sizeOf153
 v39 := Tryz.zeroValue153
 t45 := Tryz.underlying162
 a45 := Tryz.isAgg162
 z45 := Tryz.sizeOf162
 v45 := Tryz.zeroValue162
 t46 := Tryz.underlying163
 a46 := Tryz.isAgg163
 z46 := Tryz.sizeOf163
 v46 := Tryz.zeroValue163
 t50 := Tryz.underlying167
 a50 := Tryz.isAgg167
 z50 := Tryz.sizeOf167
 v50 := Tryz.zeroValue167
 t53 := Tryz.underlying170
 a53 := Tryz.isAgg170
 z53 := Tryz.sizeOf170
 v53 := Tryz.zeroValue170
 t55 := Tryz.underlying172
 a55 := Tryz.isAgg172
 z55 := Tryz.sizeOf172
 v55 := Tryz.zeroValue172
 t66 := Tryz.underlying195
 a66 := Tryz.isAgg195
 z66 := Tryz.sizeOf195
 v66 := Tryz.zeroValue195
 t70 := Tryz.underlying199
 a70 := Tryz.isAgg199
 z70 := Tryz.sizeOf199
 v70 := Tryz.zeroValue199
 t76 := Tryz.underlying211
 a76 := Tryz.isAgg211
 z76 := Tryz.sizeOf211
 v76 := Tryz.zeroValue211
 t77 := Tryz.underlying212
 a77 := Tryz.isAgg212
 z77 := Tryz.sizeOf212
 v77 := Tryz.zeroValue212 }
end Go.Proofs.YtnklnklkblgnfaaGreat
end
section
namespace Go.Proofs.YtnklnklkblgnfaaGreat
open Go.RowKit Go.Dfl Go.Gra Go.Obs Go.Sort Go.Maps
def elP : El (Int × Int × Int) := ⟨3, fun x => [.int .i64 x.1, .int .i64 x.2.1, .int .i64 x.2.2], fun _ => rfl, fun x v hv => by simp at hv; rcases hv with rfl | rfl | rfl <;> rfl, by omega⟩
theorem sPf : SliceOf Tryz.prog 38 41 (.agg #[.int .i64 0, .int .i64 0, .int .i64 0]) 3 24 := ⟨Tryz.underlying38, info_parts (P := Tryz.prog) (e := 41) (by kernel_rfl)⟩
theorem cmp3_lt (x y : Int × Int × Int) : ltOf cmp3 x y = decide (lt3 x y) := by
 unfold ltOf
 by_cases h : lt3 x y
 ·simp [h, (cmp3_neg x y).2 h]
 ·simp [h]
  have := mt (cmp3_neg x y).1 h
  omega
theorem cmp3_swo : SWO (ltOf cmp3) where
 irrefl x := by rw [cmp3_lt]; simpa using sto3.irrefl x
 trans x y z h1 h2 := by rw [cmp3_lt] at *; simp only [decide_eq_true_eq] at *; exact sto3.trans h1 h2
 ntrans x y z h1 h2 := by
  rw [cmp3_lt] at *
  simp only [decide_eq_false_iff_not] at *
  intro h3
  rcases sto3.tri y x with h4 | h4 | h4
  ·exact h2 (sto3.trans h4 h3)
  ·subst h4; exact h2 h3
  ·exact h1 h4
def spSortR (base g cap : Nat) (l : List (Int × Int × Int)) (W : World) (e : Ending) (W' : World) : Prop := ∃ l' : List (Int × Int × Int), e = .returned (.tuple #[]) ∧ l'.Perm l ∧ l'.Pairwise lt3 ∧ OwnE elP W' base 41 (.slice (some ⟨g, 0, none⟩) l.length cap) l' ∧ W.grownBy W' (some g)
set_option maxHeartbeats 1600000 in
theorem spSort_any (base g cap : Nat) (l : List (Int × Int × Int)) (W : World) (h : OwnE elP W base 41 (.slice (some ⟨g, 0, none⟩) l.length cap) l) (hl : l.length ≤ 10000000) (hnd : l.Nodup) :
  Calls Tryz.prog 46 #[.slice (some ⟨g, 0, none⟩) l.length cap, .func (.func 19) #[] #[]] W (spSortR base g cap l W) := by
 have eg : ∀ args w, (callFunc 19 args).run Tryz.prog w = .ok (.enter 19 args) w := enters_of Tryz.func19 (by kernel_rfl) rfl
 have hH := OwnE.holdsK h rfl
 have hblk : g < W.heap.size := (OwnE.lt h g rfl).2
 have hcon := AnyQ.slices_SortFunc sortP 3 Tryz.isAgg41 Tryz.sizeOf41 elP.c (fun _ => rfl) elP.one cmp3 cmp3_swo 19 #[] g 0 cap l.toArray W eg (fun _ _ _ _ x y => cmp3_any x y _) hH hblk (by simp; omega)
 change Calls Tryz.prog 46 _ _ _ at hcon
 have hs0 : l.toArray.size = l.length := by simp
 rw [hs0] at hcon
 refine hcon.mono ?_
 rintro e W' ⟨rfl, d', n, os, hp, hs, rfl⟩
 obtain ⟨p1, -, p3⟩ := hp
 have hd : d'.size = l.length := by rw [p1, hs0]
 obtain ⟨o1, o2⟩ := OwnE.sortK h rfl d' hd n os
 have hperm : d'.toList.Perm l := by
  have e1 : (d'.extract 0 l.length) = d' := by rw [← hd]; exact Array.extract_size
  have e2 : (l.toArray.extract 0 l.length) = l.toArray := by rw [← hs0]; exact Array.extract_size
  rw [e1, e2] at p3
  exact p3
 have hnd' : d'.toList.Nodup := hperm.nodup_iff.2 hnd
 refine ⟨d'.toList, rfl, hperm, List.pairwise_iff_getElem.2 fun i j hi hj hij => ?_, o1, o2⟩
 have hjl : j < d'.size := by simpa using hj
 have h1 := hs i j (Nat.zero_le _) hij (by rw [← hd]; exact hjl)
 rw [cmp3_lt, decide_eq_false_iff_not] at h1
 rw [getElem!_pos d' j hjl, getElem!_pos d' i (by omega)] at h1
 have e1 : d'.toList[i] = d'[i]'(by omega) := by simp
 have e2 : d'.toList[j] = d'[j] := by simp
 rw [e1, e2]
 rcases sto3.tri (d'[i]'(by omega)) d'[j] with h2 | h2 | h2
 ·exact h2
 ·exfalso
  rw [← e1, ← e2] at h2
  have := (List.getElem_inj hnd').1 h2
  omega
 ·exact absurd h2 h1
theorem spSort_nil (fv : Value) (c : Nat) (W : World) :
  Calls Tryz.prog 46 #[.slice none 0 c, fv] W fun e W' => e = .returned (.tuple #[]) ∧ W' = W := AnyF.slices_SortFunc_none sortP none c fv W
theorem pkKeyed : Keyed Tryz.prog 41 := Keyed.of_law (deep_law_laid laidOut (m := 2) (by omega) (of_decide_eq_true (by kernel_rfl)) (by kernel_rfl) (by rw [Tryz.underlying41]))
theorem pkWf (x : Int × Int × Int) (h : inI x.1 ∧ inI x.2.1 ∧ inI x.2.2) : ∃ kl, keyOf Tryz.prog 41 (pv x) = some kl := by
 obtain ⟨x1, x2, x3⟩ := x
 obtain ⟨h1, h2, h3⟩ := h
 have wf : ∀ x : Int, inI x → (Lit.int .i64 x).wf = true := fun x hx => WalkArith.wf_i64 (by unfold inI at hx; omega)
 have wi : ∀ (d : Nat) (x : Int), inI x → Tryz.prog.keyLits (d + 1) 3 [.int .i64 x] = some [.int .i64 x] := fun d x hx => by
  simp [Program.keyLits, Tryz.underlying3, wf x hx]
 have hsz : ∃ d, Tryz.prog.types.size + 1 = d + 2 := ⟨Tryz.prog.types.size - 1, by have : 0 < Tryz.prog.types.size := of_decide_eq_true (by kernel_rfl); omega⟩
 obtain ⟨d, hd⟩ := hsz
 have ktype : Tryz.prog.keyType 41 = true := by kernel_rfl
 have cellsK : Tryz.prog.cellsOf 41 = 3 := by kernel_rfl
 unfold keyOf
 rw [Tryz.underlying41, hd]
 simp only [ktype, Bool.true_and]
 have hf : (Value.agg #[.int .i64 x1, .int .i64 x2, .int .i64 x3]).formed Tryz.prog 41 = true := by simp [Value.formed, Tryz.underlying41, cellsK]
 rw [if_pos hf]
 unfold Program.keyLits
 simp only [Tryz.underlying41]
 simp [cellsK, cI, wi, h1, h2, h3, Value.cells]
theorem pv_inj {x y : Int × Int × Int} (h : pv x = pv y) : x = y := by
 obtain ⟨x1, x2, x3⟩ := x
 obtain ⟨y1, y2, y3⟩ := y
 simp [pv] at h
 simp [h]
def ascPR (l : List (Int × Int × Int)) (W : World) (e : Ending) (W' : World) : Prop := ∃ a c L, e = .returned (.slice a L.length c) ∧ OwnE elP W' W.heap.size 41 (.slice a L.length c) L ∧ L.Pairwise lt3 ∧ (∀ x, x ∈ L ↔ x ∈ l) ∧ Below W.heap.size W W'
def elN : El (Int × Int × Int × Int) := ⟨4, fun x => [.int .i64 x.1, .int .i64 x.2.1, .int .i64 x.2.2.1, .int .i64 x.2.2.2], fun _ => rfl, fun x v hv => by simp at hv; rcases hv with rfl | rfl | rfl | rfl <;> rfl, by omega⟩
theorem sNf : SliceOf Tryz.prog 81 84 (.agg #[.int .i64 0, .int .i64 0, .int .i64 0, .int .i64 0]) 4 32 := ⟨Tryz.underlying81, info_parts (P := Tryz.prog) (e := 84) (by kernel_rfl)⟩
theorem cmp4_lt (x y : Int × Int × Int × Int) : ltOf cmp4 x y = decide (lt4 x y) := by
 unfold ltOf
 by_cases h : lt4 x y
 ·simp [h, (cmp4_neg x y).2 h]
 ·simp [h]
  have := mt (cmp4_neg x y).1 h
  omega
theorem cmp4_swo : SWO (ltOf cmp4) where
 irrefl x := by rw [cmp4_lt]; simpa using sto4.irrefl x
 trans x y z h1 h2 := by rw [cmp4_lt] at *; simp only [decide_eq_true_eq] at *; exact sto4.trans h1 h2
 ntrans x y z h1 h2 := by
  rw [cmp4_lt] at *
  simp only [decide_eq_false_iff_not] at *
  intro h3
  rcases sto4.tri y x with h4 | h4 | h4
  ·exact h2 (sto4.trans h4 h3)
  ·subst h4; exact h2 h3
  ·exact h1 h4
def snSortR (base g cap : Nat) (l : List (Int × Int × Int × Int)) (W : World) (e : Ending) (W' : World) : Prop := ∃ l' : List (Int × Int × Int × Int), e = .returned (.tuple #[]) ∧ l'.Perm l ∧ l'.Pairwise lt4 ∧ OwnE elN W' base 84 (.slice (some ⟨g, 0, none⟩) l.length cap) l' ∧ W.grownBy W' (some g)
set_option maxHeartbeats 1600000 in
theorem snSort_any (base g cap : Nat) (l : List (Int × Int × Int × Int)) (W : World) (h : OwnE elN W base 84 (.slice (some ⟨g, 0, none⟩) l.length cap) l) (hl : l.length ≤ 10000000) (hnd : l.Nodup) :
  Calls Tryz.prog 65 #[.slice (some ⟨g, 0, none⟩) l.length cap, .func (.func 44) #[] #[]] W (snSortR base g cap l W) := by
 have eg : ∀ args w, (callFunc 44 args).run Tryz.prog w = .ok (.enter 44 args) w := enters_of Tryz.func44 (by kernel_rfl) rfl
 have hH := OwnE.holdsK h rfl
 have hblk : g < W.heap.size := (OwnE.lt h g rfl).2
 have hcon := AnyQ.slices_SortFunc sortN 4 Tryz.isAgg84 Tryz.sizeOf84 elN.c (fun _ => rfl) elN.one cmp4 cmp4_swo 44 #[] g 0 cap l.toArray W eg (fun _ _ _ _ x y => cmp4_any x y _) hH hblk (by simp; omega)
 change Calls Tryz.prog 65 _ _ _ at hcon
 have hs0 : l.toArray.size = l.length := by simp
 rw [hs0] at hcon
 refine hcon.mono ?_
 rintro e W' ⟨rfl, d', n, os, hp, hs, rfl⟩
 obtain ⟨p1, -, p3⟩ := hp
 have hd : d'.size = l.length := by rw [p1, hs0]
 obtain ⟨o1, o2⟩ := OwnE.sortK h rfl d' hd n os
 have hperm : d'.toList.Perm l := by
  have e1 : (d'.extract 0 l.length) = d' := by rw [← hd]; exact Array.extract_size
  have e2 : (l.toArray.extract 0 l.length) = l.toArray := by rw [← hs0]; exact Array.extract_size
  rw [e1, e2] at p3
  exact p3
 have hnd' : d'.toList.Nodup := hperm.nodup_iff.2 hnd
 refine ⟨d'.toList, rfl, hperm, List.pairwise_iff_getElem.2 fun i j hi hj hij => ?_, o1, o2⟩
 have hjl : j < d'.size := by simpa using hj
 have h1 := hs i j (Nat.zero_le _) hij (by rw [← hd]; exact hjl)
 rw [cmp4_lt, decide_eq_false_iff_not] at h1
 rw [getElem!_pos d' j hjl, getElem!_pos d' i (by omega)] at h1
 have e1 : d'.toList[i] = d'[i]'(by omega) := by simp
 have e2 : d'.toList[j] = d'[j] := by simp
 rw [e1, e2]
 rcases sto4.tri (d'[i]'(by omega)) d'[j] with h2 | h2 | h2
 ·exact h2
 ·exfalso
  rw [← e1, ← e2] at h2
  have := (List.getElem_inj hnd').1 h2
  omega
 ·exact absurd h2 h1
theorem snSort_nil (fv : Value) (c : Nat) (W : World) :
  Calls Tryz.prog 65 #[.slice none 0 c, fv] W fun e W' => e = .returned (.tuple #[]) ∧ W' = W := AnyF.slices_SortFunc_none sortN none c fv W
theorem nkKeyed : Keyed Tryz.prog 84 := Keyed.of_law (deep_law_laid laidOut (m := 2) (by omega) (of_decide_eq_true (by kernel_rfl)) (by kernel_rfl) (by rw [Tryz.underlying84]))
theorem nkWf (x : Int × Int × Int × Int) (h : inI x.1 ∧ inI x.2.1 ∧ inI x.2.2.1 ∧ inI x.2.2.2) : ∃ kl, keyOf Tryz.prog 84 (nv x) = some kl := by
 obtain ⟨x1, x2, x3, x4⟩ := x
 obtain ⟨h1, h2, h3, h4⟩ := h
 have wf : ∀ x : Int, inI x → (Lit.int .i64 x).wf = true := fun x hx => WalkArith.wf_i64 (by unfold inI at hx; omega)
 have wi : ∀ (d : Nat) (x : Int), inI x → Tryz.prog.keyLits (d + 1) 3 [.int .i64 x] = some [.int .i64 x] := fun d x hx => by
  simp [Program.keyLits, Tryz.underlying3, wf x hx]
 have wl : ∀ (d : Nat) (x : Int), inI x → Tryz.prog.keyLits (d + 1) 2 [.int .i64 x] = some [.int .i64 x] := fun d x hx => by
  simp [Program.keyLits, Tryz.underlying2, wf x hx]
 have cellsL : Tryz.prog.cellsOf 2 = 1 := by kernel_rfl
 have hsz : ∃ d, Tryz.prog.types.size + 1 = d + 2 := ⟨Tryz.prog.types.size - 1, by have : 0 < Tryz.prog.types.size := of_decide_eq_true (by kernel_rfl); omega⟩
 obtain ⟨d, hd⟩ := hsz
 have ktype : Tryz.prog.keyType 84 = true := by kernel_rfl
 have cellsK : Tryz.prog.cellsOf 84 = 4 := by kernel_rfl
 unfold keyOf
 rw [Tryz.underlying84, hd]
 simp only [ktype, Bool.true_and]
 have hf : (Value.agg #[.int .i64 x1, .int .i64 x2, .int .i64 x3, .int .i64 x4]).formed Tryz.prog 84 = true := by simp [Value.formed, Tryz.underlying84, cellsK]
 rw [if_pos hf]
 unfold Program.keyLits
 simp only [Tryz.underlying84]
 simp [cellsK, cI, wi, cellsL, wl, h1, h2, h3, h4, Value.cells]
theorem nv_inj {x y : Int × Int × Int × Int} (h : nv x = nv y) : x = y := by
 obtain ⟨x1, x2, x3, x4⟩ := x
 obtain ⟨y1, y2, y3, y4⟩ := y
 simp [nv] at h
 simp [h]
def ascNR (l : List (Int × Int × Int × Int)) (W : World) (e : Ending) (W' : World) : Prop := ∃ a c L, e = .returned (.slice a L.length c) ∧ OwnE elN W' W.heap.size 84 (.slice a L.length c) L ∧ L.Pairwise lt4 ∧ (∀ x, x ∈ L ↔ x ∈ l) ∧ Below W.heap.size W W'
end Go.Proofs.YtnklnklkblgnfaaGreat
end
section
namespace Go.Obs
open Go.Dfl
theorem bl_irrefl : ∀ x : List UInt8, Op.bytesLess x x = false
 | [] => by simp [Op.bytesLess]
 | a :: x => by rw [Op.bytesLess, bl_irrefl x]; simp
theorem bl_trans : ∀ x y z : List UInt8, Op.bytesLess x y = true → Op.bytesLess y z = true → Op.bytesLess x z = true
 | _, [], _, h, _ => by simp [Op.bytesLess] at h
 | _, _ :: _, [], _, h => by simp [Op.bytesLess] at h
 | [], _ :: _, _ :: _, _, _ => by simp [Op.bytesLess]
 | a :: x, b :: y, c :: z, h1, h2 => by
   simp only [Op.bytesLess, Bool.or_eq_true, decide_eq_true_eq, Bool.and_eq_true, beq_iff_eq] at h1 h2 ⊢
   rcases h1 with h1 | ⟨rfl, h1⟩
   ·rcases h2 with h2 | ⟨rfl, h2⟩
    ·exact .inl (UInt8.lt_trans h1 h2)
    ·exact .inl h1
   ·rcases h2 with h2 | ⟨rfl, h2⟩
    ·exact .inl h2
    ·exact .inr ⟨rfl, bl_trans x y z h1 h2⟩
theorem bl_tri : ∀ x y : List UInt8, Op.bytesLess x y = true ∨ x = y ∨ Op.bytesLess y x = true
 | [], [] => .inr (.inl rfl)
 | [], _ :: _ => .inl (by simp [Op.bytesLess])
 | _ :: _, [] => .inr (.inr (by simp [Op.bytesLess]))
 | a :: x, b :: y => by
   simp only [Op.bytesLess, Bool.or_eq_true, decide_eq_true_eq, Bool.and_eq_true, beq_iff_eq, List.cons.injEq]
   by_cases h1 : a < b
   ·exact .inl (.inl h1)
   ·by_cases h2 : b < a
    ·exact .inr (.inr (.inl h2))
    ·have e : a = b := UInt8.le_antisymm (UInt8.not_lt.1 h2) (UInt8.not_lt.1 h1)
     subst e
     rcases bl_tri x y with h | rfl | h
     ·exact .inl (.inr ⟨rfl, h⟩)
     ·exact .inr (.inl ⟨rfl, rfl⟩)
     ·exact .inr (.inr (.inr ⟨rfl, h⟩))
theorem ba_inj {a b : ByteArray} (h : a.toList = b.toList) : a = b := by
 rw [ByteArray.toList_eq, ByteArray.toList_eq] at h
 exact ByteArray.ext (Array.toList_inj.1 h)
def ltB (x y : ByteArray) : Prop := Op.bytesLess x.toList y.toList = true
instance (x y : ByteArray) : Decidable (ltB x y) := by unfold ltB; infer_instance
theorem stoB : STO ltB := ⟨fun x h => by unfold ltB at h; rw [bl_irrefl] at h; exact absurd h (by decide), fun h1 h2 => bl_trans _ _ _ h1 h2, fun x y => by
 rcases bl_tri x.toList y.toList with h | h | h
 ·exact .inl h
 ·exact .inr (.inl (ba_inj h))
 ·exact .inr (.inr h)⟩
def cmpS (x y : ByteArray) : Int := if ltB x y then -1 else if ltB y x then 1 else 0
def ltF (a b : Int × ByteArray × Int) : Prop := a.1 < b.1 ∨ a.1 = b.1 ∧ (ltB a.2.1 b.2.1 ∨ a.2.1 = b.2.1 ∧ a.2.2 < b.2.2)
instance (a b : Int × ByteArray × Int) : Decidable (ltF a b) := by unfold ltF; infer_instance
theorem stoF : STO ltF where
 irrefl a h := by
  unfold ltF at h
  rcases h with h | ⟨-, h | ⟨-, h⟩⟩
  ·omega
  ·exact stoB.irrefl _ h
  ·omega
 trans {a b c} h1 h2 := by
  unfold ltF at *
  rcases h1 with h1 | ⟨e1, h1⟩
  ·rcases h2 with h2 | ⟨e2, h2⟩
   ·exact .inl (by omega)
   ·exact .inl (by omega)
  ·rcases h2 with h2 | ⟨e2, h2⟩
   ·exact .inl (by omega)
   ·refine .inr ⟨by omega, ?_⟩
    rcases h1 with h1 | ⟨f1, h1⟩
    ·rcases h2 with h2 | ⟨f2, h2⟩
     ·exact .inl (stoB.trans h1 h2)
     ·exact .inl (f2 ▸ h1)
    ·rcases h2 with h2 | ⟨f2, h2⟩
     ·exact .inl (f1 ▸ h2)
     ·exact .inr ⟨f1.trans f2, by omega⟩
 tri a b := by
  obtain ⟨a1, a2, a3⟩ := a
  obtain ⟨b1, b2, b3⟩ := b
  unfold ltF
  dsimp only
  by_cases h1 : a1 < b1
  ·exact .inl (.inl h1)
  ·by_cases h2 : b1 < a1
   ·exact .inr (.inr (.inl h2))
   ·have e : a1 = b1 := by omega
    subst e
    rcases stoB.tri a2 b2 with h | rfl | h
    ·exact .inl (.inr ⟨rfl, .inl h⟩)
    ·by_cases h3 : a3 < b3
     ·exact .inl (.inr ⟨rfl, .inr ⟨rfl, h3⟩⟩)
     ·by_cases h4 : b3 < a3
      ·exact .inr (.inr (.inr ⟨rfl, .inr ⟨rfl, h4⟩⟩))
      ·exact .inr (.inl (by rw [show a3 = b3 by omega]))
    ·exact .inr (.inr (.inr ⟨rfl, .inl h⟩))
end Go.Obs
namespace Go.Proofs.YtnklnklkblgnfaaGreat
open Go.RowKit Go.Dfl Go.Gra Go.Obs
def cmpF (a b : Int × ByteArray × Int) : Int := orI [cmpI a.1 b.1, cmpS a.2.1 b.2.1, cmpI a.2.2 b.2.2]
theorem cmpF_neg (a b : Int × ByteArray × Int) : cmpF a b < 0 ↔ ltF a b := by
 obtain ⟨a1, a2, a3⟩ := a
 obtain ⟨b1, b2, b3⟩ := b
 unfold cmpF
 rw [orI_cons, orI_cons, orI_cons]
 unfold cmpI cmpS ltF orI
 simp only [List.find?_nil, Option.getD_none]
 by_cases h1 : ltB a2 b2
 ·rw [if_pos h1]
  simp only [h1, true_or, and_true]
  repeat' split
  all_goals omega
 ·by_cases h2 : ltB b2 a2
  ·rw [if_neg h1, if_pos h2]
   have h3 : ¬ a2 = b2 := fun e => h1 (by rw [e] at h2; rw [e]; exact h2)
   simp only [h1, h3, false_and, or_false, and_false]
   repeat' split
   all_goals omega
  ·rw [if_neg h1, if_neg h2]
   have h3 : a2 = b2 := by
    rcases stoB.tri a2 b2 with h | h | h
    ·exact absurd h h1
    ·exact h
    ·exact absurd h h2
   subst h3
   simp only [h1, true_and, false_or]
   repeat' split
   all_goals omega
abbrev cv (x : Int × ByteArray × Int) : Value := .agg #[.int .i64 x.1, .string x.2.1, .int .i64 x.2.2]
theorem cmpS_any (x y : ByteArray) (w : World) : Calls Tryz.prog 28 #[.string x, .string y] w fun e w' => e = .returned (.int .i64 (cmpS x y)) ∧ w' = w := by
 have q1 : (x.toList != x.toList) = false := by simp
 have q2 : (y.toList != y.toList) = false := by simp
 obtain ⟨xl, hxl⟩ : ∃ xl, xl = x.toList := ⟨_, rfl⟩
 obtain ⟨yl, hyl⟩ : ∃ yl, yl = y.toList := ⟨_, rfl⟩
 have hc : cmpS x y = if Op.bytesLess xl yl = true then -1 else if Op.bytesLess yl xl = true then 1 else 0 := by rw [hxl, hyl]; rfl
 have HC := Lib.hid hc
 have HX := Lib.hid (And.intro hxl hyl)
 clear hc
 cases h1 : Op.bytesLess xl yl with
 | true =>
   have t1 : Op.bytesLess x.toList y.toList = true := by rw [← hxl, ← hyl]; exact h1
   have HV : Hid (cmpS x y = -1) := Lib.hid (by rw [HC.out, if_pos h1])
   clear h1 hxl hyl
   go_enter Tryz.func28, Tryz.ntmps28
   go_wp2
   go_ret
   exact ⟨ret_int HV.out.symm, rfl⟩
 | false =>
   have t1 : Op.bytesLess x.toList y.toList = false := by rw [← hxl, ← hyl]; exact h1
   cases h2 : Op.bytesLess yl xl with
   | true =>
     have t2 : Op.bytesLess y.toList x.toList = true := by rw [← hxl, ← hyl]; exact h2
     have hne : ¬ xl = yl := fun e => by rw [e] at h2; rw [bl_irrefl] at h2; exact absurd h2 (by decide)
     have t3 : (x.toList == y.toList) = false := by rw [← hxl, ← hyl]; simpa using hne
     have HV : Hid (cmpS x y = 1) := Lib.hid (by rw [HC.out, if_neg (by rw [h1]; decide), if_pos h2])
     clear h1 h2 hne hxl hyl
     go_enter Tryz.func28, Tryz.ntmps28
     go_wp2
     go_ret
     exact ⟨ret_int HV.out.symm, rfl⟩
   | false =>
     have heq : xl = yl := by
      rcases bl_tri xl yl with h | h | h
      ·rw [h1] at h; exact absurd h (by decide)
      ·exact h
      ·rw [h2] at h; exact absurd h (by decide)
     have t3 : (x.toList == y.toList) = true := by rw [← hxl, ← hyl]; simpa using heq
     have HV : Hid (cmpS x y = 0) := Lib.hid (by rw [HC.out, if_neg (by rw [h1]; decide), if_neg (by rw [h2]; decide)])
     clear h1 h2 heq hxl hyl
     go_enter Tryz.func28, Tryz.ntmps28
     go_wp2
     go_ret
     exact ⟨ret_int HV.out.symm, rfl⟩
set_option maxHeartbeats 1600000 in
theorem cmp3c_any (a b : Int × Int × Int) (W : World) : Calls Tryz.prog 31 #[pv a, pv b] W fun e W' => e = .returned (.int .i64 (cmp3 a b)) ∧ Grw W W' := by
 obtain ⟨a1, a2, a3⟩ := a
 obtain ⟨b1, b2, b3⟩ := b
 have hg := ((Grw.refl W).alloc (.cells #[.int .i64 a1, .int .i64 a2, .int .i64 a3] 61)).alloc (.cells #[.int .i64 b1, .int .i64 b2, .int .i64 b3] 61)
 have c1 := cells_new (W := W) (cs := [.int .i64 a1, .int .i64 a2, .int .i64 a3]) (t := 61) rfl
 have c2 := cells_new (W := W.alloc (.cells #[.int .i64 a1, .int .i64 a2, .int .i64 a3] 61)) (cs := [.int .i64 b1, .int .i64 b2, .int .i64 b3]) (t := 61) rfl
 have ga := grownBy_alloc (W.alloc (.cells #[.int .i64 a1, .int .i64 a2, .int .i64 a3] 61)) (.cells #[.int .i64 b1, .int .i64 b2, .int .i64 b3] 61)
 have hs := And.intro (ga.cell (c1 0 _ rfl) (by simp)) (And.intro (ga.cell (c1 1 _ rfl) (by simp)) (And.intro (ga.cell (c1 2 _ rfl) (by simp)) (And.intro (c2 0 _ rfl) (And.intro (c2 1 _ rfl) (c2 2 _ rfl)))))
 rw [World.size_alloc] at hs
 have HS := Lib.hid (And.intro hg hs)
 clear hg c1 c2 ga hs
 go_enter Tryz.func31, Tryz.ntmps31
 go_wp2_with fail
 refine gen_code (fun Z => Grw W Z ∧ Z.cell? ⟨W.heap.size, 0, none⟩ = some (.int .i64 a1) ∧ Z.cell? ⟨W.heap.size, 1, none⟩ = some (.int .i64 a2) ∧ Z.cell? ⟨W.heap.size, 2, none⟩ = some (.int .i64 a3) ∧ Z.cell? ⟨W.heap.size + 1, 0, none⟩ = some (.int .i64 b1) ∧ Z.cell? ⟨W.heap.size + 1, 1, none⟩ = some (.int .i64 b2) ∧ Z.cell? ⟨W.heap.size + 1, 2, none⟩ = some (.int .i64 b3)) HS.out ?_
 rintro Z ⟨hz, z⟩
 obtain ⟨ba, hba⟩ : ∃ k, k = W.heap.size := ⟨_, rfl⟩
 obtain ⟨bb, hbb⟩ : ∃ k, k = W.heap.size + 1 := ⟨_, rfl⟩
 rw [← hbb, ← hba] at z
 rw [← hbb, ← hba]
 clear hba hbb HS
 refine wp_region_mix [0, 1, 2, 3, 5, 6, 7, 8, 10, 11, 12, 13] [4, 9, 14, 15, 16, 17] (fun w' => w'.cell? ⟨ba, 0, none⟩ = some (.int .i64 a1) ∧ w'.cell? ⟨ba, 1, none⟩ = some (.int .i64 a2) ∧ w'.cell? ⟨ba, 2, none⟩ = some (.int .i64 a3) ∧ w'.cell? ⟨bb, 0, none⟩ = some (.int .i64 b1) ∧ w'.cell? ⟨bb, 1, none⟩ = some (.int .i64 b2) ∧ w'.cell? ⟨bb, 2, none⟩ = some (.int .i64 b3)) (by kernel_rfl) (by kernel_rfl) (by kernel_rfl) z ?_
 have hz' := hz.drew
 have hs : Z.drew.cell? ⟨ba, 0, none⟩ = some (.int .i64 a1) ∧ Z.drew.cell? ⟨ba, 1, none⟩ = some (.int .i64 a2) ∧ Z.drew.cell? ⟨ba, 2, none⟩ = some (.int .i64 a3) ∧ Z.drew.cell? ⟨bb, 0, none⟩ = some (.int .i64 b1) ∧ Z.drew.cell? ⟨bb, 1, none⟩ = some (.int .i64 b2) ∧ Z.drew.cell? ⟨bb, 2, none⟩ = some (.int .i64 b3) := z
 generalize Z.drew = V at *
 have HV := Lib.hid (And.intro hz' hs)
 clear hz hz' hs z
 repeat (
  refine wpHeads_cons (v := ?_) rfl (Or.inl ⟨by rfl, ?_⟩) ?_
  rotate_left
  ·(intro W hW; obtain ⟨q1, q2, q3, q4, q5, q6⟩ := hW; go_simp; try with_reducible rfl)
  simp only [Act.put, List.setIfInBounds_toArray])
 refine wpHeads_nil ?_
 refine wpTails_cons rfl ?_
 go_wp2_with (go_at_call 21; refine (cmpI_any _ _ _).mono ?_; rintro e w' ⟨rfl, hw⟩; rw [hw]; clear hw w')
 refine tail_mk HV.out.2 ?_
 refine wpTails_cons rfl ?_
 go_wp2_with (go_at_call 21; refine (cmpI_any _ _ _).mono ?_; rintro e w' ⟨rfl, hw⟩; rw [hw]; clear hw w')
 refine tail_mk HV.out.2 ?_
 refine wpTails_cons rfl ?_
 go_wp2_with (go_at_call 21; refine (cmpI_any _ _ _).mono ?_; rintro e w' ⟨rfl, hw⟩; rw [hw]; clear hw w')
 refine tail_mk HV.out.2 ?_
 refine wpTails_cons rfl ?_
 have hoc : cmp3 (a1, a2, a3) (b1, b2, b3) = orI [cmpI a1 b1, cmpI a2 b2, cmpI a3 b3] := rfl
 obtain ⟨r1, hr1⟩ : ∃ r, r = cmpI a1 b1 := ⟨_, rfl⟩
 obtain ⟨r2, hr2⟩ : ∃ r, r = cmpI a2 b2 := ⟨_, rfl⟩
 obtain ⟨r3, hr3⟩ : ∃ r, r = cmpI a3 b3 := ⟨_, rfl⟩
 rw [← hr1, ← hr2, ← hr3] at hoc ⊢
 have HO := Lib.hid hoc
 clear hr1 hr2 hr3 hoc
 go_wp2_with fail
 have gA := grownBy_alloc V (.cells #[.int .i64 r1, .int .i64 r2, .int .i64 r3] 3)
 have s2 := And.intro (gA.cell HV.out.2.1 (by simp)) (And.intro (gA.cell HV.out.2.2.1 (by simp)) (And.intro (gA.cell HV.out.2.2.2.1 (by simp)) (And.intro (gA.cell HV.out.2.2.2.2.1 (by simp)) (And.intro (gA.cell HV.out.2.2.2.2.2.1 (by simp)) (gA.cell HV.out.2.2.2.2.2.2 (by simp))))))
 have H2 := Lib.hid s2
 have hI : Ints (V.alloc (.cells #[.int .i64 r1, .int .i64 r2, .int .i64 r3] 3)) (.slice (some ⟨V.heap.size, 0, none⟩) 3 3) [r1, r2, r3] := (show OwnI _ V.heap.size 3 (.slice (some ⟨V.heap.size, 0, none⟩) 3 3) [r1, r2, r3] from World.ownsRow_lit (size := 1) V #[.int .i64 r1, .int .i64 r2, .int .i64 r3] 3 (Nat.le_refl _) (by unfold maxLen; omega) rfl).lst
 have HI := Lib.hid hI
 clear gA s2 hI
 refine tail_mk H2.out ?_
 refine wpTails_cons rfl ?_
 go_wp2_with fail
 refine (cmpOr_any _ [r1, r2, r3] _ HI.out).mono ?_
 rintro e W9 ⟨rfl, rfl⟩
 go_wp2_with fail
 refine tail_mk H2.out ?_
 refine wpTails_one rfl ?_
 go_wp2_with fail
 refine thenQ_mk ?_
 go_wp2_with fail
 go_ret
 exact ⟨ret_int HO.out.symm, HV.out.1.alloc _⟩
set_option maxHeartbeats 1600000 in
theorem cmpF_any (a b : Int × ByteArray × Int) (W : World) : Calls Tryz.prog 27 #[cv a, cv b] W fun e W' => e = .returned (.int .i64 (cmpF a b)) ∧ Grw W W' := by
 obtain ⟨a1, a2, a3⟩ := a
 obtain ⟨b1, b2, b3⟩ := b
 have hg := ((Grw.refl W).alloc (.cells #[.int .i64 a1, .string a2, .int .i64 a3] 54)).alloc (.cells #[.int .i64 b1, .string b2, .int .i64 b3] 54)
 have c1 := cells_new (W := W) (cs := [.int .i64 a1, .string a2, .int .i64 a3]) (t := 54) rfl
 have c2 := cells_new (W := W.alloc (.cells #[.int .i64 a1, .string a2, .int .i64 a3] 54)) (cs := [.int .i64 b1, .string b2, .int .i64 b3]) (t := 54) rfl
 have ga := grownBy_alloc (W.alloc (.cells #[.int .i64 a1, .string a2, .int .i64 a3] 54)) (.cells #[.int .i64 b1, .string b2, .int .i64 b3] 54)
 have hs := And.intro (ga.cell (c1 0 _ rfl) (by simp)) (And.intro (ga.cell (c1 1 _ rfl) (by simp)) (And.intro (ga.cell (c1 2 _ rfl) (by simp)) (And.intro (c2 0 _ rfl) (And.intro (c2 1 _ rfl) (c2 2 _ rfl)))))
 rw [World.size_alloc] at hs
 have HS := Lib.hid (And.intro hg hs)
 clear hg c1 c2 ga hs
 go_enter Tryz.func27, Tryz.ntmps27
 go_wp2_with fail
 refine gen_code (fun Z => Grw W Z ∧ Z.cell? ⟨W.heap.size, 0, none⟩ = some (.int .i64 a1) ∧ Z.cell? ⟨W.heap.size, 1, none⟩ = some (.string a2) ∧ Z.cell? ⟨W.heap.size, 2, none⟩ = some (.int .i64 a3) ∧ Z.cell? ⟨W.heap.size + 1, 0, none⟩ = some (.int .i64 b1) ∧ Z.cell? ⟨W.heap.size + 1, 1, none⟩ = some (.string b2) ∧ Z.cell? ⟨W.heap.size + 1, 2, none⟩ = some (.int .i64 b3)) HS.out ?_
 rintro Z ⟨hz, z⟩
 obtain ⟨ba, hba⟩ : ∃ k, k = W.heap.size := ⟨_, rfl⟩
 obtain ⟨bb, hbb⟩ : ∃ k, k = W.heap.size + 1 := ⟨_, rfl⟩
 rw [← hbb, ← hba] at z
 rw [← hbb, ← hba]
 clear hba hbb HS
 refine wp_region_mix [0, 1, 2, 3, 5, 6, 7, 8, 10, 11, 12, 13] [4, 9, 14, 15, 16, 17] (fun w' => w'.cell? ⟨ba, 0, none⟩ = some (.int .i64 a1) ∧ w'.cell? ⟨ba, 1, none⟩ = some (.string a2) ∧ w'.cell? ⟨ba, 2, none⟩ = some (.int .i64 a3) ∧ w'.cell? ⟨bb, 0, none⟩ = some (.int .i64 b1) ∧ w'.cell? ⟨bb, 1, none⟩ = some (.string b2) ∧ w'.cell? ⟨bb, 2, none⟩ = some (.int .i64 b3)) (by kernel_rfl) (by kernel_rfl) (by kernel_rfl) z ?_
 have hz' := hz.drew
 have hs : Z.drew.cell? ⟨ba, 0, none⟩ = some (.int .i64 a1) ∧ Z.drew.cell? ⟨ba, 1, none⟩ = some (.string a2) ∧ Z.drew.cell? ⟨ba, 2, none⟩ = some (.int .i64 a3) ∧ Z.drew.cell? ⟨bb, 0, none⟩ = some (.int .i64 b1) ∧ Z.drew.cell? ⟨bb, 1, none⟩ = some (.string b2) ∧ Z.drew.cell? ⟨bb, 2, none⟩ = some (.int .i64 b3) := z
 generalize Z.drew = V at *
 have HV := Lib.hid (And.intro hz' hs)
 clear hz hz' hs z
 repeat (
  refine wpHeads_cons (v := ?_) rfl (Or.inl ⟨by rfl, ?_⟩) ?_
  rotate_left
  ·(intro W hW; obtain ⟨q1, q2, q3, q4, q5, q6⟩ := hW; go_simp; try with_reducible rfl)
  simp only [Act.put, List.setIfInBounds_toArray])
 refine wpHeads_nil ?_
 refine wpTails_cons rfl ?_
 go_wp2_with (go_at_call 21; refine (cmpI_any _ _ _).mono ?_; rintro e w' ⟨rfl, hw⟩; rw [hw]; clear hw w')
 refine tail_mk HV.out.2 ?_
 refine wpTails_cons rfl ?_
 go_wp2_with (go_at_call 28; refine (cmpS_any _ _ _).mono ?_; rintro e w' ⟨rfl, hw⟩; rw [hw]; clear hw w')
 refine tail_mk HV.out.2 ?_
 refine wpTails_cons rfl ?_
 go_wp2_with (go_at_call 21; refine (cmpI_any _ _ _).mono ?_; rintro e w' ⟨rfl, hw⟩; rw [hw]; clear hw w')
 refine tail_mk HV.out.2 ?_
 refine wpTails_cons rfl ?_
 have hoc : cmpF (a1, a2, a3) (b1, b2, b3) = orI [cmpI a1 b1, cmpS a2 b2, cmpI a3 b3] := rfl
 obtain ⟨r1, hr1⟩ : ∃ r, r = cmpI a1 b1 := ⟨_, rfl⟩
 obtain ⟨r2, hr2⟩ : ∃ r, r = cmpS a2 b2 := ⟨_, rfl⟩
 obtain ⟨r3, hr3⟩ : ∃ r, r = cmpI a3 b3 := ⟨_, rfl⟩
 rw [← hr1, ← hr2, ← hr3] at hoc ⊢
 have HO := Lib.hid hoc
 clear hr1 hr2 hr3 hoc
 go_wp2_with fail
 have gA := grownBy_alloc V (.cells #[.int .i64 r1, .int .i64 r2, .int .i64 r3] 3)
 have s2 := And.intro (gA.cell HV.out.2.1 (by simp)) (And.intro (gA.cell HV.out.2.2.1 (by simp)) (And.intro (gA.cell HV.out.2.2.2.1 (by simp)) (And.intro (gA.cell HV.out.2.2.2.2.1 (by simp)) (And.intro (gA.cell HV.out.2.2.2.2.2.1 (by simp)) (gA.cell HV.out.2.2.2.2.2.2 (by simp))))))
 have H2 := Lib.hid s2
 have hI : Ints (V.alloc (.cells #[.int .i64 r1, .int .i64 r2, .int .i64 r3] 3)) (.slice (some ⟨V.heap.size, 0, none⟩) 3 3) [r1, r2, r3] := (show OwnI _ V.heap.size 3 (.slice (some ⟨V.heap.size, 0, none⟩) 3 3) [r1, r2, r3] from World.ownsRow_lit (size := 1) V #[.int .i64 r1, .int .i64 r2, .int .i64 r3] 3 (Nat.le_refl _) (by unfold maxLen; omega) rfl).lst
 have HI := Lib.hid hI
 clear gA s2 hI
 refine tail_mk H2.out ?_
 refine wpTails_cons rfl ?_
 go_wp2_with fail
 refine (cmpOr_any _ [r1, r2, r3] _ HI.out).mono ?_
 rintro e W9 ⟨rfl, rfl⟩
 go_wp2_with fail
 refine tail_mk H2.out ?_
 refine wpTails_one rfl ?_
 go_wp2_with fail
 refine thenQ_mk ?_
 go_wp2_with fail
 go_ret
 exact ⟨ret_int HO.out.symm, HV.out.1.alloc _⟩
end Go.Proofs.YtnklnklkblgnfaaGreat
end
section
namespace Go.Proofs.YtnklnklkblgnfaaGreat
open Go.RowKit Go.Dfl Go.Gra Go.Obs Go.Sort Go.Maps
theorem sCe : SliceOf Tryz.prog 57 61 (.agg #[.int .i64 0, .int .i64 0, .int .i64 0]) 3 24 := ⟨Tryz.underlying57, info_parts (P := Tryz.prog) (e := 61) (by kernel_rfl)⟩
def scSortR (base g cap : Nat) (l : List (Int × Int × Int)) (W : World) (e : Ending) (W' : World) : Prop := ∃ l' : List (Int × Int × Int), e = .returned (.tuple #[]) ∧ l'.Perm l ∧ l'.Pairwise lt3 ∧ OwnE elP W' base 61 (.slice (some ⟨g, 0, none⟩) l.length cap) l' ∧ W.grownBy W' (some g)
set_option maxHeartbeats 1600000 in
theorem scSort_any (base g cap : Nat) (l : List (Int × Int × Int)) (W : World) (h : OwnE elP W base 61 (.slice (some ⟨g, 0, none⟩) l.length cap) l) (hl : l.length ≤ 10000000) (hnd : l.Nodup) :
  Calls Tryz.prog 51 #[.slice (some ⟨g, 0, none⟩) l.length cap, .func (.func 31) #[] #[]] W (scSortR base g cap l W) := by
 have eg : ∀ args w, (callFunc 31 args).run Tryz.prog w = .ok (.enter 31 args) w := enters_of Tryz.func31 (by kernel_rfl) rfl
 have hH := OwnE.holdsK h rfl
 have hblk : g < W.heap.size := (OwnE.lt h g rfl).2
 have hcon := AnyQ.slices_SortFunc sortC 3 Tryz.isAgg61 Tryz.sizeOf61 elP.c (fun _ => rfl) elP.one cmp3 cmp3_swo 31 #[] g 0 cap l.toArray W eg (fun _ _ _ _ x y => cmp3c_any x y _) hH hblk (by simp; omega)
 change Calls Tryz.prog 51 _ _ _ at hcon
 have hs0 : l.toArray.size = l.length := by simp
 rw [hs0] at hcon
 refine hcon.mono ?_
 rintro e W' ⟨rfl, d', n, os, hp, hs, rfl⟩
 obtain ⟨p1, -, p3⟩ := hp
 have hd : d'.size = l.length := by rw [p1, hs0]
 obtain ⟨o1, o2⟩ := OwnE.sortK h rfl d' hd n os
 have hperm : d'.toList.Perm l := by
  have e1 : (d'.extract 0 l.length) = d' := by rw [← hd]; exact Array.extract_size
  have e2 : (l.toArray.extract 0 l.length) = l.toArray := by rw [← hs0]; exact Array.extract_size
  rw [e1, e2] at p3
  exact p3
 have hnd' : d'.toList.Nodup := hperm.nodup_iff.2 hnd
 refine ⟨d'.toList, rfl, hperm, List.pairwise_iff_getElem.2 fun i j hi hj hij => ?_, o1, o2⟩
 have hjl : j < d'.size := by simpa using hj
 have h1 := hs i j (Nat.zero_le _) hij (by rw [← hd]; exact hjl)
 rw [cmp3_lt, decide_eq_false_iff_not] at h1
 rw [getElem!_pos d' j hjl, getElem!_pos d' i (by omega)] at h1
 have e1 : d'.toList[i] = d'[i]'(by omega) := by simp
 have e2 : d'.toList[j] = d'[j] := by simp
 rw [e1, e2]
 rcases sto3.tri (d'[i]'(by omega)) d'[j] with h2 | h2 | h2
 ·exact h2
 ·exfalso
  rw [← e1, ← e2] at h2
  have := (List.getElem_inj hnd').1 h2
  omega
 ·exact absurd h2 h1
theorem scSort_nil (fv : Value) (c : Nat) (W : World) :
  Calls Tryz.prog 51 #[.slice none 0 c, fv] W fun e W' => e = .returned (.tuple #[]) ∧ W' = W := AnyF.slices_SortFunc_none sortC none c fv W
theorem ckKeyed : Keyed Tryz.prog 61 := Keyed.of_law (deep_law_laid laidOut (m := 2) (by omega) (of_decide_eq_true (by kernel_rfl)) (by kernel_rfl) (by rw [Tryz.underlying61]))
theorem ckWf (x : Int × Int × Int) (h : inI x.1 ∧ inI x.2.1 ∧ inI x.2.2) : ∃ kl, keyOf Tryz.prog 61 (pv x) = some kl := by
 obtain ⟨x1, x2, x3⟩ := x
 obtain ⟨h1, h2, h3⟩ := h
 have wf : ∀ x : Int, inI x → (Lit.int .i64 x).wf = true := fun x hx => WalkArith.wf_i64 (by unfold inI at hx; omega)
 have wi : ∀ (d : Nat) (x : Int), inI x → Tryz.prog.keyLits (d + 1) 3 [.int .i64 x] = some [.int .i64 x] := fun d x hx => by
  simp [Program.keyLits, Tryz.underlying3, wf x hx]
 have hsz : ∃ d, Tryz.prog.types.size + 1 = d + 2 := ⟨Tryz.prog.types.size - 1, by have : 0 < Tryz.prog.types.size := of_decide_eq_true (by kernel_rfl); omega⟩
 obtain ⟨d, hd⟩ := hsz
 have ktype : Tryz.prog.keyType 61 = true := by kernel_rfl
 have cellsK : Tryz.prog.cellsOf 61 = 3 := by kernel_rfl
 unfold keyOf
 rw [Tryz.underlying61, hd]
 simp only [ktype, Bool.true_and]
 have hf : (Value.agg #[.int .i64 x1, .int .i64 x2, .int .i64 x3]).formed Tryz.prog 61 = true := by simp [Value.formed, Tryz.underlying61, cellsK]
 rw [if_pos hf]
 unfold Program.keyLits
 simp only [Tryz.underlying61]
 simp [cellsK, cI, wi, h1, h2, h3, Value.cells]
def ascCR (l : List (Int × Int × Int)) (W : World) (e : Ending) (W' : World) : Prop := ∃ a c L, e = .returned (.slice a L.length c) ∧ OwnE elP W' W.heap.size 61 (.slice a L.length c) L ∧ L.Pairwise lt3 ∧ (∀ x, x ∈ L ↔ x ∈ l) ∧ Below W.heap.size W W'
def elCF : El (Int × ByteArray × Int) := ⟨3, fun x => [.int .i64 x.1, .string x.2.1, .int .i64 x.2.2], fun _ => rfl, fun x v hv => by simp at hv; rcases hv with rfl | rfl | rfl <;> rfl, by omega⟩
theorem cmpF_lt (x y : Int × ByteArray × Int) : ltOf cmpF x y = decide (ltF x y) := by
 unfold ltOf
 by_cases h : ltF x y
 ·simp [h, (cmpF_neg x y).2 h]
 ·simp [h]
  have := mt (cmpF_neg x y).1 h
  omega
theorem cmpF_swo : SWO (ltOf cmpF) where
 irrefl x := by rw [cmpF_lt]; simpa using stoF.irrefl x
 trans x y z h1 h2 := by rw [cmpF_lt] at *; simp only [decide_eq_true_eq] at *; exact stoF.trans h1 h2
 ntrans x y z h1 h2 := by
  rw [cmpF_lt] at *
  simp only [decide_eq_false_iff_not] at *
  intro h3
  rcases stoF.tri y x with h4 | h4 | h4
  ·exact h2 (stoF.trans h4 h3)
  ·subst h4; exact h2 h3
  ·exact h1 h4
theorem sCf : SliceOf Tryz.prog 51 54 (.agg #[.int .i64 0, .string ⟨#[]⟩, .int .i64 0]) 3 32 := ⟨Tryz.underlying51, info_parts (P := Tryz.prog) (e := 54) (by kernel_rfl)⟩
def sfSortR (base g cap : Nat) (l : List (Int × ByteArray × Int)) (W : World) (e : Ending) (W' : World) : Prop := ∃ l' : List (Int × ByteArray × Int), e = .returned (.tuple #[]) ∧ l'.Perm l ∧ l'.Pairwise ltF ∧ OwnE elCF W' base 54 (.slice (some ⟨g, 0, none⟩) l.length cap) l' ∧ W.grownBy W' (some g)
set_option maxHeartbeats 1600000 in
theorem sfSort_any (base g cap : Nat) (l : List (Int × ByteArray × Int)) (W : World) (h : OwnE elCF W base 54 (.slice (some ⟨g, 0, none⟩) l.length cap) l) (hl : l.length ≤ 10000000) (hnd : l.Nodup) :
  Calls Tryz.prog 49 #[.slice (some ⟨g, 0, none⟩) l.length cap, .func (.func 27) #[] #[]] W (sfSortR base g cap l W) := by
 have eg : ∀ args w, (callFunc 27 args).run Tryz.prog w = .ok (.enter 27 args) w := enters_of Tryz.func27 (by kernel_rfl) rfl
 have hH := OwnE.holdsK h rfl
 have hblk : g < W.heap.size := (OwnE.lt h g rfl).2
 have hcon := AnyQ.slices_SortFunc sortF 3 Tryz.isAgg54 Tryz.sizeOf54 elCF.c (fun _ => rfl) elCF.one cmpF cmpF_swo 27 #[] g 0 cap l.toArray W eg (fun _ _ _ _ x y => cmpF_any x y _) hH hblk (by simp; omega)
 change Calls Tryz.prog 49 _ _ _ at hcon
 have hs0 : l.toArray.size = l.length := by simp
 rw [hs0] at hcon
 refine hcon.mono ?_
 rintro e W' ⟨rfl, d', n, os, hp, hs, rfl⟩
 obtain ⟨p1, -, p3⟩ := hp
 have hd : d'.size = l.length := by rw [p1, hs0]
 obtain ⟨o1, o2⟩ := OwnE.sortK h rfl d' hd n os
 have hperm : d'.toList.Perm l := by
  have e1 : (d'.extract 0 l.length) = d' := by rw [← hd]; exact Array.extract_size
  have e2 : (l.toArray.extract 0 l.length) = l.toArray := by rw [← hs0]; exact Array.extract_size
  rw [e1, e2] at p3
  exact p3
 have hnd' : d'.toList.Nodup := hperm.nodup_iff.2 hnd
 refine ⟨d'.toList, rfl, hperm, List.pairwise_iff_getElem.2 fun i j hi hj hij => ?_, o1, o2⟩
 have hjl : j < d'.size := by simpa using hj
 have h1 := hs i j (Nat.zero_le _) hij (by rw [← hd]; exact hjl)
 rw [cmpF_lt, decide_eq_false_iff_not] at h1
 rw [getElem!_pos d' j hjl, getElem!_pos d' i (by omega)] at h1
 have e1 : d'.toList[i] = d'[i]'(by omega) := by simp
 have e2 : d'.toList[j] = d'[j] := by simp
 rw [e1, e2]
 rcases stoF.tri (d'[i]'(by omega)) d'[j] with h2 | h2 | h2
 ·exact h2
 ·exfalso
  rw [← e1, ← e2] at h2
  have := (List.getElem_inj hnd').1 h2
  omega
 ·exact absurd h2 h1
theorem sfSort_nil (fv : Value) (c : Nat) (W : World) :
  Calls Tryz.prog 49 #[.slice none 0 c, fv] W fun e W' => e = .returned (.tuple #[]) ∧ W' = W := AnyF.slices_SortFunc_none sortF none c fv W
theorem fkKeyed : Keyed Tryz.prog 54 := Keyed.of_law (deep_law_laid laidOut (m := 2) (by omega) (of_decide_eq_true (by kernel_rfl)) (by kernel_rfl) (by rw [Tryz.underlying54]))
theorem fkWf (x : Int × ByteArray × Int) (h : inI x.1 ∧ x.2.1.size ≤ maxLen ∧ inI x.2.2) : ∃ kl, keyOf Tryz.prog 54 (cv x) = some kl := by
 obtain ⟨x1, x2, x3⟩ := x
 obtain ⟨h1, h2, h3⟩ := h
 have wf : ∀ x : Int, inI x → (Lit.int .i64 x).wf = true := fun x hx => WalkArith.wf_i64 (by unfold inI at hx; omega)
 have wi : ∀ (d : Nat) (x : Int), inI x → Tryz.prog.keyLits (d + 1) 3 [.int .i64 x] = some [.int .i64 x] := fun d x hx => by
  simp [Program.keyLits, Tryz.underlying3, wf x hx]
 have ws : ∀ (d : Nat) (x : ByteArray), x.size ≤ maxLen → Tryz.prog.keyLits (d + 1) 9 [.string x] = some [.string x.data.toList] := fun d x hx => by
  simp [Program.keyLits, Tryz.underlying9, hx]
 have hsz : ∃ d, Tryz.prog.types.size + 1 = d + 2 := ⟨Tryz.prog.types.size - 1, by have : 0 < Tryz.prog.types.size := of_decide_eq_true (by kernel_rfl); omega⟩
 obtain ⟨d, hd⟩ := hsz
 have ktype : Tryz.prog.keyType 54 = true := by kernel_rfl
 have cellsK : Tryz.prog.cellsOf 54 = 3 := by kernel_rfl
 have cellsS : Tryz.prog.cellsOf 9 = 1 := by kernel_rfl
 unfold keyOf
 rw [Tryz.underlying54, hd]
 simp only [ktype, Bool.true_and]
 have hf : (Value.agg #[.int .i64 x1, .string x2, .int .i64 x3]).formed Tryz.prog 54 = true := by simp [Value.formed, Tryz.underlying54, cellsK]
 rw [if_pos hf]
 unfold Program.keyLits
 simp only [Tryz.underlying54]
 simp [cellsK, cI, cellsS, wi, ws, h1, h2, h3, Value.cells]
theorem cv_inj {x y : Int × ByteArray × Int} (h : cv x = cv y) : x = y := by
 obtain ⟨x1, x2, x3⟩ := x
 obtain ⟨y1, y2, y3⟩ := y
 simp [cv] at h
 simp [h]
def ascFR (l : List (Int × ByteArray × Int)) (W : World) (e : Ending) (W' : World) : Prop := ∃ a c L, e = .returned (.slice a L.length c) ∧ OwnE elCF W' W.heap.size 54 (.slice a L.length c) L ∧ L.Pairwise ltF ∧ (∀ x, x ∈ L ↔ x ∈ l) ∧ Below W.heap.size W W'
end Go.Proofs.YtnklnklkblgnfaaGreat
end
section
namespace Go.Proofs.YtnklnklkblgnfaaGreat
open Go.RowKit Go.Dfl Go.Gra Go.Obs Go.Sort Go.Maps
theorem nodup_le' {α : Type} [DecidableEq α] {l m : List α} (hl : l.Nodup) (h : ∀ x ∈ l, x ∈ m) : l.length ≤ m.length := by
 induction l generalizing m with
 | nil => simp
 | cons a l ih =>
   rw [List.nodup_cons] at hl
   have := ih hl.2 (m := m.erase a) fun x hx => (List.mem_erase_of_ne (fun e => hl.1 (by rw [← e]; exact hx))).2 (h x (by simp [hx]))
   rw [List.length_erase_of_mem (h a (by simp))] at this
   have := List.length_pos_of_mem (h a (by simp))
   simp; omega
theorem nodup_snoc {α : Type} {l : List α} {x : α} (h : l.Nodup) (hx : x ∉ l) : (l ++ [x]).Nodup := by
 rw [List.nodup_append]
 exact ⟨h, by simp, fun a ha b hb => by rw [List.mem_singleton.1 hb]; exact fun e => hx (e ▸ ha)⟩
theorem _root_.Go.Dfl.OwnE.shape2 {α : Type} {E : El α} {w : World} {base : Nat} {e : TypeId} {a : Option Addr} {c : Nat} {l : List α} (h : OwnE E w base e (.slice a l.length c) l) : (a = none ∧ l = [] ∧ c = 0) ∨ ∃ g, a = some ⟨g, 0, none⟩ := by
 obtain ⟨h1, ⟨h2, h3⟩ | ⟨g, cap, cur, hv, r⟩⟩ := h
 ·simp only [Value.slice.injEq] at h2
  exact .inl ⟨h2.1, List.eq_nil_of_length_eq_zero h3, h2.2.2⟩
 ·simp only [Value.slice.injEq] at hv
  exact .inr ⟨g, hv.1⟩
theorem _root_.Go.World.size_alloc' (w : World) (o : Obj) : (w.alloc o).heap.size = w.heap.size + 1 := World.size_alloc _ _
set_option maxHeartbeats 3200000 in
set_option maxRecDepth 100000 in
theorem ascP_any (b n : Nat) (l : List (Int × Int × Int)) (W : World) (h : SetT Tryz.prog 41 4 W b n (l.map pv)) (hn : n ≤ 2000000) (hln : l.length ≤ 2000000) (hw : ∀ x ∈ l, inI x.1 ∧ inI x.2.1 ∧ inI x.2.2) :
  Calls Tryz.prog 18 #[.map (some b), .func (.func 19) #[] #[]] W (ascPR l W) := by
 have H0 := Lib.hid (And.intro h (And.intro h.lt hln))
 have HW := Lib.hid hw
 obtain ⟨m, hm, hlen⟩ := h.len (t := 88) Tryz.underlying88
 clear h hw hln
 go_enter Tryz.func18, Tryz.ntmps18
 go_wp2_with (at_make; refine wp_make0 (E := elP) sPf _ rfl _ _ rfl .i64 .i64 m rfl rfl (by omega) (by unfold maxLen; omega) ?_)
 intro W1 hown hb1
 have hbz := hb1.size
 have H1 := Lib.hid (And.intro hown (And.intro hb1 (H0.out.1.kept (grownBy_below hb1) (by simp))))
 clear hown hb1 hlen
 go_wp2_with (at_range; refine wp_setRange H1.out.2.2 rfl _ rfl pkKeyed Tryz.underlying88 rfl ?_; intro W2 cnt hr hg2 hs2; have H2 := Lib.hid (And.intro hr (And.intro hg2 hs2)); clear hr hg2 hs2)
 go_frame
 obtain ⟨r, hr⟩ : ∃ r, r = W1.heap.size := ⟨_, rfl⟩
 obtain ⟨B, hB⟩ : ∃ B, B = W.heap.size := ⟨_, rfl⟩
 have H3 : Hid (RngT Tryz.prog 41 4 W2 b r n (l.map pv) ([].map pv) cnt ∧ OwnE elP W2 B 41 (.slice (some ⟨B, 0, none⟩) 0 m) [] ∧ Below B W W2 ∧ B ≤ W2.heap.size) := Lib.hid (by
  rw [hr, hB]
  have h9 := H1.out.2.1.grown H2.out.2.1 H1.out.2.1.size (by simp)
  exact ⟨H2.out.1, H1.out.1.grown H2.out.2.1 (.inr (by simp [Value.ownBlock])), h9, h9.size⟩)
 have HR := Lib.hid (And.intro hr (And.intro hB (show b < B ∧ B < r by
  rw [hr, hB]
  exact ⟨H0.out.2.1, (OwnE.lt H1.out.1 _ rfl).2⟩)))
 rw [← hr, ← hB]
 clear hr hB H1 H2
 go_loopw [5] (fun v wr => ∃ (S : List (Int × Int × Int)) (a : Option Addr) (c cnt : Nat), v = .slice a S.length c ∧ Hid (RngT Tryz.prog 41 4 wr b r n (l.map pv) (S.map pv) cnt ∧ OwnE elP wr B 41 (.slice a S.length c) S ∧ Below B W wr ∧ S.Nodup ∧ (∀ x ∈ S, x ∈ l) ∧ (∀ q, (Value.slice a S.length c).ownBlock = some q → q ≠ r))) (fun _ wr => wr.rangeLeft b r)
 case atStart => exact ⟨[], some ⟨B, 0, none⟩, m, cnt, rfl, H3.out.1, H3.out.2.1, H3.out.2.2.1, List.nodup_nil, by simp, fun q hq => by have := HR.out.2.2.2; simp [Value.ownBlock] at hq; omega⟩
 case round =>
  obtain ⟨S, a, c, cnt, rfl, hh⟩ := hrel
  have HL := Lib.hid hh.out
  have hrg := hh.out.1
  clear hh
  go_upto_region 5 with (at_next; refine wp_setNext3 pv (fun _ _ _ => rfl) HL.out.1 rfl _ rfl pkKeyed Tryz.underlying4 rfl (fun HD => ?_) (fun x1 x2 x3 cb W3 HN hen => ?_); all_goals clear hrg)
  ·have hmem : ∀ x, x ∈ S ↔ x ∈ l := fun x => ⟨HL.out.2.2.2.2.1 x, fun hx => by
    obtain ⟨y, hy, he⟩ := List.mem_map.1 (HD.out x (pkWf x (HW.out x hx)) hx)
    rw [← pv_inj he]; exact hy⟩
   have hSl : S.length ≤ 2000000 := Nat.le_trans (nodup_le' HL.out.2.2.2.1 HL.out.2.2.2.2.1) H0.out.2.2
   have HM := Lib.hid hmem
   have hB := HR.out.2.1
   have HF : Hid (Below W.heap.size W wr) := Lib.hid (hB ▸ HL.out.2.2.1)
   have hown := HL.out.2.1
   rw [hB] at hown
   clear hmem
   rcases hown.shape2 with ⟨rfl, hz, rfl⟩ | ⟨g, rfl⟩
   ·have HZ := Lib.hid hz
    have hl0 : S.length = 0 := by rw [hz]; rfl
    rw [hl0]
    refine (spSort_nil _ _ wr).mono ?_
    rintro e W5 ⟨rfl, rfl⟩
    clear hown hB hz hl0
    go_wp2_with fail
    go_ret
    exact ⟨none, 0, S, by rw [HZ.out]; rfl, by rw [HZ.out]; exact Go.Dfl.OwnE.nil _ _ _ _, by rw [HZ.out]; exact List.Pairwise.nil, HM.out, HF.out⟩
   ·have hs := spSort_any W.heap.size g c S wr hown (by omega) HL.out.2.2.2.1
    have hg := (OwnE.lt hown g rfl).1
    have HG := Lib.hid hg
    clear hown hB hg
    refine hs.mono ?_
    rintro e W5 ⟨L, rfl, hp, hpw, ho, hgr⟩
    have hlen := hp.length_eq
    have H5 := Lib.hid (And.intro hp (And.intro hpw (And.intro ho (And.intro (HF.out.grown hgr HF.out.size (fun q e9 => by have := HG.out; have := Option.some.inj e9; omega)) hlen))))
    clear hs hp hpw ho hgr hlen
    go_wp2_with fail
    go_ret
    exact ⟨some ⟨g, 0, none⟩, c, L, by rw [H5.out.2.2.2.2]; rfl, by rw [H5.out.2.2.2.2]; exact H5.out.2.2.1, H5.out.2.1, fun x => by rw [H5.out.1.mem_iff]; exact HM.out x, H5.out.2.2.2.1⟩
  ·obtain ⟨cnt3, k1, k2, k3, k4, k5, k6⟩ := HN.out
   have hSl : (S ++ [(x1, x2, x3)]).length ≤ 2000000 := Nat.le_trans (nodup_le' (nodup_snoc HL.out.2.2.2.1 k2) (fun y hy => by
    rcases List.mem_append.1 hy with hy | hy
    ·exact HL.out.2.2.2.2.1 y hy
    ·rw [List.mem_singleton.1 hy]; exact k1)) H0.out.2.2
   rw [List.length_append, List.length_singleton] at hSl
   have hown : OwnE elP W3 B 41 (.slice a S.length c) S := HL.out.2.1.grown k5 (by
    cases hq : (Value.slice a S.length c).ownBlock with
    | none => exact .inl rfl
    | some q => exact .inr fun e9 => HL.out.2.2.2.2.2 q hq (Option.some.inj e9))
   have hBz : B ≤ wr.heap.size := by rw [HR.out.2.1]; exact HL.out.2.2.1.size
   have hBz3 : B ≤ W3.heap.size := by rw [k6]; exact hBz
   have hbel : Below B W W3 := HL.out.2.2.1.grown k5 hBz (fun q e9 => by have := HR.out.2.2.2; have := Option.some.inj e9; omega)
   have hbA := hbel.alloc hBz3 (.cells #[.int .i64 x1, .int .i64 x2, .int .i64 x3] 41)
   have hrl := k3.lt
   have hbx := cells_new (W := W3) (cs := [.int .i64 x1, .int .i64 x2, .int .i64 x3]) (t := 41) rfl
   have hA : RngT Tryz.prog 41 4 (W3.alloc (.cells #[.int .i64 x1, .int .i64 x2, .int .i64 x3] 41)) b r n (l.map pv) ((S ++ [(x1, x2, x3)]).map pv) cnt3 ∧ OwnE elP (W3.alloc (.cells #[.int .i64 x1, .int .i64 x2, .int .i64 x3] 41)) B 41 (.slice a S.length c) S ∧ Below B W (W3.alloc (.cells #[.int .i64 x1, .int .i64 x2, .int .i64 x3] 41)) ∧ ((W3.alloc (.cells #[.int .i64 x1, .int .i64 x2, .int .i64 x3] 41)).cell? ⟨W3.heap.size, 0, none⟩ = some (.int .i64 x1) ∧ (W3.alloc (.cells #[.int .i64 x1, .int .i64 x2, .int .i64 x3] 41)).cell? ⟨W3.heap.size, 1, none⟩ = some (.int .i64 x2) ∧ (W3.alloc (.cells #[.int .i64 x1, .int .i64 x2, .int .i64 x3] 41)).cell? ⟨W3.heap.size, 2, none⟩ = some (.int .i64 x3)) ∧ r < (W3.alloc (.cells #[.int .i64 x1, .int .i64 x2, .int .i64 x3] 41)).heap.size :=
    ⟨k3.kept (grownBy_alloc _ _) (by simp) (by simp), hown.grown (grownBy_alloc _ _) (by cases (Value.slice a S.length c).ownBlock <;> simp), hbA, ⟨hbx 0 _ rfl, hbx 1 _ rfl, hbx 2 _ rfl⟩, by rw [World.size_alloc]; have := k3.lt.1; omega⟩
   have HN2 := Lib.hid (And.intro k1 (And.intro k2 k4))
   clear k1 k2 k4 k5 k6 hown hbel hbA hbx HN k3 hrl hen
   refine gen_code (fun Z => RngT Tryz.prog 41 4 Z b r n (l.map pv) ((S ++ [(x1, x2, x3)]).map pv) cnt3 ∧ OwnE elP Z B 41 (.slice a S.length c) S ∧ Below B W Z ∧ (Z.cell? ⟨W3.heap.size, 0, none⟩ = some (.int .i64 x1) ∧ Z.cell? ⟨W3.heap.size, 1, none⟩ = some (.int .i64 x2) ∧ Z.cell? ⟨W3.heap.size, 2, none⟩ = some (.int .i64 x3)) ∧ r < Z.heap.size) hA ?_
   intro Z hz
   obtain ⟨bx, hbx⟩ : ∃ q, q = W3.heap.size := ⟨_, rfl⟩
   rw [← hbx] at hz ⊢
   obtain ⟨z1, z2, z3⟩ := hz.2.2.2.1
   have HZ := Lib.hid hz
   have hsz : B ≤ Z.heap.size := by rw [HR.out.2.1]; exact hz.2.2.1.size
   have hlen1 : (S.length + 1) * 24 ≤ 140737488355328 := by omega
   have hlen2 : S.length + 1 ≤ 1000000000000 := by omega
   have HO9 := Lib.hid (OwnE.grown hz.2.1 (grownBy_alloc Z (.cells #[.int .i64 x1, .int .i64 x2, .int .i64 x3] 41)) (by cases (Value.slice a S.length c).ownBlock <;> simp))
   clear hA hz hbx hBz hBz3
   go_wp2_with (at_builtin; refine wp_appendE (E := elP) sPf rfl rfl _ _ rfl (v := .slice a S.length c) (l := S) (base := B) rfl Z.heap.size rfl HO9.out (x1, x2, x3) (cells_new (W := Z) (cs := [.int .i64 x1, .int .i64 x2, .int .i64 x3]) (t := 41) rfl) hlen1 hlen2 (le_alloc _ hsz) ?_; intro v' w3 hown hgr hat; obtain ⟨s9, c9, rfl⟩ := hown.shape (n := S.length + 1) (by rw [List.length_append]; rfl); have HO := Lib.hid (And.intro hown (And.intro hgr hat)); clear hown hgr hat)
   have hne : ∀ q, (Value.slice a S.length c).ownBlock = some q → q ≠ r := HL.out.2.2.2.2.2
   have hrk : RngT Tryz.prog 41 4 w3 b r n (l.map pv) ((S ++ [(x1, x2, x3)]).map pv) cnt3 := (HZ.out.1.kept (grownBy_alloc _ _) (by simp) (by simp)).kept HO.out.2.1 (fun e9 => by
    have := (HL.out.2.1.lt b e9.symm).1; have := HR.out.2.2.1; omega) (fun e9 => hne r e9.symm rfl)
   have hb3 : Below B W w3 := (HZ.out.2.2.1.alloc hsz _).grown HO.out.2.1 (by rw [World.size_alloc]; omega) (fun q e9 => (HL.out.2.1.lt q e9).1)
   have HK := Lib.hid (And.intro hrk hb3)
   have hnq : ∀ q, (Value.slice s9 (S.length + 1) c9).ownBlock = some q → q ≠ r := fun q e9 => by
    rcases HO.out.2.2 with h9 | h9
    ·exact hne q (by rw [← h9]; exact e9)
    ·rw [h9, World.size_alloc'] at e9
     have := HZ.out.2.2.2.2; have := Option.some.inj e9; omega
   have HQ := Lib.hid hnq
   clear hne hrk hb3 hnq
   go_roundw
   case rel => exact ⟨S ++ [(x1, x2, x3)], s9, c9, cnt3, by rw [List.length_append]; rfl, HK.out.1, by rw [List.length_append]; exact HO.out.1, HK.out.2, nodup_snoc HL.out.2.2.2.1 HN2.out.2.1, fun y hy => by
    rcases List.mem_append.1 hy with hy | hy
    ·exact HL.out.2.2.2.2.1 y hy
    ·rw [List.mem_singleton.1 hy]; exact HN2.out.1, by rw [List.length_append]; exact HQ.out⟩
   case measure => rw [HK.out.1.left_eq, HL.out.1.left_eq]; exact HN2.out.2.2
set_option maxHeartbeats 3200000 in
set_option maxRecDepth 100000 in
theorem ascN_any (b n : Nat) (l : List (Int × Int × Int × Int)) (W : World) (h : SetT Tryz.prog 84 4 W b n (l.map nv)) (hn : n ≤ 2000000) (hln : l.length ≤ 2000000) (hw : ∀ x ∈ l, inI x.1 ∧ inI x.2.1 ∧ inI x.2.2.1 ∧ inI x.2.2.2) :
  Calls Tryz.prog 43 #[.map (some b), .func (.func 44) #[] #[]] W (ascNR l W) := by
 have H0 := Lib.hid (And.intro h (And.intro h.lt hln))
 have HW := Lib.hid hw
 obtain ⟨m, hm, hlen⟩ := h.len (t := 119) Tryz.underlying119
 clear h hw hln
 go_enter Tryz.func43, Tryz.ntmps43
 go_wp2_with (at_make; refine wp_make0 (E := elN) sNf _ rfl _ _ rfl .i64 .i64 m rfl rfl (by omega) (by unfold maxLen; omega) ?_)
 intro W1 hown hb1
 have hbz := hb1.size
 have H1 := Lib.hid (And.intro hown (And.intro hb1 (H0.out.1.kept (grownBy_below hb1) (by simp))))
 clear hown hb1 hlen
 go_wp2_with (at_range; refine wp_setRange H1.out.2.2 rfl _ rfl nkKeyed Tryz.underlying119 rfl ?_; intro W2 cnt hr hg2 hs2; have H2 := Lib.hid (And.intro hr (And.intro hg2 hs2)); clear hr hg2 hs2)
 go_frame
 obtain ⟨r, hr⟩ : ∃ r, r = W1.heap.size := ⟨_, rfl⟩
 obtain ⟨B, hB⟩ : ∃ B, B = W.heap.size := ⟨_, rfl⟩
 have H3 : Hid (RngT Tryz.prog 84 4 W2 b r n (l.map nv) ([].map nv) cnt ∧ OwnE elN W2 B 84 (.slice (some ⟨B, 0, none⟩) 0 m) [] ∧ Below B W W2 ∧ B ≤ W2.heap.size) := Lib.hid (by
  rw [hr, hB]
  have h9 := H1.out.2.1.grown H2.out.2.1 H1.out.2.1.size (by simp)
  exact ⟨H2.out.1, H1.out.1.grown H2.out.2.1 (.inr (by simp [Value.ownBlock])), h9, h9.size⟩)
 have HR := Lib.hid (And.intro hr (And.intro hB (show b < B ∧ B < r by
  rw [hr, hB]
  exact ⟨H0.out.2.1, (OwnE.lt H1.out.1 _ rfl).2⟩)))
 rw [← hr, ← hB]
 clear hr hB H1 H2
 go_loopw [5] (fun v wr => ∃ (S : List (Int × Int × Int × Int)) (a : Option Addr) (c cnt : Nat), v = .slice a S.length c ∧ Hid (RngT Tryz.prog 84 4 wr b r n (l.map nv) (S.map nv) cnt ∧ OwnE elN wr B 84 (.slice a S.length c) S ∧ Below B W wr ∧ S.Nodup ∧ (∀ x ∈ S, x ∈ l) ∧ (∀ q, (Value.slice a S.length c).ownBlock = some q → q ≠ r))) (fun _ wr => wr.rangeLeft b r)
 case atStart => exact ⟨[], some ⟨B, 0, none⟩, m, cnt, rfl, H3.out.1, H3.out.2.1, H3.out.2.2.1, List.nodup_nil, by simp, fun q hq => by have := HR.out.2.2.2; simp [Value.ownBlock] at hq; omega⟩
 case round =>
  obtain ⟨S, a, c, cnt, rfl, hh⟩ := hrel
  have HL := Lib.hid hh.out
  have hrg := hh.out.1
  clear hh
  go_upto_region 5 with (at_next; refine wp_setNext4 nv (fun _ _ _ _ => rfl) HL.out.1 rfl _ rfl nkKeyed Tryz.underlying4 rfl (fun HD => ?_) (fun x1 x2 x3 x4 cb W3 HN hen => ?_); all_goals clear hrg)
  ·have hmem : ∀ x, x ∈ S ↔ x ∈ l := fun x => ⟨HL.out.2.2.2.2.1 x, fun hx => by
    obtain ⟨y, hy, he⟩ := List.mem_map.1 (HD.out x (nkWf x (HW.out x hx)) hx)
    rw [← nv_inj he]; exact hy⟩
   have hSl : S.length ≤ 2000000 := Nat.le_trans (nodup_le' HL.out.2.2.2.1 HL.out.2.2.2.2.1) H0.out.2.2
   have HM := Lib.hid hmem
   have hB := HR.out.2.1
   have HF : Hid (Below W.heap.size W wr) := Lib.hid (hB ▸ HL.out.2.2.1)
   have hown := HL.out.2.1
   rw [hB] at hown
   clear hmem
   rcases hown.shape2 with ⟨rfl, hz, rfl⟩ | ⟨g, rfl⟩
   ·have HZ := Lib.hid hz
    have hl0 : S.length = 0 := by rw [hz]; rfl
    rw [hl0]
    refine (snSort_nil _ _ wr).mono ?_
    rintro e W5 ⟨rfl, rfl⟩
    clear hown hB hz hl0
    go_wp2_with fail
    go_ret
    exact ⟨none, 0, S, by rw [HZ.out]; rfl, by rw [HZ.out]; exact Go.Dfl.OwnE.nil _ _ _ _, by rw [HZ.out]; exact List.Pairwise.nil, HM.out, HF.out⟩
   ·have hs := snSort_any W.heap.size g c S wr hown (by omega) HL.out.2.2.2.1
    have hg := (OwnE.lt hown g rfl).1
    have HG := Lib.hid hg
    clear hown hB hg
    refine hs.mono ?_
    rintro e W5 ⟨L, rfl, hp, hpw, ho, hgr⟩
    have hlen := hp.length_eq
    have H5 := Lib.hid (And.intro hp (And.intro hpw (And.intro ho (And.intro (HF.out.grown hgr HF.out.size (fun q e9 => by have := HG.out; have := Option.some.inj e9; omega)) hlen))))
    clear hs hp hpw ho hgr hlen
    go_wp2_with fail
    go_ret
    exact ⟨some ⟨g, 0, none⟩, c, L, by rw [H5.out.2.2.2.2]; rfl, by rw [H5.out.2.2.2.2]; exact H5.out.2.2.1, H5.out.2.1, fun x => by rw [H5.out.1.mem_iff]; exact HM.out x, H5.out.2.2.2.1⟩
  ·obtain ⟨cnt3, k1, k2, k3, k4, k5, k6⟩ := HN.out
   have hSl : (S ++ [(x1, x2, x3, x4)]).length ≤ 2000000 := Nat.le_trans (nodup_le' (nodup_snoc HL.out.2.2.2.1 k2) (fun y hy => by
    rcases List.mem_append.1 hy with hy | hy
    ·exact HL.out.2.2.2.2.1 y hy
    ·rw [List.mem_singleton.1 hy]; exact k1)) H0.out.2.2
   rw [List.length_append, List.length_singleton] at hSl
   have hown : OwnE elN W3 B 84 (.slice a S.length c) S := HL.out.2.1.grown k5 (by
    cases hq : (Value.slice a S.length c).ownBlock with
    | none => exact .inl rfl
    | some q => exact .inr fun e9 => HL.out.2.2.2.2.2 q hq (Option.some.inj e9))
   have hBz : B ≤ wr.heap.size := by rw [HR.out.2.1]; exact HL.out.2.2.1.size
   have hBz3 : B ≤ W3.heap.size := by rw [k6]; exact hBz
   have hbel : Below B W W3 := HL.out.2.2.1.grown k5 hBz (fun q e9 => by have := HR.out.2.2.2; have := Option.some.inj e9; omega)
   have hbA := hbel.alloc hBz3 (.cells #[.int .i64 x1, .int .i64 x2, .int .i64 x3, .int .i64 x4] 84)
   have hrl := k3.lt
   have hbx := cells_new (W := W3) (cs := [.int .i64 x1, .int .i64 x2, .int .i64 x3, .int .i64 x4]) (t := 84) rfl
   have hA : RngT Tryz.prog 84 4 (W3.alloc (.cells #[.int .i64 x1, .int .i64 x2, .int .i64 x3, .int .i64 x4] 84)) b r n (l.map nv) ((S ++ [(x1, x2, x3, x4)]).map nv) cnt3 ∧ OwnE elN (W3.alloc (.cells #[.int .i64 x1, .int .i64 x2, .int .i64 x3, .int .i64 x4] 84)) B 84 (.slice a S.length c) S ∧ Below B W (W3.alloc (.cells #[.int .i64 x1, .int .i64 x2, .int .i64 x3, .int .i64 x4] 84)) ∧ ((W3.alloc (.cells #[.int .i64 x1, .int .i64 x2, .int .i64 x3, .int .i64 x4] 84)).cell? ⟨W3.heap.size, 0, none⟩ = some (.int .i64 x1) ∧ (W3.alloc (.cells #[.int .i64 x1, .int .i64 x2, .int .i64 x3, .int .i64 x4] 84)).cell? ⟨W3.heap.size, 1, none⟩ = some (.int .i64 x2) ∧ (W3.alloc (.cells #[.int .i64 x1, .int .i64 x2, .int .i64 x3, .int .i64 x4] 84)).cell? ⟨W3.heap.size, 2, none⟩ = some (.int .i64 x3) ∧ (W3.alloc (.cells #[.int .i64 x1, .int .i64 x2, .int .i64 x3, .int .i64 x4] 84)).cell? ⟨W3.heap.size, 3, none⟩ = some (.int .i64 x4)) ∧ r < (W3.alloc (.cells #[.int .i64 x1, .int .i64 x2, .int .i64 x3, .int .i64 x4] 84)).heap.size :=
    ⟨k3.kept (grownBy_alloc _ _) (by simp) (by simp), hown.grown (grownBy_alloc _ _) (by cases (Value.slice a S.length c).ownBlock <;> simp), hbA, ⟨hbx 0 _ rfl, hbx 1 _ rfl, hbx 2 _ rfl, hbx 3 _ rfl⟩, by rw [World.size_alloc]; have := k3.lt.1; omega⟩
   have HN2 := Lib.hid (And.intro k1 (And.intro k2 k4))
   clear k1 k2 k4 k5 k6 hown hbel hbA hbx HN k3 hrl hen
   refine gen_code (fun Z => RngT Tryz.prog 84 4 Z b r n (l.map nv) ((S ++ [(x1, x2, x3, x4)]).map nv) cnt3 ∧ OwnE elN Z B 84 (.slice a S.length c) S ∧ Below B W Z ∧ (Z.cell? ⟨W3.heap.size, 0, none⟩ = some (.int .i64 x1) ∧ Z.cell? ⟨W3.heap.size, 1, none⟩ = some (.int .i64 x2) ∧ Z.cell? ⟨W3.heap.size, 2, none⟩ = some (.int .i64 x3) ∧ Z.cell? ⟨W3.heap.size, 3, none⟩ = some (.int .i64 x4)) ∧ r < Z.heap.size) hA ?_
   intro Z hz
   obtain ⟨bx, hbx⟩ : ∃ q, q = W3.heap.size := ⟨_, rfl⟩
   rw [← hbx] at hz ⊢
   obtain ⟨z1, z2, z3, z4⟩ := hz.2.2.2.1
   have HZ := Lib.hid hz
   have hsz : B ≤ Z.heap.size := by rw [HR.out.2.1]; exact hz.2.2.1.size
   have hlen1 : (S.length + 1) * 32 ≤ 140737488355328 := by omega
   have hlen2 : S.length + 1 ≤ 1000000000000 := by omega
   have HO9 := Lib.hid (OwnE.grown hz.2.1 (grownBy_alloc Z (.cells #[.int .i64 x1, .int .i64 x2, .int .i64 x3, .int .i64 x4] 84)) (by cases (Value.slice a S.length c).ownBlock <;> simp))
   clear hA hz hbx hBz hBz3
   go_wp2_with (at_builtin; refine wp_appendE (E := elN) sNf rfl rfl _ _ rfl (v := .slice a S.length c) (l := S) (base := B) rfl Z.heap.size rfl HO9.out (x1, x2, x3, x4) (cells_new (W := Z) (cs := [.int .i64 x1, .int .i64 x2, .int .i64 x3, .int .i64 x4]) (t := 84) rfl) hlen1 hlen2 (le_alloc _ hsz) ?_; intro v' w3 hown hgr hat; obtain ⟨s9, c9, rfl⟩ := hown.shape (n := S.length + 1) (by rw [List.length_append]; rfl); have HO := Lib.hid (And.intro hown (And.intro hgr hat)); clear hown hgr hat)
   have hne : ∀ q, (Value.slice a S.length c).ownBlock = some q → q ≠ r := HL.out.2.2.2.2.2
   have hrk : RngT Tryz.prog 84 4 w3 b r n (l.map nv) ((S ++ [(x1, x2, x3, x4)]).map nv) cnt3 := (HZ.out.1.kept (grownBy_alloc _ _) (by simp) (by simp)).kept HO.out.2.1 (fun e9 => by
    have := (HL.out.2.1.lt b e9.symm).1; have := HR.out.2.2.1; omega) (fun e9 => hne r e9.symm rfl)
   have hb3 : Below B W w3 := (HZ.out.2.2.1.alloc hsz _).grown HO.out.2.1 (by rw [World.size_alloc]; omega) (fun q e9 => (HL.out.2.1.lt q e9).1)
   have HK := Lib.hid (And.intro hrk hb3)
   have hnq : ∀ q, (Value.slice s9 (S.length + 1) c9).ownBlock = some q → q ≠ r := fun q e9 => by
    rcases HO.out.2.2 with h9 | h9
    ·exact hne q (by rw [← h9]; exact e9)
    ·rw [h9, World.size_alloc'] at e9
     have := HZ.out.2.2.2.2; have := Option.some.inj e9; omega
   have HQ := Lib.hid hnq
   clear hne hrk hb3 hnq
   go_roundw
   case rel => exact ⟨S ++ [(x1, x2, x3, x4)], s9, c9, cnt3, by rw [List.length_append]; rfl, HK.out.1, by rw [List.length_append]; exact HO.out.1, HK.out.2, nodup_snoc HL.out.2.2.2.1 HN2.out.2.1, fun y hy => by
    rcases List.mem_append.1 hy with hy | hy
    ·exact HL.out.2.2.2.2.1 y hy
    ·rw [List.mem_singleton.1 hy]; exact HN2.out.1, by rw [List.length_append]; exact HQ.out⟩
   case measure => rw [HK.out.1.left_eq, HL.out.1.left_eq]; exact HN2.out.2.2
end Go.Proofs.YtnklnklkblgnfaaGreat
end
section
namespace Go.Dfl
open Go.RowKit Go.Sort Go.Maps
theorem wp_setNextS {P : Program} {k e : TypeId} {w : World} {b r n cnt : Nat} {ll ss : List (Int × ByteArray × Int)} {ops : Array Oper} {rest : List Oper} {o : Oper} {a : Act} {Q : Exit → Act → World → Prop} (mk : Int × ByteArray × Int → Value) (hmk : ∀ x1 x2 x3, mk (x1, x2, x3) = .agg #[.int .i64 x1, .string x2, .int .i64 x3])
  (h : RngT P k e w b r n (ll.map mk) (ss.map mk) cnt) (hg : o.guard = none) (it : Operand) (hop : o.op = Op.next it false) (K : Keyed P k) (he : P.underlying e = some .bool) (hit : a.eval it = .pointer (some ⟨r, 0, none⟩))
  (hDone : Hid (∀ x, (∃ kl, keyOf P k (mk x) = some kl) → x ∈ ll → mk x ∈ ss.map mk) → wpList P ops Q rest (a.put o.dst (.tuple #[.bool false])) w)
  (hMore : ∀ (x1 : Int) (x2 : ByteArray) (x3 : Int) (c : Bool) (w' : World), Hid (∃ cnt', (x1, x2, x3) ∈ ll ∧ (x1, x2, x3) ∉ ss ∧ RngT P k e w' b r n (ll.map mk) ((ss ++ [(x1, x2, x3)]).map mk) cnt' ∧ cnt' < cnt ∧ w.grownBy w' (some r) ∧ w'.heap.size = w.heap.size) →
   (Instr.entry (.pointer (some ⟨r, 0, none⟩))).run P w' = .ok (.tuple #[.agg #[.int .i64 x1, .string x2, .int .i64 x3], .bool c]) w' → wpList P ops Q rest (a.put o.dst (.tuple #[.bool true, .agg #[.int .i64 x1, .string x2, .int .i64 x3], .bool c])) w') :
  wpList P ops Q (o :: rest) a w := by
 refine wp_setNext h hg it hop K he hit (fun hd => hDone (Lib.hid fun x ⟨kl, hk⟩ hm => hd.out _ kl hk (List.mem_map_of_mem hm))) (fun key c w' hh hen => ?_)
 obtain ⟨cnt', h1, h2, h3, h4⟩ := hh.out
 obtain ⟨⟨x1, x2, x3⟩, hx, rfl⟩ := List.mem_map.1 h1
 rw [hmk] at hen ⊢
 exact hMore x1 x2 x3 c w' (Lib.hid ⟨cnt', hx, fun hs => h2 (List.mem_map_of_mem hs), by rw [List.map_append]; exact h3, h4⟩) hen
end Go.Dfl
namespace Go.Proofs.YtnklnklkblgnfaaGreat
open Go.RowKit Go.Dfl Go.Gra Go.Obs Go.Sort Go.Maps
set_option maxHeartbeats 3200000 in
set_option maxRecDepth 100000 in
theorem ascC_any (b n : Nat) (l : List (Int × Int × Int)) (W : World) (h : SetT Tryz.prog 61 4 W b n (l.map pv)) (hn : n ≤ 2000000) (hln : l.length ≤ 2000000) (hw : ∀ x ∈ l, inI x.1 ∧ inI x.2.1 ∧ inI x.2.2) :
  Calls Tryz.prog 30 #[.map (some b), .func (.func 31) #[] #[]] W (ascCR l W) := by
 have H0 := Lib.hid (And.intro h (And.intro h.lt hln))
 have HW := Lib.hid hw
 obtain ⟨m, hm, hlen⟩ := h.len (t := 107) Tryz.underlying107
 clear h hw hln
 go_enter Tryz.func30, Tryz.ntmps30
 go_wp2_with (at_make; refine wp_make0 (E := elP) sCe _ rfl _ _ rfl .i64 .i64 m rfl rfl (by omega) (by unfold maxLen; omega) ?_)
 intro W1 hown hb1
 have hbz := hb1.size
 have H1 := Lib.hid (And.intro hown (And.intro hb1 (H0.out.1.kept (grownBy_below hb1) (by simp))))
 clear hown hb1 hlen
 go_wp2_with (at_range; refine wp_setRange H1.out.2.2 rfl _ rfl ckKeyed Tryz.underlying107 rfl ?_; intro W2 cnt hr hg2 hs2; have H2 := Lib.hid (And.intro hr (And.intro hg2 hs2)); clear hr hg2 hs2)
 go_frame
 obtain ⟨r, hr⟩ : ∃ r, r = W1.heap.size := ⟨_, rfl⟩
 obtain ⟨B, hB⟩ : ∃ B, B = W.heap.size := ⟨_, rfl⟩
 have H3 : Hid (RngT Tryz.prog 61 4 W2 b r n (l.map pv) ([].map pv) cnt ∧ OwnE elP W2 B 61 (.slice (some ⟨B, 0, none⟩) 0 m) [] ∧ Below B W W2 ∧ B ≤ W2.heap.size) := Lib.hid (by
  rw [hr, hB]
  have h9 := H1.out.2.1.grown H2.out.2.1 H1.out.2.1.size (by simp)
  exact ⟨H2.out.1, H1.out.1.grown H2.out.2.1 (.inr (by simp [Value.ownBlock])), h9, h9.size⟩)
 have HR := Lib.hid (And.intro hr (And.intro hB (show b < B ∧ B < r by
  rw [hr, hB]
  exact ⟨H0.out.2.1, (OwnE.lt H1.out.1 _ rfl).2⟩)))
 rw [← hr, ← hB]
 clear hr hB H1 H2
 go_loopw [5] (fun v wr => ∃ (S : List (Int × Int × Int)) (a : Option Addr) (c cnt : Nat), v = .slice a S.length c ∧ Hid (RngT Tryz.prog 61 4 wr b r n (l.map pv) (S.map pv) cnt ∧ OwnE elP wr B 61 (.slice a S.length c) S ∧ Below B W wr ∧ S.Nodup ∧ (∀ x ∈ S, x ∈ l) ∧ (∀ q, (Value.slice a S.length c).ownBlock = some q → q ≠ r))) (fun _ wr => wr.rangeLeft b r)
 case atStart => exact ⟨[], some ⟨B, 0, none⟩, m, cnt, rfl, H3.out.1, H3.out.2.1, H3.out.2.2.1, List.nodup_nil, by simp, fun q hq => by have := HR.out.2.2.2; simp [Value.ownBlock] at hq; omega⟩
 case round =>
  obtain ⟨S, a, c, cnt, rfl, hh⟩ := hrel
  have HL := Lib.hid hh.out
  have hrg := hh.out.1
  clear hh
  go_upto_region 5 with (at_next; refine wp_setNext3 pv (fun _ _ _ => rfl) HL.out.1 rfl _ rfl ckKeyed Tryz.underlying4 rfl (fun HD => ?_) (fun x1 x2 x3 cb W3 HN hen => ?_); all_goals clear hrg)
  ·have hmem : ∀ x, x ∈ S ↔ x ∈ l := fun x => ⟨HL.out.2.2.2.2.1 x, fun hx => by
    obtain ⟨y, hy, he⟩ := List.mem_map.1 (HD.out x (ckWf x (HW.out x hx)) hx)
    rw [← pv_inj he]; exact hy⟩
   have hSl : S.length ≤ 2000000 := Nat.le_trans (nodup_le' HL.out.2.2.2.1 HL.out.2.2.2.2.1) H0.out.2.2
   have HM := Lib.hid hmem
   have hB := HR.out.2.1
   have HF : Hid (Below W.heap.size W wr) := Lib.hid (hB ▸ HL.out.2.2.1)
   have hown := HL.out.2.1
   rw [hB] at hown
   clear hmem
   rcases hown.shape2 with ⟨rfl, hz, rfl⟩ | ⟨g, rfl⟩
   ·have HZ := Lib.hid hz
    have hl0 : S.length = 0 := by rw [hz]; rfl
    rw [hl0]
    refine (scSort_nil _ _ wr).mono ?_
    rintro e W5 ⟨rfl, rfl⟩
    clear hown hB hz hl0
    go_wp2_with fail
    go_ret
    exact ⟨none, 0, S, by rw [HZ.out]; rfl, by rw [HZ.out]; exact Go.Dfl.OwnE.nil _ _ _ _, by rw [HZ.out]; exact List.Pairwise.nil, HM.out, HF.out⟩
   ·have hs := scSort_any W.heap.size g c S wr hown (by omega) HL.out.2.2.2.1
    have hg := (OwnE.lt hown g rfl).1
    have HG := Lib.hid hg
    clear hown hB hg
    refine hs.mono ?_
    rintro e W5 ⟨L, rfl, hp, hpw, ho, hgr⟩
    have hlen := hp.length_eq
    have H5 := Lib.hid (And.intro hp (And.intro hpw (And.intro ho (And.intro (HF.out.grown hgr HF.out.size (fun q e9 => by have := HG.out; have := Option.some.inj e9; omega)) hlen))))
    clear hs hp hpw ho hgr hlen
    go_wp2_with fail
    go_ret
    exact ⟨some ⟨g, 0, none⟩, c, L, by rw [H5.out.2.2.2.2]; rfl, by rw [H5.out.2.2.2.2]; exact H5.out.2.2.1, H5.out.2.1, fun x => by rw [H5.out.1.mem_iff]; exact HM.out x, H5.out.2.2.2.1⟩
  ·obtain ⟨cnt3, k1, k2, k3, k4, k5, k6⟩ := HN.out
   have hSl : (S ++ [(x1, x2, x3)]).length ≤ 2000000 := Nat.le_trans (nodup_le' (nodup_snoc HL.out.2.2.2.1 k2) (fun y hy => by
    rcases List.mem_append.1 hy with hy | hy
    ·exact HL.out.2.2.2.2.1 y hy
    ·rw [List.mem_singleton.1 hy]; exact k1)) H0.out.2.2
   rw [List.length_append, List.length_singleton] at hSl
   have hown : OwnE elP W3 B 61 (.slice a S.length c) S := HL.out.2.1.grown k5 (by
    cases hq : (Value.slice a S.length c).ownBlock with
    | none => exact .inl rfl
    | some q => exact .inr fun e9 => HL.out.2.2.2.2.2 q hq (Option.some.inj e9))
   have hBz : B ≤ wr.heap.size := by rw [HR.out.2.1]; exact HL.out.2.2.1.size
   have hBz3 : B ≤ W3.heap.size := by rw [k6]; exact hBz
   have hbel : Below B W W3 := HL.out.2.2.1.grown k5 hBz (fun q e9 => by have := HR.out.2.2.2; have := Option.some.inj e9; omega)
   have hbA := hbel.alloc hBz3 (.cells #[.int .i64 x1, .int .i64 x2, .int .i64 x3] 61)
   have hrl := k3.lt
   have hbx := cells_new (W := W3) (cs := [.int .i64 x1, .int .i64 x2, .int .i64 x3]) (t := 61) rfl
   have hA : RngT Tryz.prog 61 4 (W3.alloc (.cells #[.int .i64 x1, .int .i64 x2, .int .i64 x3] 61)) b r n (l.map pv) ((S ++ [(x1, x2, x3)]).map pv) cnt3 ∧ OwnE elP (W3.alloc (.cells #[.int .i64 x1, .int .i64 x2, .int .i64 x3] 61)) B 61 (.slice a S.length c) S ∧ Below B W (W3.alloc (.cells #[.int .i64 x1, .int .i64 x2, .int .i64 x3] 61)) ∧ ((W3.alloc (.cells #[.int .i64 x1, .int .i64 x2, .int .i64 x3] 61)).cell? ⟨W3.heap.size, 0, none⟩ = some (.int .i64 x1) ∧ (W3.alloc (.cells #[.int .i64 x1, .int .i64 x2, .int .i64 x3] 61)).cell? ⟨W3.heap.size, 1, none⟩ = some (.int .i64 x2) ∧ (W3.alloc (.cells #[.int .i64 x1, .int .i64 x2, .int .i64 x3] 61)).cell? ⟨W3.heap.size, 2, none⟩ = some (.int .i64 x3)) ∧ r < (W3.alloc (.cells #[.int .i64 x1, .int .i64 x2, .int .i64 x3] 61)).heap.size :=
    ⟨k3.kept (grownBy_alloc _ _) (by simp) (by simp), hown.grown (grownBy_alloc _ _) (by cases (Value.slice a S.length c).ownBlock <;> simp), hbA, ⟨hbx 0 _ rfl, hbx 1 _ rfl, hbx 2 _ rfl⟩, by rw [World.size_alloc]; have := k3.lt.1; omega⟩
   have HN2 := Lib.hid (And.intro k1 (And.intro k2 k4))
   clear k1 k2 k4 k5 k6 hown hbel hbA hbx HN k3 hrl hen
   refine gen_code (fun Z => RngT Tryz.prog 61 4 Z b r n (l.map pv) ((S ++ [(x1, x2, x3)]).map pv) cnt3 ∧ OwnE elP Z B 61 (.slice a S.length c) S ∧ Below B W Z ∧ (Z.cell? ⟨W3.heap.size, 0, none⟩ = some (.int .i64 x1) ∧ Z.cell? ⟨W3.heap.size, 1, none⟩ = some (.int .i64 x2) ∧ Z.cell? ⟨W3.heap.size, 2, none⟩ = some (.int .i64 x3)) ∧ r < Z.heap.size) hA ?_
   intro Z hz
   obtain ⟨bx, hbx⟩ : ∃ q, q = W3.heap.size := ⟨_, rfl⟩
   rw [← hbx] at hz ⊢
   obtain ⟨z1, z2, z3⟩ := hz.2.2.2.1
   have HZ := Lib.hid hz
   have hsz : B ≤ Z.heap.size := by rw [HR.out.2.1]; exact hz.2.2.1.size
   have hlen1 : (S.length + 1) * 24 ≤ 140737488355328 := by omega
   have hlen2 : S.length + 1 ≤ 1000000000000 := by omega
   have HO9 := Lib.hid (OwnE.grown hz.2.1 (grownBy_alloc Z (.cells #[.int .i64 x1, .int .i64 x2, .int .i64 x3] 61)) (by cases (Value.slice a S.length c).ownBlock <;> simp))
   clear hA hz hbx hBz hBz3
   go_wp2_with (at_builtin; refine wp_appendE (E := elP) sCe rfl rfl _ _ rfl (v := .slice a S.length c) (l := S) (base := B) rfl Z.heap.size rfl HO9.out (x1, x2, x3) (cells_new (W := Z) (cs := [.int .i64 x1, .int .i64 x2, .int .i64 x3]) (t := 61) rfl) hlen1 hlen2 (le_alloc _ hsz) ?_; intro v' w3 hown hgr hat; obtain ⟨s9, c9, rfl⟩ := hown.shape (n := S.length + 1) (by rw [List.length_append]; rfl); have HO := Lib.hid (And.intro hown (And.intro hgr hat)); clear hown hgr hat)
   have hne : ∀ q, (Value.slice a S.length c).ownBlock = some q → q ≠ r := HL.out.2.2.2.2.2
   have hrk : RngT Tryz.prog 61 4 w3 b r n (l.map pv) ((S ++ [(x1, x2, x3)]).map pv) cnt3 := (HZ.out.1.kept (grownBy_alloc _ _) (by simp) (by simp)).kept HO.out.2.1 (fun e9 => by
    have := (HL.out.2.1.lt b e9.symm).1; have := HR.out.2.2.1; omega) (fun e9 => hne r e9.symm rfl)
   have hb3 : Below B W w3 := (HZ.out.2.2.1.alloc hsz _).grown HO.out.2.1 (by rw [World.size_alloc]; omega) (fun q e9 => (HL.out.2.1.lt q e9).1)
   have HK := Lib.hid (And.intro hrk hb3)
   have hnq : ∀ q, (Value.slice s9 (S.length + 1) c9).ownBlock = some q → q ≠ r := fun q e9 => by
    rcases HO.out.2.2 with h9 | h9
    ·exact hne q (by rw [← h9]; exact e9)
    ·rw [h9, World.size_alloc'] at e9
     have := HZ.out.2.2.2.2; have := Option.some.inj e9; omega
   have HQ := Lib.hid hnq
   clear hne hrk hb3 hnq
   go_roundw
   case rel => exact ⟨S ++ [(x1, x2, x3)], s9, c9, cnt3, by rw [List.length_append]; rfl, HK.out.1, by rw [List.length_append]; exact HO.out.1, HK.out.2, nodup_snoc HL.out.2.2.2.1 HN2.out.2.1, fun y hy => by
    rcases List.mem_append.1 hy with hy | hy
    ·exact HL.out.2.2.2.2.1 y hy
    ·rw [List.mem_singleton.1 hy]; exact HN2.out.1, by rw [List.length_append]; exact HQ.out⟩
   case measure => rw [HK.out.1.left_eq, HL.out.1.left_eq]; exact HN2.out.2.2
set_option maxHeartbeats 3200000 in
set_option maxRecDepth 100000 in
theorem ascF_any (b n : Nat) (l : List (Int × ByteArray × Int)) (W : World) (h : SetT Tryz.prog 54 4 W b n (l.map cv)) (hn : n ≤ 2000000) (hln : l.length ≤ 2000000) (hw : ∀ x ∈ l, inI x.1 ∧ x.2.1.size ≤ maxLen ∧ inI x.2.2) :
  Calls Tryz.prog 26 #[.map (some b), .func (.func 27) #[] #[]] W (ascFR l W) := by
 have H0 := Lib.hid (And.intro h (And.intro h.lt hln))
 have HW := Lib.hid hw
 obtain ⟨m, hm, hlen⟩ := h.len (t := 96) Tryz.underlying96
 clear h hw hln
 go_enter Tryz.func26, Tryz.ntmps26
 go_wp2_with (at_make; refine wp_make0 (E := elCF) sCf _ rfl _ _ rfl .i64 .i64 m rfl rfl (by omega) (by unfold maxLen; omega) ?_)
 intro W1 hown hb1
 have hbz := hb1.size
 have H1 := Lib.hid (And.intro hown (And.intro hb1 (H0.out.1.kept (grownBy_below hb1) (by simp))))
 clear hown hb1 hlen
 go_wp2_with (at_range; refine wp_setRange H1.out.2.2 rfl _ rfl fkKeyed Tryz.underlying96 rfl ?_; intro W2 cnt hr hg2 hs2; have H2 := Lib.hid (And.intro hr (And.intro hg2 hs2)); clear hr hg2 hs2)
 go_frame
 obtain ⟨r, hr⟩ : ∃ r, r = W1.heap.size := ⟨_, rfl⟩
 obtain ⟨B, hB⟩ : ∃ B, B = W.heap.size := ⟨_, rfl⟩
 have H3 : Hid (RngT Tryz.prog 54 4 W2 b r n (l.map cv) ([].map cv) cnt ∧ OwnE elCF W2 B 54 (.slice (some ⟨B, 0, none⟩) 0 m) [] ∧ Below B W W2 ∧ B ≤ W2.heap.size) := Lib.hid (by
  rw [hr, hB]
  have h9 := H1.out.2.1.grown H2.out.2.1 H1.out.2.1.size (by simp)
  exact ⟨H2.out.1, H1.out.1.grown H2.out.2.1 (.inr (by simp [Value.ownBlock])), h9, h9.size⟩)
 have HR := Lib.hid (And.intro hr (And.intro hB (show b < B ∧ B < r by
  rw [hr, hB]
  exact ⟨H0.out.2.1, (OwnE.lt H1.out.1 _ rfl).2⟩)))
 rw [← hr, ← hB]
 clear hr hB H1 H2
 go_loopw [5] (fun v wr => ∃ (S : List (Int × ByteArray × Int)) (a : Option Addr) (c cnt : Nat), v = .slice a S.length c ∧ Hid (RngT Tryz.prog 54 4 wr b r n (l.map cv) (S.map cv) cnt ∧ OwnE elCF wr B 54 (.slice a S.length c) S ∧ Below B W wr ∧ S.Nodup ∧ (∀ x ∈ S, x ∈ l) ∧ (∀ q, (Value.slice a S.length c).ownBlock = some q → q ≠ r))) (fun _ wr => wr.rangeLeft b r)
 case atStart => exact ⟨[], some ⟨B, 0, none⟩, m, cnt, rfl, H3.out.1, H3.out.2.1, H3.out.2.2.1, List.nodup_nil, by simp, fun q hq => by have := HR.out.2.2.2; simp [Value.ownBlock] at hq; omega⟩
 case round =>
  obtain ⟨S, a, c, cnt, rfl, hh⟩ := hrel
  have HL := Lib.hid hh.out
  have hrg := hh.out.1
  clear hh
  go_upto_region 5 with (at_next; refine wp_setNextS cv (fun _ _ _ => rfl) HL.out.1 rfl _ rfl fkKeyed Tryz.underlying4 rfl (fun HD => ?_) (fun x1 x2 x3 cb W3 HN hen => ?_); all_goals clear hrg)
  ·have hmem : ∀ x, x ∈ S ↔ x ∈ l := fun x => ⟨HL.out.2.2.2.2.1 x, fun hx => by
    obtain ⟨y, hy, he⟩ := List.mem_map.1 (HD.out x (fkWf x (HW.out x hx)) hx)
    rw [← cv_inj he]; exact hy⟩
   have hSl : S.length ≤ 2000000 := Nat.le_trans (nodup_le' HL.out.2.2.2.1 HL.out.2.2.2.2.1) H0.out.2.2
   have HM := Lib.hid hmem
   have hB := HR.out.2.1
   have HF : Hid (Below W.heap.size W wr) := Lib.hid (hB ▸ HL.out.2.2.1)
   have hown := HL.out.2.1
   rw [hB] at hown
   clear hmem
   rcases hown.shape2 with ⟨rfl, hz, rfl⟩ | ⟨g, rfl⟩
   ·have HZ := Lib.hid hz
    have hl0 : S.length = 0 := by rw [hz]; rfl
    rw [hl0]
    refine (sfSort_nil _ _ wr).mono ?_
    rintro e W5 ⟨rfl, rfl⟩
    clear hown hB hz hl0
    go_wp2_with fail
    go_ret
    exact ⟨none, 0, S, by rw [HZ.out]; rfl, by rw [HZ.out]; exact Go.Dfl.OwnE.nil _ _ _ _, by rw [HZ.out]; exact List.Pairwise.nil, HM.out, HF.out⟩
   ·have hs := sfSort_any W.heap.size g c S wr hown (by omega) HL.out.2.2.2.1
    have hg := (OwnE.lt hown g rfl).1
    have HG := Lib.hid hg
    clear hown hB hg
    refine hs.mono ?_
    rintro e W5 ⟨L, rfl, hp, hpw, ho, hgr⟩
    have hlen := hp.length_eq
    have H5 := Lib.hid (And.intro hp (And.intro hpw (And.intro ho (And.intro (HF.out.grown hgr HF.out.size (fun q e9 => by have := HG.out; have := Option.some.inj e9; omega)) hlen))))
    clear hs hp hpw ho hgr hlen
    go_wp2_with fail
    go_ret
    exact ⟨some ⟨g, 0, none⟩, c, L, by rw [H5.out.2.2.2.2]; rfl, by rw [H5.out.2.2.2.2]; exact H5.out.2.2.1, H5.out.2.1, fun x => by rw [H5.out.1.mem_iff]; exact HM.out x, H5.out.2.2.2.1⟩
  ·obtain ⟨cnt3, k1, k2, k3, k4, k5, k6⟩ := HN.out
   have hSl : (S ++ [(x1, x2, x3)]).length ≤ 2000000 := Nat.le_trans (nodup_le' (nodup_snoc HL.out.2.2.2.1 k2) (fun y hy => by
    rcases List.mem_append.1 hy with hy | hy
    ·exact HL.out.2.2.2.2.1 y hy
    ·rw [List.mem_singleton.1 hy]; exact k1)) H0.out.2.2
   rw [List.length_append, List.length_singleton] at hSl
   have hown : OwnE elCF W3 B 54 (.slice a S.length c) S := HL.out.2.1.grown k5 (by
    cases hq : (Value.slice a S.length c).ownBlock with
    | none => exact .inl rfl
    | some q => exact .inr fun e9 => HL.out.2.2.2.2.2 q hq (Option.some.inj e9))
   have hBz : B ≤ wr.heap.size := by rw [HR.out.2.1]; exact HL.out.2.2.1.size
   have hBz3 : B ≤ W3.heap.size := by rw [k6]; exact hBz
   have hbel : Below B W W3 := HL.out.2.2.1.grown k5 hBz (fun q e9 => by have := HR.out.2.2.2; have := Option.some.inj e9; omega)
   have hbA := hbel.alloc hBz3 (.cells #[.int .i64 x1, .string x2, .int .i64 x3] 54)
   have hrl := k3.lt
   have hbx := cells_new (W := W3) (cs := [.int .i64 x1, .string x2, .int .i64 x3]) (t := 54) rfl
   have hA : RngT Tryz.prog 54 4 (W3.alloc (.cells #[.int .i64 x1, .string x2, .int .i64 x3] 54)) b r n (l.map cv) ((S ++ [(x1, x2, x3)]).map cv) cnt3 ∧ OwnE elCF (W3.alloc (.cells #[.int .i64 x1, .string x2, .int .i64 x3] 54)) B 54 (.slice a S.length c) S ∧ Below B W (W3.alloc (.cells #[.int .i64 x1, .string x2, .int .i64 x3] 54)) ∧ ((W3.alloc (.cells #[.int .i64 x1, .string x2, .int .i64 x3] 54)).cell? ⟨W3.heap.size, 0, none⟩ = some (.int .i64 x1) ∧ (W3.alloc (.cells #[.int .i64 x1, .string x2, .int .i64 x3] 54)).cell? ⟨W3.heap.size, 1, none⟩ = some (.string x2) ∧ (W3.alloc (.cells #[.int .i64 x1, .string x2, .int .i64 x3] 54)).cell? ⟨W3.heap.size, 2, none⟩ = some (.int .i64 x3)) ∧ r < (W3.alloc (.cells #[.int .i64 x1, .string x2, .int .i64 x3] 54)).heap.size :=
    ⟨k3.kept (grownBy_alloc _ _) (by simp) (by simp), hown.grown (grownBy_alloc _ _) (by cases (Value.slice a S.length c).ownBlock <;> simp), hbA, ⟨hbx 0 _ rfl, hbx 1 _ rfl, hbx 2 _ rfl⟩, by rw [World.size_alloc]; have := k3.lt.1; omega⟩
   have HN2 := Lib.hid (And.intro k1 (And.intro k2 k4))
   clear k1 k2 k4 k5 k6 hown hbel hbA hbx HN k3 hrl hen
   refine gen_code (fun Z => RngT Tryz.prog 54 4 Z b r n (l.map cv) ((S ++ [(x1, x2, x3)]).map cv) cnt3 ∧ OwnE elCF Z B 54 (.slice a S.length c) S ∧ Below B W Z ∧ (Z.cell? ⟨W3.heap.size, 0, none⟩ = some (.int .i64 x1) ∧ Z.cell? ⟨W3.heap.size, 1, none⟩ = some (.string x2) ∧ Z.cell? ⟨W3.heap.size, 2, none⟩ = some (.int .i64 x3)) ∧ r < Z.heap.size) hA ?_
   intro Z hz
   obtain ⟨bx, hbx⟩ : ∃ q, q = W3.heap.size := ⟨_, rfl⟩
   rw [← hbx] at hz ⊢
   obtain ⟨z1, z2, z3⟩ := hz.2.2.2.1
   have HZ := Lib.hid hz
   have hsz : B ≤ Z.heap.size := by rw [HR.out.2.1]; exact hz.2.2.1.size
   have hlen1 : (S.length + 1) * 32 ≤ 140737488355328 := by omega
   have hlen2 : S.length + 1 ≤ 1000000000000 := by omega
   have HO9 := Lib.hid (OwnE.grown hz.2.1 (grownBy_alloc Z (.cells #[.int .i64 x1, .string x2, .int .i64 x3] 54)) (by cases (Value.slice a S.length c).ownBlock <;> simp))
   clear hA hz hbx hBz hBz3
   go_wp2_with (at_builtin; refine wp_appendE (E := elCF) sCf rfl rfl _ _ rfl (v := .slice a S.length c) (l := S) (base := B) rfl Z.heap.size rfl HO9.out (x1, x2, x3) (cells_new (W := Z) (cs := [.int .i64 x1, .string x2, .int .i64 x3]) (t := 54) rfl) hlen1 hlen2 (le_alloc _ hsz) ?_; intro v' w3 hown hgr hat; obtain ⟨s9, c9, rfl⟩ := hown.shape (n := S.length + 1) (by rw [List.length_append]; rfl); have HO := Lib.hid (And.intro hown (And.intro hgr hat)); clear hown hgr hat)
   have hne : ∀ q, (Value.slice a S.length c).ownBlock = some q → q ≠ r := HL.out.2.2.2.2.2
   have hrk : RngT Tryz.prog 54 4 w3 b r n (l.map cv) ((S ++ [(x1, x2, x3)]).map cv) cnt3 := (HZ.out.1.kept (grownBy_alloc _ _) (by simp) (by simp)).kept HO.out.2.1 (fun e9 => by
    have := (HL.out.2.1.lt b e9.symm).1; have := HR.out.2.2.1; omega) (fun e9 => hne r e9.symm rfl)
   have hb3 : Below B W w3 := (HZ.out.2.2.1.alloc hsz _).grown HO.out.2.1 (by rw [World.size_alloc]; omega) (fun q e9 => (HL.out.2.1.lt q e9).1)
   have HK := Lib.hid (And.intro hrk hb3)
   have hnq : ∀ q, (Value.slice s9 (S.length + 1) c9).ownBlock = some q → q ≠ r := fun q e9 => by
    rcases HO.out.2.2 with h9 | h9
    ·exact hne q (by rw [← h9]; exact e9)
    ·rw [h9, World.size_alloc'] at e9
     have := HZ.out.2.2.2.2; have := Option.some.inj e9; omega
   have HQ := Lib.hid hnq
   clear hne hrk hb3 hnq
   go_roundw
   case rel => exact ⟨S ++ [(x1, x2, x3)], s9, c9, cnt3, by rw [List.length_append]; rfl, HK.out.1, by rw [List.length_append]; exact HO.out.1, HK.out.2, nodup_snoc HL.out.2.2.2.1 HN2.out.2.1, fun y hy => by
    rcases List.mem_append.1 hy with hy | hy
    ·exact HL.out.2.2.2.2.1 y hy
    ·rw [List.mem_singleton.1 hy]; exact HN2.out.1, by rw [List.length_append]; exact HQ.out⟩
   case measure => rw [HK.out.1.left_eq, HL.out.1.left_eq]; exact HN2.out.2.2
end Go.Proofs.YtnklnklkblgnfaaGreat
end
section
namespace Go.Proofs.YtnklnklkblgnfaaGreat
open Go.RowKit Go.Dfl Go.Obs Go.Hir
open Go.Gra (gen_code gen_calls)
abbrev obsV (f i fr c : Int) (v : Value) : Value := .agg #[.int .i64 f, .int .i64 i, .int .i64 fr, .int .i64 c, v]
def OinR (W0 : World) (x : Is) (W : World) (e : Ending) (W' : World) : Prop := ∃ xv, e = .returned (.tuple #[isV x xv, .bool true]) ∧ InS vI W0 xv x.ar ∧ Below W.heap.size W W'
set_option maxHeartbeats 6400000 in
set_option maxRecDepth 8000 in
theorem oInstr_any (u : Un) (v0 v1 : Value) (f i : Nat) (fr c : Int) (vv : Value) (W : World) (h : UnIn W v0 v1 u) (hf : f < u.fs.length) (hi : i < (nth u.fs f).cd.length) (hs : ∃ a n c, vv = .slice a n c) :
  Calls Tryz.prog 24 #[unV u v0 v1, obsV f i fr c vv] W (OinR W (nth (nth u.fs f).cd i) W) := by
 obtain ⟨sa, sn, sc, rfl⟩ := hs
 obtain ⟨fa, fc, xa, xc, v7, hv1, jf, ji, hv7, hz⟩ := code_at h.2 hf hi
 have hfl := ins_len h.2
 obtain ⟨x, hx⟩ : ∃ x, x = nth (nth u.fs f).cd i := ⟨_, rfl⟩
 rw [← hx] at hv7 hz ⊢
 obtain ⟨aa, ac, rfl⟩ := hv7.shape
 obtain ⟨an, han⟩ : ∃ an, an = x.ar.length := ⟨_, rfl⟩
 rw [← han] at hv7 hz
 obtain ⟨F, hF⟩ : ∃ F, F = u.fs.length := ⟨_, rfl⟩
 obtain ⟨L, hL⟩ : ∃ L, L = (nth u.fs f).cd.length := ⟨_, rfl⟩
 rw [← hF] at hv1 jf hf hfl
 rw [← hL] at ji hz hi
 subst hv1
 have hE1 := (Env.refl W).alloc [v0, .slice fa F fc, .int .i64 u.mn] 27
 have hE2 := hE1.alloc [.int .i64 (f : Int), .int .i64 (i : Int), .int .i64 fr, .int .i64 c, .slice sa sn sc] 79
 have hE3 := (hE2.below ((Below.refl _ _).alloc (Nat.le_refl _) (.cells #[.int .i64 0, .int .i64 0, .int .i64 0, .int .i64 0, .int .i64 0, .string ⟨#[]⟩, .string ⟨#[]⟩, .slice none 0 0, .int .i64 0, .int .i64 0] 87))).add (q := fkH _ (.cells #[.int .i64 0, .int .i64 0, .int .i64 0, .int .i64 0, .int .i64 0, .string ⟨#[]⟩, .string ⟨#[]⟩, .slice none 0 0, .int .i64 0, .int .i64 0] 87)) (heap_alloc_new _ _)
 simp only [World.size_alloc] at hE3
 have HE := Lib.hid hE3
 have HC := Lib.hid (And.intro hv7 (And.intro hz han))
 clear h hx hF hL hE1 hE2 hE3 hz han hv7
 unfold unV obsV
 go_enter Tryz.func24, Tryz.ntmps24
 go_upto_region 1 with fail
 refine gen_code (fun Z => Env W [fkH (W.heap.size + 2) (.cells #[.int .i64 0, .int .i64 0, .int .i64 0, .int .i64 0, .int .i64 0, .string ⟨#[]⟩, .string ⟨#[]⟩, .slice none 0 0, .int .i64 0, .int .i64 0] 87), fkC (W.heap.size + 1) [.int .i64 (f : Int), .int .i64 (i : Int), .int .i64 fr, .int .i64 c, .slice sa sn sc], fkC W.heap.size [v0, .slice fa F fc, .int .i64 u.mn]] Z) HE.out ?_
 intro Z hZ
 obtain ⟨bu, hbu⟩ : ∃ b, b = W.heap.size := ⟨_, rfl⟩
 obtain ⟨bo, hbo⟩ : ∃ b, b = W.heap.size + 1 := ⟨_, rfl⟩
 obtain ⟨br, hbr⟩ : ∃ b, b = W.heap.size + 2 := ⟨_, rfl⟩
 have HB := Lib.hid (And.intro hbu (And.intro hbo hbr))
 rw [← hbr, ← hbo, ← hbu] at hZ ⊢
 have HZ := Lib.hid hZ
 have o0 := hZ.cell 1 rfl 0 rfl
 have o1 := hZ.cell 1 rfl 1 rfl
 have u1 := hZ.cell 2 rfl 1 rfl
 have p6 := (HC.out.2.1 Z hZ.bel).1
 have t1 : decide ((f : Int) < 0) = false := decide_eq_false (by omega)
 have t2 : decide ((F : Int) ≤ (f : Int)) = false := decide_eq_false (by omega)
 have t3 : decide (F ≤ f) = false := decide_eq_false (by omega)
 have t4 : decide ((i : Int) < 0) = false := decide_eq_false (by omega)
 have t5 : decide ((L : Int) ≤ (i : Int)) = false := decide_eq_false (by omega)
 have t6 : decide (L ≤ i) = false := decide_eq_false (by omega)
 clear hZ hbu hbo hbr HE
 go_quiet (fail)
 have HQ := Lib.hid (fun q : Nat => HZ.out.below (below_drewN (Below.refl Z.heap.size Z) q))
 go_upto_region 3 with fail
 clear o0 o1 u1 p6 t1 t2 t3 t4 t5 t6
 refine gen_code (fun Z' => Env W [fkH br (.cells #[.int .i64 0, .int .i64 0, .int .i64 0, .int .i64 0, .int .i64 0, .string ⟨#[]⟩, .string ⟨#[]⟩, .slice none 0 0, .int .i64 0, .int .i64 0] 87), fkC bo [.int .i64 (f : Int), .int .i64 (i : Int), .int .i64 fr, .int .i64 c, .slice sa sn sc], fkC bu [v0, .slice fa F fc, .int .i64 u.mn]] Z') (HQ.out _) ?_
 intro Z2 hZ2
 have hD := hZ2.drew
 have o0 := hD.cell 1 rfl 0 rfl
 have o1 := hD.cell 1 rfl 1 rfl
 have u1 := hD.cell 2 rfl 1 rfl
 obtain ⟨p6, hx⟩ := HC.out.2.1 Z2.drew hD.bel
 have HS := Lib.hid (show (fun w' : World => w'.cell? ⟨bo, 0, none⟩ = some (.int .i64 (f : Int)) ∧ w'.cell? ⟨bo, 1, none⟩ = some (.int .i64 (i : Int)) ∧ w'.cell? ⟨bu, 1, none⟩ = some (.slice fa F fc) ∧ w'.cell? ⟨blk fa, ofs fa + f * 7 + 6, none⟩ = some (.slice xa L xc) ∧ w'.cell? ⟨blk xa, ofs xa + i * 10, none⟩ = some (.int .i64 x.op) ∧ w'.cell? ⟨blk xa, ofs xa + i * 10 + 1, none⟩ = some (.int .i64 x.d) ∧ w'.cell? ⟨blk xa, ofs xa + i * 10 + 2, none⟩ = some (.int .i64 x.a) ∧ w'.cell? ⟨blk xa, ofs xa + i * 10 + 3, none⟩ = some (.int .i64 x.b) ∧ w'.cell? ⟨blk xa, ofs xa + i * 10 + 4, none⟩ = some (.int .i64 x.n) ∧ w'.cell? ⟨blk xa, ofs xa + i * 10 + 5, none⟩ = some (.string x.c) ∧ w'.cell? ⟨blk xa, ofs xa + i * 10 + 6, none⟩ = some (.string x.m) ∧ w'.cell? ⟨blk xa, ofs xa + i * 10 + 7, none⟩ = some (.slice aa an ac) ∧ w'.cell? ⟨blk xa, ofs xa + i * 10 + 8, none⟩ = some (.int .i64 x.g) ∧ w'.cell? ⟨blk xa, ofs xa + i * 10 + 9, none⟩ = some (.int .i64 x.ct)) Z2.drew from
  ⟨o0, o1, u1, p6, hx 0 _ rfl, hx 1 _ rfl, hx 2 _ rfl, hx 3 _ rfl, hx 4 _ rfl, hx 5 _ rfl, hx 6 _ rfl, hx 7 _ rfl, hx 8 _ rfl, hx 9 _ rfl⟩)
 have HD := Lib.hid hD
 clear hZ2 hD o0 o1 u1 p6 hx
 refine wp_region_mix [0, 1, 2, 3, 4, 5, 6, 7, 8, 9, 10] [11, 12] (fun w' => w'.cell? ⟨bo, 0, none⟩ = some (.int .i64 (f : Int)) ∧ w'.cell? ⟨bo, 1, none⟩ = some (.int .i64 (i : Int)) ∧ w'.cell? ⟨bu, 1, none⟩ = some (.slice fa F fc) ∧ w'.cell? ⟨blk fa, ofs fa + f * 7 + 6, none⟩ = some (.slice xa L xc) ∧ w'.cell? ⟨blk xa, ofs xa + i * 10, none⟩ = some (.int .i64 x.op) ∧ w'.cell? ⟨blk xa, ofs xa + i * 10 + 1, none⟩ = some (.int .i64 x.d) ∧ w'.cell? ⟨blk xa, ofs xa + i * 10 + 2, none⟩ = some (.int .i64 x.a) ∧ w'.cell? ⟨blk xa, ofs xa + i * 10 + 3, none⟩ = some (.int .i64 x.b) ∧ w'.cell? ⟨blk xa, ofs xa + i * 10 + 4, none⟩ = some (.int .i64 x.n) ∧ w'.cell? ⟨blk xa, ofs xa + i * 10 + 5, none⟩ = some (.string x.c) ∧ w'.cell? ⟨blk xa, ofs xa + i * 10 + 6, none⟩ = some (.string x.m) ∧ w'.cell? ⟨blk xa, ofs xa + i * 10 + 7, none⟩ = some (.slice aa an ac) ∧ w'.cell? ⟨blk xa, ofs xa + i * 10 + 8, none⟩ = some (.int .i64 x.g) ∧ w'.cell? ⟨blk xa, ofs xa + i * 10 + 9, none⟩ = some (.int .i64 x.ct)) (by kernel_rfl) (by kernel_rfl) (by kernel_rfl) HS.out ?_
 repeat (
  refine wpHeads_cons (v := ?_) rfl (Or.inl ⟨by rfl, ?_⟩) ?_
  rotate_left
  ·(intro W hW; obtain ⟨x1, x2, x3, x4, x5, x6, x7, x8, x9, x10, x11, x12, x13, x14⟩ := hW; (try go_simp); try with_reducible rfl)
  simp only [Act.put, List.setIfInBounds_toArray, List.getElem_toArray, List.getElem_cons_zero, List.getElem_cons_succ, List.set_cons_succ, List.set_cons_zero])
 refine wpHeads_nil ?_
 generalize Z2.drew = V at *
 have hN : V.heap[br]? = some (.cells #[.int .i64 0, .int .i64 0, .int .i64 0, .int .i64 0, .int .i64 0, .string ⟨#[]⟩, .string ⟨#[]⟩, .slice none 0 0, .int .i64 0, .int .i64 0] 87) := HD.out.fact 0 rfl
 obtain ⟨hcs, hfz, hst, hgr⟩ := stN_block hN (isC' x (.slice aa an ac)) rfl
 have z0 : V.cell? ⟨br, 0, none⟩ = some (.int .i64 0) := hcs 0 (by decide)
 have z1 : V.cell? ⟨br, 1, none⟩ = some (.int .i64 0) := hcs 1 (by decide)
 have z2 : V.cell? ⟨br, 2, none⟩ = some (.int .i64 0) := hcs 2 (by decide)
 have z3 : V.cell? ⟨br, 3, none⟩ = some (.int .i64 0) := hcs 3 (by decide)
 have z4 : V.cell? ⟨br, 4, none⟩ = some (.int .i64 0) := hcs 4 (by decide)
 have z5 : V.cell? ⟨br, 5, none⟩ = some (.string ⟨#[]⟩) := hcs 5 (by decide)
 have z6 : V.cell? ⟨br, 6, none⟩ = some (.string ⟨#[]⟩) := hcs 6 (by decide)
 have z7 : V.cell? ⟨br, 7, none⟩ = some (.slice none 0 0) := hcs 7 (by decide)
 have z8 : V.cell? ⟨br, 8, none⟩ = some (.int .i64 0) := hcs 8 (by decide)
 have z9 : V.cell? ⟨br, 9, none⟩ = some (.int .i64 0) := hcs 9 (by decide)
 have f0 := hfz 0
 have f1 := hfz 1
 have f2 := hfz 2
 have f3 := hfz 3
 have f4 := hfz 4
 have f5 := hfz 5
 have f6 := hfz 6
 have f7 := hfz 7
 have f8 := hfz 8
 have f9 := hfz 9
 have HG := Lib.hid (And.intro hst hgr)
 clear hcs hfz hst hgr hN
 refine wpTails_cons rfl ?_
 go_wp2_with fail
 clear z0 z1 z2 z3 z4 z5 z6 z7 z8 z9 f0 f1 f2 f3 f4 f5 f6 f7 f8 f9
 obtain ⟨V7, hV7⟩ : ∃ V7, V7 = stN br V 0 (isC' x (.slice aa an ac)) := ⟨_, rfl⟩
 rw [← hV7] at HG
 have hb7 : Below W.heap.size W V7 := HD.out.bel.grown HG.out.2 HD.out.bel.size (fun q e => by injection e with e; have := HB.out.2.2; omega)
 obtain ⟨p6, hx⟩ := HC.out.2.1 V7 hb7
 have hbo : (fkC bo [.int .i64 (f : Int), .int .i64 (i : Int), .int .i64 fr, .int .i64 c, .slice sa sn sc]).p V7 := fkC_grown (HD.out.fact 1 rfl) HG.out.2 (fun e => by have h1 := Option.some.inj e; have h2 := HB.out; omega)
 have hbu : (fkC bu [v0, .slice fa F fc, .int .i64 u.mn]).p V7 := fkC_grown (HD.out.fact 2 rfl) HG.out.2 (fun e => by have h1 := Option.some.inj e; have h2 := HB.out; omega)
 have HS7 := Lib.hid (And.intro (hbo 0 _ rfl) (And.intro (hbo 1 _ rfl) (And.intro (hbu 1 _ rfl) (And.intro p6 (And.intro (hx 0 _ rfl) (And.intro (hx 1 _ rfl) (And.intro (hx 2 _ rfl) (And.intro (hx 3 _ rfl) (And.intro (hx 4 _ rfl) (And.intro (hx 5 _ rfl) (And.intro (hx 6 _ rfl) (And.intro (hx 7 _ rfl) (And.intro (hx 8 _ rfl) (hx 9 _ rfl))))))))))))))
 have y0 := HG.out.1 0 _ rfl
 have y1 := HG.out.1 1 _ rfl
 have y2 := HG.out.1 2 _ rfl
 have y3 := HG.out.1 3 _ rfl
 have y4 := HG.out.1 4 _ rfl
 have y5 := HG.out.1 5 _ rfl
 have y6 := HG.out.1 6 _ rfl
 have y7 := HG.out.1 7 _ rfl
 have y8 := HG.out.1 8 _ rfl
 have y9 := HG.out.1 9 _ rfl
 have HB7 := Lib.hid hb7
 have hV7' : V7 = (((((((((V.setCell ⟨br, 0, none⟩ (.int .i64 x.op)).setCell ⟨br, 1, none⟩ (.int .i64 x.d)).setCell ⟨br, 2, none⟩ (.int .i64 x.a)).setCell ⟨br, 3, none⟩ (.int .i64 x.b)).setCell ⟨br, 4, none⟩ (.int .i64 x.n)).setCell ⟨br, 5, none⟩ (.string x.c)).setCell ⟨br, 6, none⟩ (.string x.m)).setCell ⟨br, 7, none⟩ (.slice aa an ac)).setCell ⟨br, 8, none⟩ (.int .i64 x.g)).setCell ⟨br, 9, none⟩ (.int .i64 x.ct) := hV7
 rw [← hV7']
 clear hV7 hV7' hb7 p6 hx hbo hbu
 refine tail_mk HS7.out ?_
 refine wpTails_one rfl ?_
 go_wp2_with fail
 refine thenQ_mk ?_
 go_wp2_with fail
 (try simp only [Exit.inBlock, Exit.then])
 refine bodyPost_ret (v := .tuple #[isV x (.slice aa an ac), .bool true]) (by rw [results_cell_tmp rfl]; go_simp; try rfl) rfl ?_
 exact ⟨_, rfl, HC.out.1, HB7.out⟩
end Go.Proofs.YtnklnklkblgnfaaGreat
end
section
namespace Go.Proofs.YtnklnklkblgnfaaGreat
open Go.RowKit Go.Dfl Go.Gra Go.Obs Go.Sort Go.Maps
theorem sOb : SliceOf Tryz.prog 29 79 (.agg #[.int .i64 0, .int .i64 0, .int .i64 0, .int .i64 0, .slice none 0 0]) 5 56 := ⟨Tryz.underlying29, info_parts (P := Tryz.prog) (e := 79) (by kernel_rfl)⟩
theorem sVl : SliceOf Tryz.prog 73 75 (.agg #[.int .i64 0, .int .i64 0, .int .i64 0]) 3 24 := ⟨Tryz.underlying73, info_parts (P := Tryz.prog) (e := 75) (by kernel_rfl)⟩
def ExIn (W : World) (ov : Value) (x : Ex) : Prop := True ∧ InS vOb W ov x.o
theorem ExIn.below {W W' : World} {ov : Value} {x : Ex} (h : ExIn W ov x) (hb : Below W.heap.size W W') : ExIn W' ov x := ⟨h.1, h.2.below hb⟩
abbrev exV (x : Ex) (ov : Value) : Value := .agg #[.int .i64 x.e, ov]
def valN (x : Ex) : Nat := (x.o.map fun o => o.vs.length).sum
theorem InS.ob {W : World} {ov : Value} {l : List Ob} (h : InS vOb W ov l) : ∃ oa oc, ov = .slice oa l.length oc ∧ l.length ≤ 9223372036854775807 ∧
  (∀ x : Int, 0 ≤ x → x < l.length → ∀ W, (Instr.indexAt 29 (.slice oa l.length oc) (.int .i64 x)).run Tryz.prog W = .ok (.pointer (some ⟨blk oa, ofs oa + x.toNat * 5, none⟩)) W) ∧
  ∀ i, i < l.length → blk oa < W.heap.size ∧ ∃ vv, (inI (nth l i).f ∧ inI (nth l i).i ∧ inI (nth l i).fr ∧ inI (nth l i).c) ∧ InS vVal W vv (nth l i).vs ∧ ∀ Z, Below W.heap.size W Z → Z.cell? ⟨blk oa, ofs oa + i * 5, none⟩ = some (.int .i64 (nth l i).f) ∧ Z.cell? ⟨blk oa, ofs oa + i * 5 + 1, none⟩ = some (.int .i64 (nth l i).i) ∧ Z.cell? ⟨blk oa, ofs oa + i * 5 + 2, none⟩ = some (.int .i64 (nth l i).fr) ∧ Z.cell? ⟨blk oa, ofs oa + i * 5 + 3, none⟩ = some (.int .i64 (nth l i).c) ∧ Z.cell? ⟨blk oa, ofs oa + i * 5 + 4, none⟩ = some vv := by
 obtain ⟨oa, oc, he, hl, hi, hc⟩ := InS.out h sOb
 refine ⟨oa, oc, he, hl, hi, fun i hil => ?_⟩
 obtain ⟨h1, cs, ⟨vv, rfl, hb, hv⟩, h3⟩ := hc i hil
 exact ⟨h1, vv, hb, hv, fun Z hZ => ⟨h3 Z hZ 0 (by decide), h3 Z hZ 1 (by decide), h3 Z hZ 2 (by decide), h3 Z hZ 3 (by decide), h3 Z hZ 4 (by decide)⟩⟩
theorem InS.vl {W : World} {v : Value} {l : List Vl} (h : InS vVal W v l) : ∃ a c, v = .slice a l.length c ∧ l.length ≤ 9223372036854775807 ∧
  (∀ x : Int, 0 ≤ x → x < l.length → ∀ W, (Instr.indexAt 73 (.slice a l.length c) (.int .i64 x)).run Tryz.prog W = .ok (.pointer (some ⟨blk a, ofs a + x.toNat * 3, none⟩)) W) ∧
  ∀ i, i < l.length → blk a < W.heap.size ∧ (inI (nth l i).k ∧ inI (nth l i).n ∧ inI (nth l i).s) ∧ ∀ Z, Below W.heap.size W Z → Z.cell? ⟨blk a, ofs a + i * 3, none⟩ = some (.int .i64 (nth l i).k) ∧ Z.cell? ⟨blk a, ofs a + i * 3 + 1, none⟩ = some (.int .i64 (nth l i).n) ∧ Z.cell? ⟨blk a, ofs a + i * 3 + 2, none⟩ = some (.int .i64 (nth l i).s) := by
 obtain ⟨oa, oc, he, hl, hi, hc⟩ := InS.out h sVl
 refine ⟨oa, oc, he, hl, hi, fun i hil => ?_⟩
 obtain ⟨h1, cs, ⟨rfl, hb⟩, h3⟩ := hc i hil
 exact ⟨h1, hb, fun Z hZ => ⟨h3 Z hZ 0 (by decide), h3 Z hZ 1 (by decide), h3 Z hZ 2 (by decide)⟩⟩
def allP (x : Ex) : List (Int × Int × Int) := x.o.flatMap fun o => ptL o o.vs.length
def allN (x : Ex) : List (Int × Int × Int × Int) := x.o.flatMap fun o => inL o o.vs.length
theorem upto_all {β : Type} (F : Ob → Nat → List β) (os : List Ob) (h0 : ∀ o, F o 0 = []) : upto F os os.length 0 = os.flatMap fun o => F o o.vs.length := by
 unfold upto; rw [List.take_length, h0, List.append_nil]
theorem upto_more {β : Type} (F : Ob → Nat → List β) (os : List Ob) (i k : Nat) (x : List β) (h : F (nth os i) (k + 1) = F (nth os i) k ++ x) : upto F os i (k + 1) = upto F os i k ++ x := by
 unfold upto; rw [h, List.append_assoc]
theorem ptL_in {o : Ob} (hf : inI o.f) (hv : ∀ i, i < o.vs.length → inI (nth o.vs i).s) (hl : (o.vs.length : Int) ≤ 9223372036854775807) {x : Int × Int × Int} {k : Nat} (hk : k ≤ o.vs.length) (hx : x ∈ ptL o k) : inI x.1 ∧ inI x.2.1 ∧ inI x.2.2 := by
 unfold ptL at hx
 obtain ⟨v, hv1, he⟩ := List.mem_filterMap.1 hx
 rw [List.mem_range] at hv1
 split at he
 ·simp only [Option.some.injEq] at he
  subst he
  exact ⟨hf, by unfold inI; dsimp only; omega, hv v (by omega)⟩
 ·cases he
theorem inL_in {o : Ob} (hf : inI o.f) (hi : inI o.i) (hv : ∀ i, i < o.vs.length → inI (nth o.vs i).n) (hl : (o.vs.length : Int) ≤ 9223372036854775807) {x : Int × Int × Int × Int} {k : Nat} (hk : k ≤ o.vs.length) (hx : x ∈ inL o k) : inI x.1 ∧ inI x.2.1 ∧ inI x.2.2.1 ∧ inI x.2.2.2 := by
 unfold inL at hx
 obtain ⟨v, hv1, he⟩ := List.mem_filterMap.1 hx
 rw [List.mem_range] at hv1
 split at he
 ·simp only [Option.some.injEq] at he
  subst he
  exact ⟨hf, hi, by unfold inI; dsimp only; omega, hv v (by omega)⟩
 ·cases he
theorem flat_len9 {β : Type} {F : Ob → Nat → List β} (hF : ∀ o k, (F o k).length ≤ k) : ∀ os : List Ob, (os.flatMap fun o => F o o.vs.length).length ≤ (os.map fun o => o.vs.length).sum
 | [] => by simp
 | o :: os => by
   have := flat_len9 hF os
   have := hF o o.vs.length
   rw [List.flatMap_cons, List.length_append, List.map_cons, List.sum_cons]
   omega
set_option maxHeartbeats 3200000 in
set_option maxRecDepth 100000 in
theorem points_any (x : Ex) (ov : Value) (W : World) (h : ExIn W ov x) (hn : valN x ≤ 1048576) : Calls Tryz.prog 7 #[exV x ov] W (ascPR (allP x) W) := by
 obtain ⟨oa, oc, rfl, hlen, hidx, hcell⟩ := InS.ob h.2
 have HX := Lib.hid (And.intro h hn)
 have HI := Lib.hid hidx
 have HC := Lib.hid hcell
 have hal := (Below.refl W.heap.size W).alloc (Nat.le_refl _) (.cells #[.int .i64 x.e, .slice oa x.o.length oc] 31)
 have hbx := cells_new (W := W) (cs := [.int .i64 x.e, .slice oa x.o.length oc]) (t := 31) rfl
 have H0 := Lib.hid (And.intro hal (hbx 1 _ rfl))
 clear h hn hidx hcell hal hbx
 have hmm := @run_makeMap Tryz.prog
 go_enter Tryz.func7, Tryz.ntmps7
 go_upto_region 2 with fail
 have hset := SetT.made Tryz.prog 41 4 (W.alloc (.cells #[.int .i64 x.e, .slice oa x.o.length oc] 31)) (B := W.heap.size + 1) (by rw [World.size_alloc])
 have hbx := (grownBy_alloc (W.alloc (.cells #[.int .i64 x.e, .slice oa x.o.length oc] 31)) (.map #[] 0)).cell H0.out.2 (by simp)
 have hbl := H0.out.1.alloc H0.out.1.size (.map #[] 0)
 refine gen_code (fun Z => SetT Tryz.prog 41 4 Z (W.heap.size + 1) 0 [] ∧ Z.cell? ⟨W.heap.size, 1, none⟩ = some (.slice oa x.o.length oc) ∧ Below W.heap.size W Z) ⟨hset, hbx, hbl⟩ ?_
 intro W1 hz
 obtain ⟨mb, hmb⟩ : ∃ mb, mb = W.heap.size + 1 := ⟨_, rfl⟩
 rw [← hmb] at hz ⊢
 have h1 := hz.2.1
 have H1 : Hid (SetT Tryz.prog 41 4 W1 mb (upto ptL x.o 0 0).length ((upto ptL x.o 0 0).map pv) ∧ Below W.heap.size W W1) := Lib.hid ⟨hz.1, hz.2.2⟩
 have HM := Lib.hid hmb
 clear hset hbx hbl hz hmb hmm H0
 go_wp2_with fail
 clear h1
 go_loopw [12] (fun y wr => ∃ i : Nat, i ≤ x.o.length ∧ y = .int .i64 (i : Int) ∧ Hid (SetT Tryz.prog 41 4 wr mb (upto ptL x.o i 0).length ((upto ptL x.o i 0).map pv) ∧ Below W.heap.size W wr)) (fun y _ => x.o.length - (intOf y).toNat)
 case atStart => exact ⟨0, by omega, rfl, H1.out⟩
 case round =>
  obtain ⟨i, hi, rfl, hh⟩ := hrel
  have HL := Lib.hid hh.out
  clear hh
  by_cases hil : i < x.o.length
  ·have hili : (i : Int) < (x.o.length : Int) := by omega
   obtain ⟨hbl, vv, hbd, hvv, hcs⟩ := HC.out i hil
   obtain ⟨o0, o1, o2, o3, o4⟩ := hcs wr HL.out.2
   have j1 := HI.out (i : Int) (by omega) (by omega)
   rw [Int.toNat_natCast] at j1
   obtain ⟨va, vc, rfl, hvl, hvi, hvc⟩ := InS.vl hvv
   obtain ⟨o, ho⟩ : ∃ o, o = nth x.o i := ⟨_, rfl⟩
   have hle : ∀ k, k ≤ o.vs.length → (upto ptL x.o i k).length ≤ 1048576 := fun k hk => Nat.le_trans (upto_len ptL_len x.o hil (by rw [← ho]; exact hk)) HX.out.2
   rw [← ho] at o0 o1 o2 o3 o4 hbd hvl hvi hvc
   have HO := Lib.hid (And.intro ho (And.intro hbd (And.intro hvi (And.intro hvc hle))))
   clear hbl hvv hcs ho hbd hvi hvc hle
   go_upto_region 5 with fail
   have hbA := HL.out.2.alloc HL.out.2.size (.cells #[.int .i64 o.f, .int .i64 o.i, .int .i64 o.fr, .int .i64 o.c, .slice va o.vs.length vc] 79)
   have hcn := cells_new (W := wr) (cs := [.int .i64 o.f, .int .i64 o.i, .int .i64 o.fr, .int .i64 o.c, .slice va o.vs.length vc]) (t := 79) rfl
   have hsA := HL.out.1.kept (grownBy_alloc wr (.cells #[.int .i64 o.f, .int .i64 o.i, .int .i64 o.fr, .int .i64 o.c, .slice va o.vs.length vc] 79)) (by simp)
   have hmlt := HL.out.1.lt
   refine gen_code (fun Z => SetT Tryz.prog 41 4 Z mb (upto ptL x.o i 0).length ((upto ptL x.o i 0).map pv) ∧ Below W.heap.size W Z ∧ Z.cell? ⟨wr.heap.size, 0, none⟩ = some (.int .i64 o.f) ∧ Z.cell? ⟨wr.heap.size, 1, none⟩ = some (.int .i64 o.i) ∧ Z.cell? ⟨wr.heap.size, 4, none⟩ = some (.slice va o.vs.length vc)) ⟨hsA, hbA, hcn 0 _ rfl, hcn 1 _ rfl, hcn 4 _ rfl⟩ ?_
   intro W2 hz
   obtain ⟨ob, hob⟩ : ∃ ob, ob = wr.heap.size := ⟨_, rfl⟩
   rw [← hob] at hz ⊢
   have h4 := hz.2.2.2.2
   have H2 := Lib.hid (And.intro (And.intro hz.1 hz.2.1) (And.intro (And.intro hz.2.2.1 hz.2.2.2.1) (show mb < ob by omega)))
   clear hbA hcn hsA hz hob hmlt o0 o1 o2 o3 o4 j1
   go_wp2_with fail
   clear h4
   go_loopw [19] (fun y w2 => ∃ k : Nat, k ≤ o.vs.length ∧ y = .int .i64 (k : Int) ∧ Hid (SetT Tryz.prog 41 4 w2 mb (upto ptL x.o i k).length ((upto ptL x.o i k).map pv) ∧ Below W.heap.size W w2 ∧ (w2.cell? ⟨ob, 0, none⟩ = some (.int .i64 o.f) ∧ w2.cell? ⟨ob, 1, none⟩ = some (.int .i64 o.i)))) (fun y _ => o.vs.length - (intOf y).toNat)
   case atStart => exact ⟨0, by omega, rfl, H2.out.1.1, H2.out.1.2, H2.out.2.1⟩
   case round =>
    obtain ⟨k, hk, rfl, hh⟩ := hrel
    have HK := Lib.hid hh.out
    clear hh
    by_cases hkl : k < o.vs.length
    ·have hkli : (k : Int) < (o.vs.length : Int) := by omega
     obtain ⟨hb1, hb2, hcs⟩ := HO.out.2.2.2.1 k hkl
     obtain ⟨o0, o1, o2⟩ := hcs wr HK.out.2.1
     have j1 := HO.out.2.2.1 (k : Int) (by omega) (by omega)
     rw [Int.toNat_natCast] at j1
     obtain ⟨vl, hvl⟩ : ∃ vl, vl = nth o.vs k := ⟨_, rfl⟩
     rw [← hvl] at o0 o1 o2 hb2
     have HV := Lib.hid (And.intro hvl hb2)
     clear hb1 hb2 hcs hvl
     go_upto_region 8 with fail
     have hbA := HK.out.2.1.alloc HK.out.2.1.size (.cells #[.int .i64 vl.k, .int .i64 vl.n, .int .i64 vl.s] 75)
     have hcn := cells_new (W := wr) (cs := [.int .i64 vl.k, .int .i64 vl.n, .int .i64 vl.s]) (t := 75) rfl
     have hgA := grownBy_alloc wr (.cells #[.int .i64 vl.k, .int .i64 vl.n, .int .i64 vl.s] 75)
     have hsA := HK.out.1.kept hgA (by simp)
     have hmlt := HK.out.1.lt
     refine gen_code (fun Z => SetT Tryz.prog 41 4 Z mb (upto ptL x.o i k).length ((upto ptL x.o i k).map pv) ∧ Below W.heap.size W Z ∧ (Z.cell? ⟨ob, 0, none⟩ = some (.int .i64 o.f) ∧ Z.cell? ⟨ob, 1, none⟩ = some (.int .i64 o.i)) ∧ Z.cell? ⟨wr.heap.size, 0, none⟩ = some (.int .i64 vl.k) ∧ Z.cell? ⟨wr.heap.size, 1, none⟩ = some (.int .i64 vl.n) ∧ Z.cell? ⟨wr.heap.size, 2, none⟩ = some (.int .i64 vl.s)) ⟨hsA, hbA, ⟨hgA.cell HK.out.2.2.1 (by simp), hgA.cell HK.out.2.2.2 (by simp)⟩, hcn 0 _ rfl, hcn 1 _ rfl, hcn 2 _ rfl⟩ ?_
     intro W3 hz
     obtain ⟨vb, hvb⟩ : ∃ vb, vb = wr.heap.size := ⟨_, rfl⟩
     rw [← hvb] at hz ⊢
     obtain ⟨v0, v1, v2⟩ := hz.2.2.2
     obtain ⟨f0, f1⟩ := hz.2.2.1
     have HZ := Lib.hid (And.intro hz.1 (And.intro hz.2.1 hz.2.2.1))
     clear hbA hcn hsA hgA hz hvb hmlt o0 o1 o2 j1
     by_cases hkd : vl.k = 3
     ·have w1 : (vl.k == 3) = true := by simpa using hkd
      have hmore := ptL_yes (o := o) (k := k) (by rw [← HV.out.1]; exact hkd)
      have hup := upto_more ptL x.o i k [(o.f, (k : Int), vl.s)] (by rw [← HO.out.1, hmore, ← HV.out.1])
      have hlen9 := HO.out.2.2.2.2 k (by omega)
      have hn9 : (upto ptL x.o i k).length < maxLen := by unfold maxLen; omega
      obtain ⟨kl, hkl9⟩ := pkWf (o.f, (k : Int), vl.s) ⟨HO.out.2.1.1, by unfold inI; dsimp only; omega, HV.out.2.2.2⟩
      have HU := Lib.hid (And.intro hup hkl9)
      clear hkd hmore hup hkl9
      go_wp2_with (at_mapUpdate; refine wp_setPut HZ.out.1 rfl _ _ _ rfl pkKeyed Tryz.underlying88 Tryz.underlying4 rfl rfl hn9 (pv (o.f, (k : Int), vl.s)) kl rfl HU.out.2 ?_; intro W4 set4 g4; have H4 := Lib.hid (And.intro set4 g4); clear set4 g4)
      have hmm : ∀ q, some mb = some q → W.heap.size ≤ q := fun q e9 => by have := HM.out; have := Option.some.inj e9; omega
      have hob : some ob ≠ some mb := fun e9 => by have := H2.out.2.2; have := Option.some.inj e9; omega
      have H5 : Hid (SetT Tryz.prog 41 4 W4 mb (upto ptL x.o i (k + 1)).length ((upto ptL x.o i (k + 1)).map pv) ∧ Below W.heap.size W W4 ∧ (W4.cell? ⟨ob, 0, none⟩ = some (.int .i64 o.f) ∧ W4.cell? ⟨ob, 1, none⟩ = some (.int .i64 o.i))) := Lib.hid (by
       rw [HU.out.1, List.map_append, List.length_append]
       exact ⟨H4.out.1, HZ.out.2.1.grown H4.out.2 HZ.out.2.1.size hmm, H4.out.2.cell HZ.out.2.2.1 hob, H4.out.2.cell HZ.out.2.2.2 hob⟩)
      clear hmm hob
      go_roundw
      case rel => exact ⟨k + 1, by omega, by go_num, H5.out⟩
      case measure => simp [intOf]; omega
     ·have w1 : (vl.k == 3) = false := by simpa using hkd
      have hmore := ptL_no (o := o) (k := k) (by rw [← HV.out.1]; exact hkd)
      have hup := upto_more ptL x.o i k [] (by rw [← HO.out.1, hmore, List.append_nil])
      rw [List.append_nil] at hup
      have HU := Lib.hid hup
      clear hkd hmore hup
      go_wp2_with fail
      go_roundw
      case rel => exact ⟨k + 1, by omega, by go_num, by rw [HU.out]; exact HZ.out⟩
      case measure => simp [intOf]; omega
    ·obtain rfl : k = o.vs.length := by omega
     have HU := Lib.hid (upto_next ptL x.o hil (ptL_zero _))
     clear hkl
     go_wp2_with fail
     go_roundw
     case rel => exact ⟨i + 1, by omega, by go_num, by rw [HU.out, ← HO.out.1]; exact ⟨HK.out.1, HK.out.2.1⟩⟩
     case measure => simp [intOf]; omega
  ·obtain rfl : i = x.o.length := by omega
   have hall := upto_all ptL x.o ptL_zero
   have hlen9 : (upto ptL x.o x.o.length 0).length ≤ 1048576 := by
    rw [hall]
    exact Nat.le_trans (flat_len9 ptL_len x.o) HX.out.2
   have hs := HL.out.1
   have hin : ∀ y ∈ upto ptL x.o x.o.length 0, inI y.1 ∧ inI y.2.1 ∧ inI y.2.2 := fun y hy => by
    rw [hall] at hy
    obtain ⟨o, ho, hy⟩ := List.mem_flatMap.1 hy
    obtain ⟨t, ht, rfl⟩ := mem_nth ho
    obtain ⟨-, vv, hbd, hvv, -⟩ := HC.out t ht
    obtain ⟨va, vc, -, hvl, -, hvc⟩ := InS.vl hvv
    exact ptL_in hbd.1 (fun j hj => (hvc j hj).2.1.2.2) (by omega) (Nat.le_refl _) hy
   have ha := ascP_any mb _ (upto ptL x.o x.o.length 0) wr hs (by omega) (by omega) hin
   rw [hall] at ha
   have HA := Lib.hid ha
   clear hall hlen9 hs hin ha hil
   go_wp2_with fail
   refine HA.out.mono ?_
   rintro e W5 ⟨a, c, L, rfl, ho, hp, hm, hb⟩
   have H5 := Lib.hid (And.intro (ho.mono9 HL.out.2.size) (And.intro hp (And.intro hm (HL.out.2.trans (hb.mono HL.out.2.size)))))
   clear ho hp hm hb HA
   go_wp2_with fail
   go_ret
   exact ⟨a, c, L, rfl, H5.out.1, H5.out.2.1, H5.out.2.2.1, H5.out.2.2.2⟩
set_option maxHeartbeats 3200000 in
set_option maxRecDepth 100000 in
theorem ints_any (x : Ex) (ov : Value) (W : World) (h : ExIn W ov x) (hn : valN x ≤ 1048576) : Calls Tryz.prog 17 #[exV x ov] W (ascNR (allN x) W) := by
 obtain ⟨oa, oc, rfl, hlen, hidx, hcell⟩ := InS.ob h.2
 have HX := Lib.hid (And.intro h hn)
 have HI := Lib.hid hidx
 have HC := Lib.hid hcell
 have hal := (Below.refl W.heap.size W).alloc (Nat.le_refl _) (.cells #[.int .i64 x.e, .slice oa x.o.length oc] 31)
 have hbx := cells_new (W := W) (cs := [.int .i64 x.e, .slice oa x.o.length oc]) (t := 31) rfl
 have H0 := Lib.hid (And.intro hal (hbx 1 _ rfl))
 clear h hn hidx hcell hal hbx
 have hmm := @run_makeMap Tryz.prog
 go_enter Tryz.func17, Tryz.ntmps17
 go_upto_region 2 with fail
 have hset := SetT.made Tryz.prog 84 4 (W.alloc (.cells #[.int .i64 x.e, .slice oa x.o.length oc] 31)) (B := W.heap.size + 1) (by rw [World.size_alloc])
 have hbx := (grownBy_alloc (W.alloc (.cells #[.int .i64 x.e, .slice oa x.o.length oc] 31)) (.map #[] 0)).cell H0.out.2 (by simp)
 have hbl := H0.out.1.alloc H0.out.1.size (.map #[] 0)
 refine gen_code (fun Z => SetT Tryz.prog 84 4 Z (W.heap.size + 1) 0 [] ∧ Z.cell? ⟨W.heap.size, 1, none⟩ = some (.slice oa x.o.length oc) ∧ Below W.heap.size W Z) ⟨hset, hbx, hbl⟩ ?_
 intro W1 hz
 obtain ⟨mb, hmb⟩ : ∃ mb, mb = W.heap.size + 1 := ⟨_, rfl⟩
 rw [← hmb] at hz ⊢
 have h1 := hz.2.1
 have H1 : Hid (SetT Tryz.prog 84 4 W1 mb (upto inL x.o 0 0).length ((upto inL x.o 0 0).map nv) ∧ Below W.heap.size W W1) := Lib.hid ⟨hz.1, hz.2.2⟩
 have HM := Lib.hid hmb
 clear hset hbx hbl hz hmb hmm H0
 go_wp2_with fail
 clear h1
 go_loopw [12] (fun y wr => ∃ i : Nat, i ≤ x.o.length ∧ y = .int .i64 (i : Int) ∧ Hid (SetT Tryz.prog 84 4 wr mb (upto inL x.o i 0).length ((upto inL x.o i 0).map nv) ∧ Below W.heap.size W wr)) (fun y _ => x.o.length - (intOf y).toNat)
 case atStart => exact ⟨0, by omega, rfl, H1.out⟩
 case round =>
  obtain ⟨i, hi, rfl, hh⟩ := hrel
  have HL := Lib.hid hh.out
  clear hh
  by_cases hil : i < x.o.length
  ·have hili : (i : Int) < (x.o.length : Int) := by omega
   obtain ⟨hbl, vv, hbd, hvv, hcs⟩ := HC.out i hil
   obtain ⟨o0, o1, o2, o3, o4⟩ := hcs wr HL.out.2
   have j1 := HI.out (i : Int) (by omega) (by omega)
   rw [Int.toNat_natCast] at j1
   obtain ⟨va, vc, rfl, hvl, hvi, hvc⟩ := InS.vl hvv
   obtain ⟨o, ho⟩ : ∃ o, o = nth x.o i := ⟨_, rfl⟩
   have hle : ∀ k, k ≤ o.vs.length → (upto inL x.o i k).length ≤ 1048576 := fun k hk => Nat.le_trans (upto_len inL_len x.o hil (by rw [← ho]; exact hk)) HX.out.2
   rw [← ho] at o0 o1 o2 o3 o4 hbd hvl hvi hvc
   have HO := Lib.hid (And.intro ho (And.intro hbd (And.intro hvi (And.intro hvc hle))))
   clear hbl hvv hcs ho hbd hvi hvc hle
   go_upto_region 5 with fail
   have hbA := HL.out.2.alloc HL.out.2.size (.cells #[.int .i64 o.f, .int .i64 o.i, .int .i64 o.fr, .int .i64 o.c, .slice va o.vs.length vc] 79)
   have hcn := cells_new (W := wr) (cs := [.int .i64 o.f, .int .i64 o.i, .int .i64 o.fr, .int .i64 o.c, .slice va o.vs.length vc]) (t := 79) rfl
   have hsA := HL.out.1.kept (grownBy_alloc wr (.cells #[.int .i64 o.f, .int .i64 o.i, .int .i64 o.fr, .int .i64 o.c, .slice va o.vs.length vc] 79)) (by simp)
   have hmlt := HL.out.1.lt
   refine gen_code (fun Z => SetT Tryz.prog 84 4 Z mb (upto inL x.o i 0).length ((upto inL x.o i 0).map nv) ∧ Below W.heap.size W Z ∧ Z.cell? ⟨wr.heap.size, 0, none⟩ = some (.int .i64 o.f) ∧ Z.cell? ⟨wr.heap.size, 1, none⟩ = some (.int .i64 o.i) ∧ Z.cell? ⟨wr.heap.size, 4, none⟩ = some (.slice va o.vs.length vc)) ⟨hsA, hbA, hcn 0 _ rfl, hcn 1 _ rfl, hcn 4 _ rfl⟩ ?_
   intro W2 hz
   obtain ⟨ob, hob⟩ : ∃ ob, ob = wr.heap.size := ⟨_, rfl⟩
   rw [← hob] at hz ⊢
   have h4 := hz.2.2.2.2
   have H2 := Lib.hid (And.intro (And.intro hz.1 hz.2.1) (And.intro (And.intro hz.2.2.1 hz.2.2.2.1) (show mb < ob by omega)))
   clear hbA hcn hsA hz hob hmlt o0 o1 o2 o3 o4 j1
   go_wp2_with fail
   clear h4
   go_loopw [19] (fun y w2 => ∃ k : Nat, k ≤ o.vs.length ∧ y = .int .i64 (k : Int) ∧ Hid (SetT Tryz.prog 84 4 w2 mb (upto inL x.o i k).length ((upto inL x.o i k).map nv) ∧ Below W.heap.size W w2 ∧ (w2.cell? ⟨ob, 0, none⟩ = some (.int .i64 o.f) ∧ w2.cell? ⟨ob, 1, none⟩ = some (.int .i64 o.i)))) (fun y _ => o.vs.length - (intOf y).toNat)
   case atStart => exact ⟨0, by omega, rfl, H2.out.1.1, H2.out.1.2, H2.out.2.1⟩
   case round =>
    obtain ⟨k, hk, rfl, hh⟩ := hrel
    have HK := Lib.hid hh.out
    clear hh
    by_cases hkl : k < o.vs.length
    ·have hkli : (k : Int) < (o.vs.length : Int) := by omega
     obtain ⟨hb1, hb2, hcs⟩ := HO.out.2.2.2.1 k hkl
     obtain ⟨o0, o1, o2⟩ := hcs wr HK.out.2.1
     have j1 := HO.out.2.2.1 (k : Int) (by omega) (by omega)
     rw [Int.toNat_natCast] at j1
     obtain ⟨vl, hvl⟩ : ∃ vl, vl = nth o.vs k := ⟨_, rfl⟩
     rw [← hvl] at o0 o1 o2 hb2
     have HV := Lib.hid (And.intro hvl hb2)
     clear hb1 hb2 hcs hvl
     go_upto_region 8 with fail
     have hbA := HK.out.2.1.alloc HK.out.2.1.size (.cells #[.int .i64 vl.k, .int .i64 vl.n, .int .i64 vl.s] 75)
     have hcn := cells_new (W := wr) (cs := [.int .i64 vl.k, .int .i64 vl.n, .int .i64 vl.s]) (t := 75) rfl
     have hgA := grownBy_alloc wr (.cells #[.int .i64 vl.k, .int .i64 vl.n, .int .i64 vl.s] 75)
     have hsA := HK.out.1.kept hgA (by simp)
     have hmlt := HK.out.1.lt
     refine gen_code (fun Z => SetT Tryz.prog 84 4 Z mb (upto inL x.o i k).length ((upto inL x.o i k).map nv) ∧ Below W.heap.size W Z ∧ (Z.cell? ⟨ob, 0, none⟩ = some (.int .i64 o.f) ∧ Z.cell? ⟨ob, 1, none⟩ = some (.int .i64 o.i)) ∧ Z.cell? ⟨wr.heap.size, 0, none⟩ = some (.int .i64 vl.k) ∧ Z.cell? ⟨wr.heap.size, 1, none⟩ = some (.int .i64 vl.n) ∧ Z.cell? ⟨wr.heap.size, 2, none⟩ = some (.int .i64 vl.s)) ⟨hsA, hbA, ⟨hgA.cell HK.out.2.2.1 (by simp), hgA.cell HK.out.2.2.2 (by simp)⟩, hcn 0 _ rfl, hcn 1 _ rfl, hcn 2 _ rfl⟩ ?_
     intro W3 hz
     obtain ⟨vb, hvb⟩ : ∃ vb, vb = wr.heap.size := ⟨_, rfl⟩
     rw [← hvb] at hz ⊢
     obtain ⟨v0, v1, v2⟩ := hz.2.2.2
     obtain ⟨f0, f1⟩ := hz.2.2.1
     have HZ := Lib.hid (And.intro hz.1 (And.intro hz.2.1 hz.2.2.1))
     clear hbA hcn hsA hgA hz hvb hmlt o0 o1 o2 j1
     by_cases hkd : vl.k = 1
     ·have w1 : (vl.k == 1) = true := by simpa using hkd
      have hmore := inL_yes (o := o) (k := k) (by rw [← HV.out.1]; exact hkd)
      have hup := upto_more inL x.o i k [(o.f, o.i, (k : Int), vl.n)] (by rw [← HO.out.1, hmore, ← HV.out.1])
      have hlen9 := HO.out.2.2.2.2 k (by omega)
      have hn9 : (upto inL x.o i k).length < maxLen := by unfold maxLen; omega
      obtain ⟨kl, hkl9⟩ := nkWf (o.f, o.i, (k : Int), vl.n) ⟨HO.out.2.1.1, HO.out.2.1.2.1, by unfold inI; dsimp only; omega, HV.out.2.2.1⟩
      have HU := Lib.hid (And.intro hup hkl9)
      clear hkd hmore hup hkl9
      go_wp2_with (at_mapUpdate; refine wp_setPut HZ.out.1 rfl _ _ _ rfl nkKeyed Tryz.underlying119 Tryz.underlying4 rfl rfl hn9 (nv (o.f, o.i, (k : Int), vl.n)) kl rfl HU.out.2 ?_; intro W4 set4 g4; have H4 := Lib.hid (And.intro set4 g4); clear set4 g4)
      have hmm : ∀ q, some mb = some q → W.heap.size ≤ q := fun q e9 => by have := HM.out; have := Option.some.inj e9; omega
      have hob : some ob ≠ some mb := fun e9 => by have := H2.out.2.2; have := Option.some.inj e9; omega
      have H5 : Hid (SetT Tryz.prog 84 4 W4 mb (upto inL x.o i (k + 1)).length ((upto inL x.o i (k + 1)).map nv) ∧ Below W.heap.size W W4 ∧ (W4.cell? ⟨ob, 0, none⟩ = some (.int .i64 o.f) ∧ W4.cell? ⟨ob, 1, none⟩ = some (.int .i64 o.i))) := Lib.hid (by
       rw [HU.out.1, List.map_append, List.length_append]
       exact ⟨H4.out.1, HZ.out.2.1.grown H4.out.2 HZ.out.2.1.size hmm, H4.out.2.cell HZ.out.2.2.1 hob, H4.out.2.cell HZ.out.2.2.2 hob⟩)
      clear hmm hob
      go_roundw
      case rel => exact ⟨k + 1, by omega, by go_num, H5.out⟩
      case measure => simp [intOf]; omega
     ·have w1 : (vl.k == 1) = false := by simpa using hkd
      have hmore := inL_no (o := o) (k := k) (by rw [← HV.out.1]; exact hkd)
      have hup := upto_more inL x.o i k [] (by rw [← HO.out.1, hmore, List.append_nil])
      rw [List.append_nil] at hup
      have HU := Lib.hid hup
      clear hkd hmore hup
      go_wp2_with fail
      go_roundw
      case rel => exact ⟨k + 1, by omega, by go_num, by rw [HU.out]; exact HZ.out⟩
      case measure => simp [intOf]; omega
    ·obtain rfl : k = o.vs.length := by omega
     have HU := Lib.hid (upto_next inL x.o hil (inL_zero _))
     clear hkl
     go_wp2_with fail
     go_roundw
     case rel => exact ⟨i + 1, by omega, by go_num, by rw [HU.out, ← HO.out.1]; exact ⟨HK.out.1, HK.out.2.1⟩⟩
     case measure => simp [intOf]; omega
  ·obtain rfl : i = x.o.length := by omega
   have hall := upto_all inL x.o inL_zero
   have hlen9 : (upto inL x.o x.o.length 0).length ≤ 1048576 := by
    rw [hall]
    exact Nat.le_trans (flat_len9 inL_len x.o) HX.out.2
   have hs := HL.out.1
   have hin : ∀ y ∈ upto inL x.o x.o.length 0, inI y.1 ∧ inI y.2.1 ∧ inI y.2.2.1 ∧ inI y.2.2.2 := fun y hy => by
    rw [hall] at hy
    obtain ⟨o, ho, hy⟩ := List.mem_flatMap.1 hy
    obtain ⟨t, ht, rfl⟩ := mem_nth ho
    obtain ⟨-, vv, hbd, hvv, -⟩ := HC.out t ht
    obtain ⟨va, vc, -, hvl, -, hvc⟩ := InS.vl hvv
    exact inL_in hbd.1 hbd.2.1 (fun j hj => (hvc j hj).2.1.2.1) (by omega) (Nat.le_refl _) hy
   have ha := ascN_any mb _ (upto inL x.o x.o.length 0) wr hs (by omega) (by omega) hin
   rw [hall] at ha
   have HA := Lib.hid ha
   clear hall hlen9 hs hin ha hil
   go_wp2_with fail
   refine HA.out.mono ?_
   rintro e W5 ⟨a, c, L, rfl, ho, hp, hm, hb⟩
   have H5 := Lib.hid (And.intro (ho.mono9 HL.out.2.size) (And.intro hp (And.intro hm (HL.out.2.trans (hb.mono HL.out.2.size)))))
   clear ho hp hm hb HA
   go_wp2_with fail
   go_ret
   exact ⟨a, c, L, rfl, H5.out.1, H5.out.2.1, H5.out.2.2.1, H5.out.2.2.2⟩
end Go.Proofs.YtnklnklkblgnfaaGreat
end
section
namespace Go.Proofs.YtnklnklkblgnfaaGreat
open Go.RowKit Go.Dfl Go.Gra Go.Obs Go.Hir Go.Sort Go.Maps
set_option maxHeartbeats 6400000 in
set_option maxRecDepth 100000 in
theorem calls_any (u : Un) (v0 v1 : Value) (x : Ex) (ov : Value) (W : World) (hu : UnIn W v0 v1 u) (h : ExIn W ov x) (hr : ∀ o ∈ x.o, ObIn u x.o o) (hn : x.o.length ≤ 1048576) :
  Calls Tryz.prog 11 #[unV u v0 v1, exV x ov] W (ascCR (edgN x.o x.o.length) W) := by
 obtain ⟨oa, oc, rfl, hlen, hidx, hcell⟩ := InS.ob h.2
 obtain ⟨N, hN⟩ : ∃ N, N = x.o.length := ⟨_, rfl⟩
 obtain ⟨ha, hac, rfl⟩ := hu.1.shape
 obtain ⟨fa, fc, rfl⟩ := hu.2.shape
 have HX := Lib.hid (And.intro h (And.intro hn (And.intro hN hu)))
 have HR := Lib.hid hr
 rw [← hN] at hidx hcell
 have hNb : N ≤ 1048576 := by rw [hN]; exact hn
 have HI := Lib.hid hidx
 have HC := Lib.hid hcell
 obtain ⟨v0, hv0⟩ : ∃ v, v = Value.slice ha u.cs.length hac := ⟨_, rfl⟩
 obtain ⟨v1, hv1⟩ : ∃ v, v = Value.slice fa u.fs.length fc := ⟨_, rfl⟩
 have HV := Lib.hid (And.intro hv0 hv1)
 have HU0 : Hid (UnIn W v0 v1 u) := Lib.hid (by rw [hv0, hv1]; exact hu)
 have H0 := Lib.hid (((Env.refl W).alloc [.slice ha u.cs.length hac, .slice fa u.fs.length fc, .int .i64 u.mn] 27).alloc [.int .i64 x.e, .slice oa N oc] 31)
 rw [World.size_alloc] at H0
 clear h hn hidx hcell hr hu hlen hv0 hv1
 rw [show exV x (.slice oa x.o.length oc) = exV x (.slice oa N oc) by rw [hN]]
 clear hN
 have hmm := @run_makeMap Tryz.prog
 unfold unV
 go_enter Tryz.func11, Tryz.ntmps11
 go_upto_region 2 with fail
 have hset := SetT.made Tryz.prog 61 4 ((W.alloc (.cells #[.slice ha u.cs.length hac, .slice fa u.fs.length fc, .int .i64 u.mn] 27)).alloc (.cells #[.int .i64 x.e, .slice oa N oc] 31)) (B := W.heap.size + 2) (by rw [World.size_alloc, World.size_alloc])
 have hev := H0.out.below ((Below.refl _ _).alloc (Nat.le_refl _) (.map #[] 0))
 refine gen_code (fun Z => SetT Tryz.prog 61 4 Z (W.heap.size + 2) 0 [] ∧ Env W [fkC (W.heap.size + 1) [.int .i64 x.e, .slice oa N oc], fkC W.heap.size [.slice ha u.cs.length hac, .slice fa u.fs.length fc, .int .i64 u.mn]] Z) ⟨hset, hev⟩ ?_
 intro W1 hz
 obtain ⟨bu, hbu⟩ : ∃ b, b = W.heap.size := ⟨_, rfl⟩
 obtain ⟨be, hbe⟩ : ∃ b, b = W.heap.size + 1 := ⟨_, rfl⟩
 obtain ⟨mb, hmb⟩ : ∃ b, b = W.heap.size + 2 := ⟨_, rfl⟩
 have HB := Lib.hid (And.intro hbu (And.intro hbe hmb))
 rw [← hmb, ← hbe, ← hbu] at hz ⊢
 rw [← HV.out.1, ← HV.out.2] at hz
 have e1 := hz.2.cell 0 rfl 1 rfl
 have H1 : Hid (SetT Tryz.prog 61 4 W1 mb (edgN x.o 0).length ((edgN x.o 0).map pv) ∧ Env W [fkC be [.int .i64 x.e, .slice oa N oc], fkC bu [v0, v1, .int .i64 u.mn]] W1) := Lib.hid hz
 clear hset hev hz hmm H0 hmb hbe hbu
 go_wp2_with fail
 clear e1
 go_loopw [15] (fun y wr => ∃ i : Nat, i ≤ N ∧ y = .int .i64 (i : Int) ∧ Hid (SetT Tryz.prog 61 4 wr mb (edgN x.o i).length ((edgN x.o i).map pv) ∧ Env W [fkC be [.int .i64 x.e, .slice oa N oc], fkC bu [v0, v1, .int .i64 u.mn]] wr)) (fun y _ => N - (intOf y).toNat)
 case atStart => exact ⟨0, by omega, rfl, H1.out⟩
 case round =>
  obtain ⟨i, hi, rfl, hh⟩ := hrel
  have HL := Lib.hid hh.out
  clear hh
  by_cases hil : i < N
  ·have hili : (i : Int) < (N : Int) := by omega
   have hlt : decide ((i : Int) < (N : Int)) = true := decide_eq_true hili
   obtain ⟨hbl, vv, hbd, hvv, hcs⟩ := HC.out i hil
   obtain ⟨o0, o1, o2, o3, o4⟩ := hcs wr HL.out.2.bel
   have j1 := HI.out (i : Int) (by omega) (by omega)
   rw [Int.toNat_natCast] at j1
   obtain ⟨o, ho⟩ : ∃ o, o = nth x.o i := ⟨_, rfl⟩
   have hr := HR.out o (by rw [ho]; exact nth_mem _ _ (by rw [← HX.out.2.2.1]; exact hil))
   have hup := edgN_next (ob := x.o) (k := i) (by rw [← HX.out.2.2.1]; exact hil)
   rw [← ho] at o0 o1 o2 o3 hbd hvv hup
   have HO := Lib.hid (And.intro hr (And.intro hup (And.intro hbd hvv)))
   have hE2 := HL.out.2.alloc [.int .i64 o.f, .int .i64 o.i, .int .i64 o.fr, .int .i64 o.c, vv] 79
   have hS2 := HL.out.1.kept (grownBy_alloc wr (.cells #[.int .i64 o.f, .int .i64 o.i, .int .i64 o.fr, .int .i64 o.c, vv] 79)) (by simp)
   have H2 := Lib.hid (And.intro hE2 (And.intro hS2 HL.out.1.lt))
   obtain ⟨va, vc, rfl⟩ := hvv.shape
   clear hbl hbd hvv hcs ho hr hup hE2 hS2
   go_upto_region 5 with fail
   refine gen_code (fun Z => Env W [fkC wr.heap.size [.int .i64 o.f, .int .i64 o.i, .int .i64 o.fr, .int .i64 o.c, .slice va o.vs.length vc], fkC be [.int .i64 x.e, .slice oa N oc], fkC bu [v0, v1, .int .i64 u.mn]] Z ∧ SetT Tryz.prog 61 4 Z mb (edgN x.o i).length ((edgN x.o i).map pv)) ⟨H2.out.1, H2.out.2.1⟩ ?_
   intro W2 hz
   obtain ⟨bo, hbo⟩ : ∃ b, b = wr.heap.size := ⟨_, rfl⟩
   have HM := Lib.hid (show mb < bo by rw [hbo]; exact H2.out.2.2)
   rw [← hbo] at hz ⊢
   have HZ := Lib.hid hz
   have c3 := hz.1.cell 0 rfl 3 rfl
   have e1 := hz.1.cell 1 rfl 1 rfl
   clear hbo hz H2 o0 o1 o2 o3 o4 j1 hlt hili HL
   rcases HO.out.1.c with hc | ⟨hc0, hc1, hcop⟩
   ·have t1 : decide (o.c < 0) = true := decide_eq_true hc
    have hmore := edgL_no (ob := x.o) (o := o) (by omega)
    have HU := Lib.hid (show edgN x.o (i + 1) = edgN x.o i by rw [HO.out.2.1, hmore, List.append_nil])
    clear hc hmore
    go_wp2_with fail
    go_roundw
    case rel => exact ⟨i + 1, by omega, by go_num, by rw [HU.out]; exact ⟨HZ.out.2, HZ.out.1.drop 1⟩⟩
    case measure => simp [intOf]; omega
   ·obtain ⟨k, hk⟩ : ∃ k : Nat, o.c = (k : Int) := ⟨o.c.toNat, by omega⟩
    have hk2 : o.c.toNat = k := by omega
    have hmore := edgL_yes (ob := x.o) (o := o) hc0
    rw [hk] at c3
    rw [hk2] at hcop hmore
    have hkN : k < N := by have := HX.out.2.2.1; omega
    obtain ⟨p, hp⟩ : ∃ p, p = nth x.o k := ⟨_, rfl⟩
    have hpr := HR.out p (by rw [hp]; exact nth_mem _ _ (by rw [← HX.out.2.2.1]; exact hkN))
    obtain ⟨-, vp, hbd, hvp, hcs⟩ := HC.out k hkN
    rw [← hp] at hcop hbd hvp hcs hmore
    obtain ⟨pf, hpf⟩ : ∃ q : Nat, p.f = (q : Int) := ⟨p.f.toNat, by have := hpr.f; omega⟩
    obtain ⟨pi, hpi⟩ : ∃ q : Nat, p.i = (q : Int) := ⟨p.i.toNat, by have := hpr.i; omega⟩
    have hpf2 : p.f.toNat = pf := by omega
    have hpi2 : p.i.toNat = pi := by omega
    have hlf : pf < u.fs.length := by have := hpr.f.2; omega
    have hli : pi < (nth u.fs pf).cd.length := by have := hpr.i.2; rw [hpf2] at this; omega
    obtain ⟨p0, p1, p2, p3, p4⟩ := hcs W2 HZ.out.1.bel
    rw [hpf] at p0
    rw [hpi] at p1
    obtain ⟨y, hy⟩ : ∃ y, y = nth (nth u.fs pf).cd pi := ⟨_, rfl⟩
    have hop : y.op = 9 ∨ y.op = 10 := by unfold insO at hcop; rw [hpf2, hpi2, ← hy] at hcop; exact hcop
    rw [hpf, hpi] at hmore
    obtain ⟨sa, sc, rfl⟩ := hvp.shape
    have HP := Lib.hid (And.intro hlf (And.intro hli (And.intro hy (And.intro hop (And.intro (show edgN x.o (i + 1) = edgN x.o i ++ [((pf : Int), (pi : Int), o.f)] by rw [HO.out.2.1, hmore]) (show inI (pf : Int) ∧ inI (pi : Int) by rw [← hpf, ← hpi]; exact ⟨hbd.1, hbd.2.1⟩))))))
    have j2 := HI.out (k : Int) (by omega) (by omega)
    rw [Int.toNat_natCast] at j2
    have t1 : decide ((k : Int) < 0) = false := decide_eq_false (by omega)
    have t2 : decide ((N : Int) ≤ (k : Int)) = false := decide_eq_false (by omega)
    have t3 : decide (N ≤ k) = false := decide_eq_false (by omega)
    obtain ⟨P, hP⟩ : ∃ P, P = p.vs.length := ⟨_, rfl⟩
    rw [← hP] at p4
    obtain ⟨pr, hpr2⟩ : ∃ q, q = p.fr := ⟨_, rfl⟩
    obtain ⟨pc, hpc⟩ : ∃ q, q = p.c := ⟨_, rfl⟩
    rw [← hpr2] at p2
    rw [← hpc] at p3
    clear hc0 hc1 hcop hk hk2 hmore hp hpr hbd hvp hcs hpf hpi hpf2 hpi2 hlf hli hy hop hP hpr2 hpc hkN
    have hE3 := HZ.out.1.alloc [.int .i64 (pf : Int), .int .i64 (pi : Int), .int .i64 pr, .int .i64 pc, .slice sa P sc] 79
    have hS3 := HZ.out.2.kept (grownBy_alloc W2 (.cells #[.int .i64 (pf : Int), .int .i64 (pi : Int), .int .i64 pr, .int .i64 pc, .slice sa P sc] 79)) (by simp)
    have H3 := Lib.hid (And.intro hE3 (And.intro hS3 HZ.out.2.lt))
    clear hE3 hS3
    go_upto_region 7 with fail
    refine gen_code (fun Z => Env W [fkC W2.heap.size [.int .i64 (pf : Int), .int .i64 (pi : Int), .int .i64 pr, .int .i64 pc, .slice sa P sc], fkC bo [.int .i64 o.f, .int .i64 o.i, .int .i64 o.fr, .int .i64 o.c, .slice va o.vs.length vc], fkC be [.int .i64 x.e, .slice oa N oc], fkC bu [v0, v1, .int .i64 u.mn]] Z ∧ SetT Tryz.prog 61 4 Z mb (edgN x.o i).length ((edgN x.o i).map pv)) ⟨H3.out.1, H3.out.2.1⟩ ?_
    intro W3 hz
    obtain ⟨bp, hbp⟩ : ∃ b, b = W2.heap.size := ⟨_, rfl⟩
    have HM3 := Lib.hid (show mb < bp by rw [hbp]; exact H3.out.2.2)
    rw [← hbp] at hz ⊢
    have HZ3 := Lib.hid hz
    obtain ⟨g0, g1, g2, g3, g4⟩ : W3.cell? ⟨bp, 0, none⟩ = some (.int .i64 (pf : Int)) ∧ W3.cell? ⟨bp, 1, none⟩ = some (.int .i64 (pi : Int)) ∧ W3.cell? ⟨bp, 2, none⟩ = some (.int .i64 pr) ∧ W3.cell? ⟨bp, 3, none⟩ = some (.int .i64 pc) ∧ W3.cell? ⟨bp, 4, none⟩ = some (.slice sa P sc) := ⟨hz.1.cell 0 rfl 0 rfl, hz.1.cell 0 rfl 1 rfl, hz.1.cell 0 rfl 2 rfl, hz.1.cell 0 rfl 3 rfl, hz.1.cell 0 rfl 4 rfl⟩
    obtain ⟨u0, u1, u2⟩ : W3.cell? ⟨bu, 0, none⟩ = some v0 ∧ W3.cell? ⟨bu, 1, none⟩ = some v1 ∧ W3.cell? ⟨bu, 2, none⟩ = some (.int .i64 u.mn) := ⟨hz.1.cell 3 rfl 0 rfl, hz.1.cell 3 rfl 1 rfl, hz.1.cell 3 rfl 2 rfl⟩
    have hcall := oInstr_any u v0 v1 pf pi pr pc (.slice sa P sc) W3 (HU0.out.below hz.1.bel) HP.out.1 HP.out.2.1 ⟨_, _, _, rfl⟩
    rw [← HP.out.2.2.1] at hcall
    have HCL := Lib.hid hcall
    clear hbp hz H3 c3 e1 p0 p1 p2 p3 p4 j2 t1 t2 t3 hcall
    go_wp2_with fail
    refine HCL.out.mono ?_
    rintro e W4 ⟨yv, rfl, hyv, hb4⟩
    obtain ⟨ya, yc, hys⟩ := hyv.shape
    have hS4 := HZ3.out.2.kept (grownBy_below hb4) (by simp)
    have hE4 := (HZ3.out.1.below hb4).alloc [.int .i64 y.op, .int .i64 y.d, .int .i64 y.a, .int .i64 y.b, .int .i64 y.n, .string y.c, .string y.m, yv, .int .i64 y.g, .int .i64 y.ct] 87
    have hS5 := hS4.kept (grownBy_alloc W4 (.cells #[.int .i64 y.op, .int .i64 y.d, .int .i64 y.a, .int .i64 y.b, .int .i64 y.n, .string y.c, .string y.m, yv, .int .i64 y.g, .int .i64 y.ct] 87)) (by simp)
    have H4 := Lib.hid (And.intro hE4 hS5)
    have HY := Lib.hid hys
    rw [hys]
    clear hb4 HCL g0 g1 g2 g3 g4 u0 u1 u2 hS4 hE4 hS5 hyv hys
    go_upto_region 8 with fail
    rw [← HY.out]
    refine gen_code (fun Z => Env W [fkC W4.heap.size [.int .i64 y.op, .int .i64 y.d, .int .i64 y.a, .int .i64 y.b, .int .i64 y.n, .string y.c, .string y.m, yv, .int .i64 y.g, .int .i64 y.ct], fkC bp [.int .i64 (pf : Int), .int .i64 (pi : Int), .int .i64 pr, .int .i64 pc, .slice sa P sc], fkC bo [.int .i64 o.f, .int .i64 o.i, .int .i64 o.fr, .int .i64 o.c, .slice va o.vs.length vc], fkC be [.int .i64 x.e, .slice oa N oc], fkC bu [v0, v1, .int .i64 u.mn]] Z ∧ SetT Tryz.prog 61 4 Z mb (edgN x.o i).length ((edgN x.o i).map pv)) H4.out ?_
    intro W5 hz
    obtain ⟨bc, hbc⟩ : ∃ b, b = W4.heap.size := ⟨_, rfl⟩
    rw [← hbc] at hz ⊢
    have HZ5 := Lib.hid hz
    have c0 := hz.1.cell 0 rfl 0 rfl
    have p0 := hz.1.cell 1 rfl 0 rfl
    have p1 := hz.1.cell 1 rfl 1 rfl
    have q0 := hz.1.cell 2 rfl 0 rfl
    have hpr := HO.out.2.2.1
    obtain ⟨kl, hkl⟩ := ckWf ((pf : Int), (pi : Int), o.f) ⟨HP.out.2.2.2.2.2.1, HP.out.2.2.2.2.2.2, hpr.1⟩
    have HUK := Lib.hid hkl
    have hn9 : (edgN x.o i).length < maxLen := by
     have h1 := edgN_len x.o i (by have := HX.out.2.2.1; omega)
     have h2 := HX.out.2.1
     have h3 := HX.out.2.2.1
     unfold maxLen; omega
    clear hbc hz H4 hkl hpr
    have hstep : ∀ t, t = y.op → (t == 9 || t == 10) = true := fun t ht => by
     rcases HP.out.2.2.2.1 with h | h <;> rw [ht, h] <;> rfl
    have HST := Lib.hid hstep
    clear hstep
    go_cut [52] (fun q wx => q = .bool true ∧ wx = W5)
    case first =>
     rcases HP.out.2.2.2.1 with h | h
     ·have t1 : (y.op == 9) = true := by simp [h]
      clear h
      go_wp2_with fail
      go_meet
      case rel => exact ⟨rfl, rfl⟩
     ·have t1 : (y.op == 9) = false := by simp [h]
      have t2 : (y.op == 10) = true := by simp [h]
      clear h
      go_wp2_with fail
      go_meet
      case rel => exact ⟨rfl, rfl⟩
    case rest =>
    obtain ⟨rfl, rfl⟩ := hcut
    go_wp2_with (at_mapUpdate; refine wp_setPut HZ5.out.2 rfl _ _ _ rfl ckKeyed Tryz.underlying107 Tryz.underlying4 rfl rfl hn9 (pv ((pf : Int), (pi : Int), o.f)) kl rfl HUK.out ?_; intro W8 set8 g8; have H8 := Lib.hid (And.intro set8 g8); clear set8 g8)
    have H9 : Hid (SetT Tryz.prog 61 4 W8 mb (edgN x.o (i + 1)).length ((edgN x.o (i + 1)).map pv) ∧ Env W [fkC be [.int .i64 x.e, .slice oa N oc], fkC bu [v0, v1, .int .i64 u.mn]] W8) := Lib.hid (by
     have hB := HB.out
     refine ⟨by rw [HP.out.2.2.2.2.1, List.map_append, List.length_append]; exact H8.out.1, (HZ5.out.1.drop 3).grown H8.out.2 (fun q e => by have := Option.some.inj e; omega) (fun f hf hp => ?_)⟩
     rcases List.mem_cons.1 hf with rfl | hf
     ·exact fkC_grown hp H8.out.2 (fun e => by have := Option.some.inj e; omega)
     ·rw [List.mem_singleton.1 hf] at hp ⊢
      exact fkC_grown hp H8.out.2 (fun e => by have := Option.some.inj e; omega))
    clear H8
    go_roundw
    case rel => exact ⟨i + 1, by omega, by go_num, H9.out⟩
    case measure => simp [intOf]; omega
  ·obtain rfl : i = N := by omega
   have hs := HL.out.1
   have hin : ∀ z ∈ edgN x.o i, inI z.1 ∧ inI z.2.1 ∧ inI z.2.2 := fun z hz => by
    rw [show edgN x.o i = x.o.flatMap (edgL x.o) by rw [HX.out.2.2.1, edgN_all]] at hz
    obtain ⟨o, ho, hz⟩ := List.mem_flatMap.1 hz
    have hro := HR.out o ho
    unfold edgL at hz
    split at hz
    ·rename_i h9
     rw [List.mem_singleton] at hz
     subst hz
     have hc := hro.c
     obtain ⟨t, ht, rfl⟩ := mem_nth ho
     obtain ⟨-, -, hbd, -⟩ := HC.out t (by rw [HX.out.2.2.1]; exact ht)
     obtain ⟨-, -, hbd2, -⟩ := HC.out (nth x.o t).c.toNat (by rw [HX.out.2.2.1]; omega)
     exact ⟨hbd2.1, hbd2.2.1, hbd.1⟩
    ·exact absurd hz (by simp)
   have hlen9 : (edgN x.o i).length ≤ 1048576 := Nat.le_trans (edgN_len x.o i (by rw [HX.out.2.2.1]; exact Nat.le_refl _)) (by have := HX.out.2.1; have := HX.out.2.2.1; omega)
   have ha := ascC_any mb _ (edgN x.o i) wr hs (by omega) (by omega) hin
   rw [show edgN x.o i = edgN x.o x.o.length by rw [← HX.out.2.2.1]] at ha
   have HA := Lib.hid ha
   clear hs hin ha hlen9 hil
   go_wp2_with fail
   refine HA.out.mono ?_
   rintro e W5 ⟨a, c, L, rfl, ho, hp, hm, hb⟩
   have H5 := Lib.hid (And.intro (ho.mono9 HL.out.2.bel.size) (And.intro hp (And.intro hm (HL.out.2.bel.trans (hb.mono HL.out.2.bel.size)))))
   clear ho hp hm hb HA
   go_wp2_with fail
   go_ret
   exact ⟨a, c, L, rfl, H5.out.1, H5.out.2.1, H5.out.2.2.1, H5.out.2.2.2⟩
end Go.Proofs.YtnklnklkblgnfaaGreat
end
section
namespace Go.Proofs.YtnklnklkblgnfaaGreat
open Go.RowKit Go.Dfl Go.Obs Go.Hir
open Go.Gra (gen_code gen_calls)
set_option maxHeartbeats 3200000 in
set_option maxRecDepth 4000 in
theorem oValue_any (f i fr c : Int) (vv : Value) (l : List Vl) (v : Int) (W : World) (h : InS vVal W vv l) (h0 : 0 ≤ v) (h1 : v < l.length) :
  Calls Tryz.prog 25 #[obsV f i fr c vv, .int .i64 v] W fun e W' => e = .returned (vlV (nth l v.toNat)) ∧ Below W.heap.size W W' := by
 obtain ⟨va, vc, rfl, hvl, hvi, hvc⟩ := InS.vl h
 obtain ⟨-, -, hz⟩ := hvc v.toNat (by omega)
 obtain ⟨N, hN⟩ : ∃ N, N = l.length := ⟨_, rfl⟩
 rw [← hN] at hvi h1 ⊢
 have jv := hvi v h0 h1
 obtain ⟨x, hx⟩ : ∃ x, x = nth l v.toNat := ⟨_, rfl⟩
 rw [← hx] at hz ⊢
 have hE1 := (Env.refl W).alloc [.int .i64 f, .int .i64 i, .int .i64 fr, .int .i64 c, .slice va N vc] 79
 have hE2 := (hE1.below ((Below.refl _ _).alloc (Nat.le_refl _) (.cells #[.int .i64 0, .int .i64 0, .int .i64 0] 75))).add (q := fkH _ (.cells #[.int .i64 0, .int .i64 0, .int .i64 0] 75)) (heap_alloc_new _ _)
 rw [World.size_alloc] at hE2
 have HE := Lib.hid hE2
 have HC := Lib.hid hz
 have t1 : decide (v < 0) = false := decide_eq_false (by omega)
 have t2 : decide ((N : Int) ≤ v) = false := decide_eq_false (by omega)
 clear h hvl hvi hvc hN hx hE1 hE2 hz
 unfold obsV
 go_enter Tryz.func25, Tryz.ntmps25
 go_upto_region 1 with fail
 refine gen_code (fun Z => Env W [fkH (W.heap.size + 1) (.cells #[.int .i64 0, .int .i64 0, .int .i64 0] 75), fkC W.heap.size [.int .i64 f, .int .i64 i, .int .i64 fr, .int .i64 c, .slice va N vc]] Z) HE.out ?_
 intro Z hZ
 obtain ⟨bo, hbo⟩ : ∃ b, b = W.heap.size := ⟨_, rfl⟩
 obtain ⟨br, hbr⟩ : ∃ b, b = W.heap.size + 1 := ⟨_, rfl⟩
 have HB := Lib.hid hbr
 rw [← hbr, ← hbo] at hZ ⊢
 have HZ := Lib.hid hZ
 have o4 := hZ.cell 1 rfl 4 rfl
 obtain ⟨x0, x1, x2⟩ := HC.out Z hZ.bel
 have hN : Z.heap[br]? = some (.cells #[.int .i64 0, .int .i64 0, .int .i64 0] 75) := hZ.fact 0 rfl
 obtain ⟨⟨z0, z1, z2, zf⟩, hC, hG⟩ := store3 (y0 := (.int .i64 x.k)) (y1 := (.int .i64 x.n)) (y2 := (.int .i64 x.s)) hN
 have f0 := zf 0
 have f1 := zf 1
 have f2 := zf 2
 have HG := Lib.hid (And.intro hC hG)
 clear hC hG zf
 clear hN hZ hbo hbr HE HC
 go_wp2_with fail
 (try simp only [Exit.inBlock, Exit.then])
 refine bodyPost_ret (v := (vlV x)) (by rw [results_one rfl]; go_simp; try rfl) rfl ?_
 exact ⟨rfl, HZ.out.bel.grown HG.out.2 HZ.out.bel.size (fun q e => by injection e with e; have := HB.out; omega)⟩
end Go.Proofs.YtnklnklkblgnfaaGreat
end
section
namespace Go.Proofs.YtnklnklkblgnfaaGreat
open Go.RowKit Go.Dfl Go.Gra Go.Obs Go.Hir Go.Sort Go.Maps
set_option maxHeartbeats 12800000 in
set_option maxRecDepth 100000 in
theorem cells_any (u : Un) (v0 v1 : Value) (x : Ex) (ov : Value) (W : World) (hu : UnIn W v0 v1 u) (h : ExIn W ov x) (hr : ∀ o ∈ x.o, ObIn u x.o o) (hst : ∀ o ∈ x.o, (insO u o).op = 8 → (0 ≤ (insO u o).a ∧ (insO u o).a < o.vs.length) ∧ (0 ≤ (insO u o).b ∧ (insO u o).b < o.vs.length)) (hsz : ∀ o ∈ x.o, (insO u o).m.size ≤ maxLen) (hn : x.o.length ≤ 1048576) :
  Calls Tryz.prog 9 #[unV u v0 v1, exV x ov] W (ascFR (celN u x.o x.o.length) W) := by
 obtain ⟨oa, oc, rfl, hlen, hidx, hcell⟩ := InS.ob h.2
 obtain ⟨N, hN⟩ : ∃ N, N = x.o.length := ⟨_, rfl⟩
 obtain ⟨ha, hac, hv0⟩ := hu.1.shape
 obtain ⟨fa, fc, hv1⟩ := hu.2.shape
 have HX := Lib.hid (And.intro h (And.intro hn (And.intro hN hu)))
 have HR := Lib.hid (And.intro hr (And.intro hst hsz))
 rw [← hN] at hidx hcell
 have hNb : N ≤ 1048576 := by rw [hN]; exact hn
 have HI := Lib.hid hidx
 have HC := Lib.hid hcell
 have HU0 := Lib.hid hu
 have HVV := Lib.hid (And.intro hv0 hv1)
 have H0 : Hid (Env W [fkC (W.heap.size + 1) [.int .i64 x.e, .slice oa N oc], fkC W.heap.size [v0, v1, .int .i64 u.mn]] ((W.alloc (.cells #[v0, v1, .int .i64 u.mn] 27)).alloc (.cells #[.int .i64 x.e, .slice oa N oc] 31))) := Lib.hid (by
  have := ((Env.refl W).alloc [v0, v1, .int .i64 u.mn] 27).alloc [.int .i64 x.e, .slice oa N oc] 31
  rw [World.size_alloc] at this
  exact this)
 rw [hv0, hv1] at H0
 rw [hv0, hv1]
 clear h hn hidx hcell hr hu hlen hv0 hv1 hst hsz
 rw [show exV x (.slice oa x.o.length oc) = exV x (.slice oa N oc) by rw [hN]]
 clear hN
 have hmm := @run_makeMap Tryz.prog
 unfold unV
 go_enter Tryz.func9, Tryz.ntmps9
 go_upto_region 2 with fail
 rw [← HVV.out.1, ← HVV.out.2] at H0 ⊢
 have hset := SetT.made Tryz.prog 54 4 ((W.alloc (.cells #[v0, v1, .int .i64 u.mn] 27)).alloc (.cells #[.int .i64 x.e, .slice oa N oc] 31)) (B := W.heap.size + 2) (by rw [World.size_alloc, World.size_alloc])
 have hev := H0.out.below ((Below.refl _ _).alloc (Nat.le_refl _) (.map #[] 0))
 refine gen_code (fun Z => SetT Tryz.prog 54 4 Z (W.heap.size + 2) 0 [] ∧ Env W [fkC (W.heap.size + 1) [.int .i64 x.e, .slice oa N oc], fkC W.heap.size [v0, v1, .int .i64 u.mn]] Z) ⟨hset, hev⟩ ?_
 intro W1 hz
 obtain ⟨bu, hbu⟩ : ∃ b, b = W.heap.size := ⟨_, rfl⟩
 obtain ⟨be, hbe⟩ : ∃ b, b = W.heap.size + 1 := ⟨_, rfl⟩
 obtain ⟨mb, hmb⟩ : ∃ b, b = W.heap.size + 2 := ⟨_, rfl⟩
 have HB := Lib.hid (And.intro hbu (And.intro hbe hmb))
 rw [← hmb, ← hbe, ← hbu] at hz ⊢
 have e1 := hz.2.cell 0 rfl 1 rfl
 have H1 : Hid (SetT Tryz.prog 54 4 W1 mb (celN u x.o 0).length ((celN u x.o 0).map cv) ∧ Env W [fkC be [.int .i64 x.e, .slice oa N oc], fkC bu [v0, v1, .int .i64 u.mn]] W1) := Lib.hid hz
 clear hset hev hz hmm H0 hmb hbe hbu
 go_wp2_with fail
 clear e1
 go_loopw [16] (fun y wr => ∃ i : Nat, i ≤ N ∧ y = .int .i64 (i : Int) ∧ Hid (SetT Tryz.prog 54 4 wr mb (celN u x.o i).length ((celN u x.o i).map cv) ∧ Env W [fkC be [.int .i64 x.e, .slice oa N oc], fkC bu [v0, v1, .int .i64 u.mn]] wr)) (fun y _ => N - (intOf y).toNat)
 case atStart => exact ⟨0, by omega, rfl, H1.out⟩
 case round =>
  obtain ⟨i, hi, rfl, hh⟩ := hrel
  have HL := Lib.hid hh.out
  clear hh
  by_cases hil : i < N
  ·have hili : (i : Int) < (N : Int) := by omega
   have hlt : decide ((i : Int) < (N : Int)) = true := decide_eq_true hili
   obtain ⟨hbl, vv, hbd, hvv, hcs⟩ := HC.out i hil
   obtain ⟨o0, o1, o2, o3, o4⟩ := hcs wr HL.out.2.bel
   have j1 := HI.out (i : Int) (by omega) (by omega)
   rw [Int.toNat_natCast] at j1
   obtain ⟨o, ho⟩ : ∃ o, o = nth x.o i := ⟨_, rfl⟩
   have hmem : o ∈ x.o := by rw [ho]; exact nth_mem _ _ (by rw [← HX.out.2.2.1]; exact hil)
   have hr := HR.out.1 o hmem
   have hst := HR.out.2.1 o hmem
   have hsz := HR.out.2.2 o hmem
   have hup := celN_next (u := u) (l := x.o) (k := i) (by rw [← HX.out.2.2.1]; exact hil)
   rw [← ho] at o0 o1 o2 o3 hbd hvv hup
   obtain ⟨va0, vc0, rfl⟩ := hvv.shape
   obtain ⟨N0, hN0⟩ : ∃ n, n = o.vs.length := ⟨_, rfl⟩
   rw [← hN0] at o4 hvv
   have HO := Lib.hid (And.intro hr (And.intro hup (And.intro hbd (And.intro hvv (And.intro hst (And.intro hsz hN0))))))
   obtain ⟨pf, hpf⟩ : ∃ q : Nat, o.f = (q : Int) := ⟨o.f.toNat, by have := hr.f; omega⟩
   obtain ⟨pi, hpi⟩ : ∃ q : Nat, o.i = (q : Int) := ⟨o.i.toNat, by have := hr.i; omega⟩
   have hE2 := HL.out.2.alloc [.int .i64 o.f, .int .i64 o.i, .int .i64 o.fr, .int .i64 o.c, .slice va0 N0 vc0] 79
   have hS2 := HL.out.1.kept (grownBy_alloc wr (.cells #[.int .i64 o.f, .int .i64 o.i, .int .i64 o.fr, .int .i64 o.c, .slice va0 N0 vc0] 79)) (by simp)
   have H2 := Lib.hid (And.intro hE2 (And.intro hS2 HL.out.1.lt))
   have hpf2 : o.f.toNat = pf := by omega
   have hpi2 : o.i.toNat = pi := by omega
   have hlf : pf < u.fs.length := by have := hr.f.2; omega
   have hli : pi < (nth u.fs pf).cd.length := by have := hr.i.2; rw [hpf2] at this; omega
   obtain ⟨y, hy⟩ : ∃ y, y = insO u o := ⟨_, rfl⟩
   have hyy : nth (nth u.fs pf).cd pi = y := by rw [hy]; unfold insO; rw [hpf2, hpi2]
   have HP := Lib.hid (And.intro hlf (And.intro hli (And.intro hyy (And.intro hy (And.intro hpf hpi)))))
   clear hbl hbd hvv hcs ho hr hup hE2 hS2 hmem hst hsz hN0 hpf hpi hpf2 hpi2 hlf hli hy hyy
   go_upto_region 5 with fail
   refine gen_code (fun Z => Env W [fkC wr.heap.size [.int .i64 o.f, .int .i64 o.i, .int .i64 o.fr, .int .i64 o.c, .slice va0 N0 vc0], fkC be [.int .i64 x.e, .slice oa N oc], fkC bu [v0, v1, .int .i64 u.mn]] Z ∧ SetT Tryz.prog 54 4 Z mb (celN u x.o i).length ((celN u x.o i).map cv)) ⟨H2.out.1, H2.out.2.1⟩ ?_
   intro W2 hz
   obtain ⟨bo, hbo⟩ : ∃ b, b = wr.heap.size := ⟨_, rfl⟩
   have HM := Lib.hid (show mb < bo by rw [hbo]; exact H2.out.2.2)
   rw [← hbo] at hz ⊢
   have HZ := Lib.hid hz
   obtain ⟨g0, g1, g2, g3, g4⟩ : W2.cell? ⟨bo, 0, none⟩ = some (.int .i64 o.f) ∧ W2.cell? ⟨bo, 1, none⟩ = some (.int .i64 o.i) ∧ W2.cell? ⟨bo, 2, none⟩ = some (.int .i64 o.fr) ∧ W2.cell? ⟨bo, 3, none⟩ = some (.int .i64 o.c) ∧ W2.cell? ⟨bo, 4, none⟩ = some (.slice va0 N0 vc0) := ⟨hz.1.cell 0 rfl 0 rfl, hz.1.cell 0 rfl 1 rfl, hz.1.cell 0 rfl 2 rfl, hz.1.cell 0 rfl 3 rfl, hz.1.cell 0 rfl 4 rfl⟩
   obtain ⟨u0, u1, u2⟩ : W2.cell? ⟨bu, 0, none⟩ = some v0 ∧ W2.cell? ⟨bu, 1, none⟩ = some v1 ∧ W2.cell? ⟨bu, 2, none⟩ = some (.int .i64 u.mn) := ⟨hz.1.cell 2 rfl 0 rfl, hz.1.cell 2 rfl 1 rfl, hz.1.cell 2 rfl 2 rfl⟩
   have hcall := oInstr_any u v0 v1 pf pi o.fr o.c (.slice va0 N0 vc0) W2 (HU0.out.below hz.1.bel) HP.out.1 HP.out.2.1 ⟨_, _, _, rfl⟩
   rw [HP.out.2.2.1, ← HP.out.2.2.2.2.1, ← HP.out.2.2.2.2.2] at hcall
   have HCL := Lib.hid hcall
   clear hbo hz H2 o0 o1 o2 o3 o4 j1 hlt hili HL hcall
   go_wp2_with fail
   refine HCL.out.mono ?_
   rintro e W4 ⟨yv, rfl, hyv, hb4⟩
   obtain ⟨ya, yc, hys⟩ := hyv.shape
   have hS4 := HZ.out.2.kept (grownBy_below hb4) (by simp)
   have hE4 := (HZ.out.1.below hb4).alloc [.int .i64 y.op, .int .i64 y.d, .int .i64 y.a, .int .i64 y.b, .int .i64 y.n, .string y.c, .string y.m, yv, .int .i64 y.g, .int .i64 y.ct] 87
   have hS5 := hS4.kept (grownBy_alloc W4 (.cells #[.int .i64 y.op, .int .i64 y.d, .int .i64 y.a, .int .i64 y.b, .int .i64 y.n, .string y.c, .string y.m, yv, .int .i64 y.g, .int .i64 y.ct] 87)) (by simp)
   have H4 := Lib.hid (And.intro hE4 (And.intro hS5 (HZ.out.1.below hb4)))
   have HY := Lib.hid hys
   rw [hys]
   clear hb4 HCL g0 g1 g2 g3 g4 u0 u1 u2 hS4 hE4 hS5 hyv hys
   go_upto_region 6 with fail
   rw [← HY.out]
   refine gen_code (fun Z => Env W [fkC W4.heap.size [.int .i64 y.op, .int .i64 y.d, .int .i64 y.a, .int .i64 y.b, .int .i64 y.n, .string y.c, .string y.m, yv, .int .i64 y.g, .int .i64 y.ct], fkC bo [.int .i64 o.f, .int .i64 o.i, .int .i64 o.fr, .int .i64 o.c, .slice va0 N0 vc0], fkC be [.int .i64 x.e, .slice oa N oc], fkC bu [v0, v1, .int .i64 u.mn]] Z ∧ SetT Tryz.prog 54 4 Z mb (celN u x.o i).length ((celN u x.o i).map cv)) ⟨H4.out.1, H4.out.2.1⟩ ?_
   intro W5 hz
   obtain ⟨bc, hbc⟩ : ∃ b, b = W4.heap.size := ⟨_, rfl⟩
   rw [← hbc] at hz ⊢
   have HZ5 := Lib.hid hz
   have c0 := hz.1.cell 0 rfl 0 rfl
   clear hbc hz H4
   by_cases h8 : y.op = 8
   case neg =>
    have t8 : (y.op != 8) = true := by simpa using h8
    have HU := Lib.hid (show celN u x.o (i + 1) = celN u x.o i by rw [HO.out.2.1, celL_no (fun h => h8 (by rw [HP.out.2.2.2.1]; exact h.1)), List.append_nil])
    clear h8
    go_wp2_with fail
    go_roundw
    case rel => exact ⟨i + 1, by omega, by go_num, by rw [HU.out]; exact ⟨HZ5.out.2, HZ5.out.1.drop 2⟩⟩
    case measure => simp [intOf]; omega
   have t8 : (y.op != 8) = false := by simpa using h8
   obtain ⟨⟨a0, a1⟩, b0, b1⟩ := HO.out.2.2.2.2.1 (by rw [← HP.out.2.2.2.1]; exact h8)
   rw [← HP.out.2.2.2.1] at a0 a1 b0 b1
   obtain ⟨va, hva⟩ : ∃ v, v = nth o.vs y.a.toNat := ⟨_, rfl⟩
   obtain ⟨vb, hvb⟩ : ∃ v, v = nth o.vs y.b.toNat := ⟨_, rfl⟩
   have HAB := Lib.hid (And.intro hva (And.intro hvb h8))
   have hia : inI va.k ∧ inI va.n ∧ inI va.s := by
    obtain ⟨_, _, -, -, -, hvc⟩ := InS.vl (l := o.vs) (by rw [HO.out.2.2.2.2.2.2] at HO; exact HO.out.2.2.2.1)
    rw [hva]; exact (hvc y.a.toNat (by omega)).2.1
   have hib : inI vb.k ∧ inI vb.n ∧ inI vb.s := by
    obtain ⟨_, _, -, -, -, hvc⟩ := InS.vl (l := o.vs) (by rw [HO.out.2.2.2.2.2.2] at HO; exact HO.out.2.2.2.1)
    rw [hvb]; exact (hvc y.b.toNat (by omega)).2.1
   have HIN := Lib.hid (And.intro hia hib)
   have HV0 := Lib.hid (And.intro HZ5.out.1.drew (HZ5.out.2.kept (grownBy_drew0 _) (by simp)))
   have HIA := Lib.hid (show ∀ Z, Below W5.drew.heap.size W5.drew Z → Calls Tryz.prog 25 #[obsV o.f o.i o.fr o.c (.slice va0 N0 vc0), .int .i64 y.a] Z fun e Z' => e = .returned (vlV va) ∧ Below Z.heap.size Z Z' from fun Z hZ => by
    rw [hva]
    exact oValue_any _ _ _ _ _ o.vs y.a Z (by have h9 := HO.out.2.2.2.1.below (HV0.out.1.below hZ).bel; exact h9) a0 a1)
   have HIB := Lib.hid (show ∀ Z, Below W5.drew.heap.size W5.drew Z → Calls Tryz.prog 25 #[obsV o.f o.i o.fr o.c (.slice va0 N0 vc0), .int .i64 y.b] Z fun e Z' => e = .returned (vlV vb) ∧ Below Z.heap.size Z Z' from fun Z hZ => by
    rw [hvb]
    exact oValue_any _ _ _ _ _ o.vs y.b Z (by have h9 := HO.out.2.2.2.1.below (HV0.out.1.below hZ).bel; exact h9) b0 b1)
   have HS0 := Lib.hid (show ∀ w', Below W5.drew.heap.size W5.drew w' → (w'.cell? ⟨bo, 0, none⟩ = some (.int .i64 o.f) ∧ w'.cell? ⟨bo, 1, none⟩ = some (.int .i64 o.i) ∧ w'.cell? ⟨bo, 2, none⟩ = some (.int .i64 o.fr) ∧ w'.cell? ⟨bo, 3, none⟩ = some (.int .i64 o.c) ∧ w'.cell? ⟨bo, 4, none⟩ = some (.slice va0 N0 vc0) ∧ w'.cell? ⟨bc, 2, none⟩ = some (.int .i64 y.a) ∧ w'.cell? ⟨bc, 3, none⟩ = some (.int .i64 y.b)) from fun w' hw => by
    have h := HV0.out.1.below hw
    exact ⟨h.cell 1 rfl 0 rfl, h.cell 1 rfl 1 rfl, h.cell 1 rfl 2 rfl, h.cell 1 rfl 3 rfl, h.cell 1 rfl 4 rfl, h.cell 0 rfl 2 rfl, h.cell 0 rfl 3 rfl⟩)
   clear a0 a1 b0 b1 hva hvb h8 hia hib
   go_upto_region 7 with fail
   clear c0 t8
   go_cut [10, 11] (fun p q wx => ∃ b6 b7 : Nat, p = .pointer (some ⟨b6, 0, none⟩) ∧ q = .pointer (some ⟨b7, 0, none⟩) ∧ Env W [fkC b6 [.int .i64 va.k, .int .i64 va.n, .int .i64 va.s], fkC b7 [.int .i64 vb.k, .int .i64 vb.n, .int .i64 vb.s], fkC bc [.int .i64 y.op, .int .i64 y.d, .int .i64 y.a, .int .i64 y.b, .int .i64 y.n, .string y.c, .string y.m, yv, .int .i64 y.g, .int .i64 y.ct], fkC bo [.int .i64 o.f, .int .i64 o.i, .int .i64 o.fr, .int .i64 o.c, .slice va0 N0 vc0], fkC be [.int .i64 x.e, .slice oa N oc], fkC bu [v0, v1, .int .i64 u.mn]] wx ∧ SetT Tryz.prog 54 4 wx mb (celN u x.o i).length ((celN u x.o i).map cv))
   case first =>
    obtain ⟨VS, hVS⟩ : ∃ n, n = W5.drew.heap.size := ⟨_, rfl⟩
    have HVS := Lib.hid hVS
    refine wp_region_plan (.take 0 (.take 1 (.take 2 (.take 4 (.take 5 (.take 6 (.alt 3 (.alt 7 (.alt 8 (.alt 9 (.alt 10 (.alt 11 .done .stop) .stop) .stop) (.alt 9 (.alt 8 (.alt 10 (.alt 11 .done .stop) .stop) .stop) .stop)) (.alt 8 (.alt 7 (.alt 9 (.alt 10 (.alt 11 .done .stop) .stop) .stop) (.alt 9 (.alt 7 (.alt 10 (.alt 11 .done .stop) .stop) .stop) .stop)) (.alt 9 (.alt 7 (.alt 8 (.alt 10 (.alt 11 .done .stop) .stop) .stop) (.alt 8 (.alt 7 (.alt 10 (.alt 11 .done .stop) .stop) .stop) .stop)) .stop))) (.alt 8 (.alt 3 (.alt 7 (.alt 9 (.alt 10 (.alt 11 .done .stop) .stop) .stop) (.alt 9 (.alt 7 (.alt 10 (.alt 11 .done .stop) .stop) .stop) .stop)) (.alt 9 (.alt 3 (.alt 7 (.alt 10 (.alt 11 .done .stop) .stop) .stop) .stop) .stop)) (.alt 9 (.alt 3 (.alt 7 (.alt 8 (.alt 10 (.alt 11 .done .stop) .stop) .stop) (.alt 8 (.alt 7 (.alt 10 (.alt 11 .done .stop) .stop) .stop) .stop)) (.alt 8 (.alt 3 (.alt 7 (.alt 10 (.alt 11 .done .stop) .stop) .stop) .stop) .stop)) .stop))))))))) (fun w' => Below VS W5.drew w') (by kernel_rfl) (by kernel_rfl) (by kernel_rfl) (by kernel_rfl) (by rw [hVS]; exact Below.refl _ _) ?_
    clear hVS
    repeat (
     refine plan_take (v := ?_) rfl (Or.inl ⟨by rfl, ?_⟩) ?_
     rotate_left
     ·(intro W hW; obtain ⟨x1, x2, x3, x4, x5, x6, x7⟩ := HS0.out W (by rw [← HVS.out]; exact hW); (try go_simp); try with_reducible rfl)
     simp only [Act.put, List.setIfInBounds_toArray, List.getElem_toArray, List.getElem_cons_zero, List.getElem_cons_succ, List.set_cons_succ, List.set_cons_zero])
    generalize W5.drew = V0 at *
    have HV := Lib.hid (Env.refl V0)
    clear HS0
    refine plan_alt rfl ?_ ?_
    ·skip
     go_wp2_with fail
     refine (HIA.out _ HV.out.bel).mono ?_
     rintro E V1 ⟨rfl, b5⟩
     have HV := Lib.hid (HV.out.below b5)
     clear b5
     go_wp2_with fail
     refine tail_mk (by rw [HVS.out]; exact HV.out.bel) ?_
     refine plan_alt rfl ?_ ?_
     ·skip
      go_wp2_with fail
      refine (HIB.out _ HV.out.bel).mono ?_
      rintro E V2 ⟨rfl, b5⟩
      have HV := Lib.hid (HV.out.below b5)
      clear b5
      go_wp2_with fail
      refine tail_mk (by rw [HVS.out]; exact HV.out.bel) ?_
      refine plan_alt rfl ?_ ?_
      ·skip
       go_wp2_with fail
       have hv := (HV.out.below ((Below.refl _ _).alloc (Nat.le_refl _) (.cells #[.int .i64 0, .int .i64 0, .int .i64 0] 75))).add (q := fkH V2.heap.size (.cells #[.int .i64 0, .int .i64 0, .int .i64 0] 75)) (heap_alloc_new _ _)
       obtain ⟨b6, hb⟩ : ∃ b, b = V2.heap.size := ⟨_, rfl⟩
       have Hb6 := Lib.hid (show VS ≤ b6 ∧ b6 = V2.heap.size from ⟨by rw [hb, HVS.out]; exact HV.out.bel.size, hb⟩)
       obtain ⟨V3, hw⟩ : ∃ w, w = V2.alloc (.cells #[.int .i64 0, .int .i64 0, .int .i64 0] 75) := ⟨_, rfl⟩
       rw [← hw, ← hb] at hv
       rw [← hw, ← hb]
       have HV := Lib.hid hv
       clear hv hb hw
       refine tail_mk (by rw [HVS.out]; exact HV.out.bel) ?_
       refine plan_alt rfl ?_ plan_stop
       ·skip
        have HLT := Lib.hid (show b6 < V3.heap.size from lt_fkH (HV.out.fact 0 rfl))
        go_wp2_with fail
        have hv := (HV.out.below ((Below.refl _ _).alloc (Nat.le_refl _) (.cells #[.int .i64 0, .int .i64 0, .int .i64 0] 75))).add (q := fkH V3.heap.size (.cells #[.int .i64 0, .int .i64 0, .int .i64 0] 75)) (heap_alloc_new _ _)
        obtain ⟨b7, hb⟩ : ∃ b, b = V3.heap.size := ⟨_, rfl⟩
        have Hb7 := Lib.hid (show VS ≤ b7 ∧ b7 = V3.heap.size from ⟨by rw [hb, HVS.out]; exact HV.out.bel.size, hb⟩)
        obtain ⟨V4, hw⟩ : ∃ w, w = V3.alloc (.cells #[.int .i64 0, .int .i64 0, .int .i64 0] 75) := ⟨_, rfl⟩
        rw [← hw, ← hb] at hv
        rw [← hw, ← hb]
        have HV := Lib.hid hv
        clear hv hb hw
        refine tail_mk (by rw [HVS.out]; exact HV.out.bel) ?_
        have HNE := Lib.hid (show b6 ≠ b7 from by have h1 := HLT.out; have h2 := Hb7.out.2; omega)
        refine plan_alt rfl ?_ plan_stop
        have hN : V4.heap[b6]? = some (.cells #[.int .i64 0, .int .i64 0, .int .i64 0] 75) := HV.out.fact 1 rfl
        obtain ⟨⟨z0, z1, z2, zf⟩, hC, hG⟩ := store3 (y0 := .int .i64 va.k) (y1 := .int .i64 va.n) (y2 := .int .i64 va.s) hN
        have f0 := zf 0
        have f1 := zf 1
        have f2 := zf 2
        have HG := Lib.hid (And.intro hC hG)
        clear hC hG zf hN
        go_wp2_with fail
        clear z0 z1 z2 f0 f1 f2
        obtain ⟨Y6, hY6⟩ : ∃ w, w = ((V4.setCell ⟨b6, 0, none⟩ (.int .i64 va.k)).setCell ⟨b6, 1, none⟩ (.int .i64 va.n)).setCell ⟨b6, 2, none⟩ (.int .i64 va.s) := ⟨_, rfl⟩
        rw [← hY6] at HG ⊢
        clear hY6
        have he6 : Below V0.heap.size V0 Y6 := HV.out.bel.grown HG.out.2 HV.out.bel.size (fun q e => by injection e with e; have h1 := Hb6.out.1; have h2 := HVS.out; omega)
        have hN : Y6.heap[b7]? = some (.cells #[.int .i64 0, .int .i64 0, .int .i64 0] 75) := by rw [HG.out.2.block b7 (lt_fkH (HV.out.fact 0 rfl)) (fun e => HNE.out (Option.some.inj e).symm)]; exact HV.out.fact 0 rfl
        have HG6 := Lib.hid (And.intro HG.out.1 he6)
        clear HG he6
        obtain ⟨⟨z0, z1, z2, zf⟩, hC, hG⟩ := store3 (y0 := .int .i64 vb.k) (y1 := .int .i64 vb.n) (y2 := .int .i64 vb.s) hN
        have f0 := zf 0
        have f1 := zf 1
        have f2 := zf 2
        have HG := Lib.hid (And.intro hC hG)
        clear hC hG zf hN
        refine tail_mk (by rw [HVS.out]; exact HG6.out.2) ?_
        refine plan_alt rfl ?_ plan_stop
        go_wp2_with fail
        clear z0 z1 z2 f0 f1 f2
        obtain ⟨Y7, hY7⟩ : ∃ w, w = ((Y6.setCell ⟨b7, 0, none⟩ (.int .i64 vb.k)).setCell ⟨b7, 1, none⟩ (.int .i64 vb.n)).setCell ⟨b7, 2, none⟩ (.int .i64 vb.s) := ⟨_, rfl⟩
        rw [← hY7] at HG ⊢
        clear hY7
        have he7 : Below V0.heap.size V0 Y7 := HG6.out.2.grown HG.out.2 HG6.out.2.size (fun q e => by injection e with e; have h1 := Hb7.out.1; have h2 := HVS.out; omega)
        have HE7 := Lib.hid (And.intro he7 (And.intro (fkC_grown HG6.out.1 HG.out.2 (fun e => HNE.out (Option.some.inj e))) HG.out.1))
        clear he7
        refine tail_mk (by rw [HVS.out]; exact HE7.out.1) ?_
        refine plan_done ?_
        go_wp2_with fail
        go_meet
        case rel => exact ⟨b6, b7, rfl, rfl, ((HV0.out.1.below HE7.out.1).add (q := fkC b7 [.int .i64 vb.k, .int .i64 vb.n, .int .i64 vb.s]) HE7.out.2.2).add (q := fkC b6 [.int .i64 va.k, .int .i64 va.n, .int .i64 va.s]) HE7.out.2.1, HV0.out.2.kept (grownBy_below HE7.out.1) (by simp)⟩
      refine plan_alt rfl ?_ plan_stop
      ·skip
       go_wp2_with fail
       have hv := (HV.out.below ((Below.refl _ _).alloc (Nat.le_refl _) (.cells #[.int .i64 0, .int .i64 0, .int .i64 0] 75))).add (q := fkH V2.heap.size (.cells #[.int .i64 0, .int .i64 0, .int .i64 0] 75)) (heap_alloc_new _ _)
       obtain ⟨b7, hb⟩ : ∃ b, b = V2.heap.size := ⟨_, rfl⟩
       have Hb7 := Lib.hid (show VS ≤ b7 ∧ b7 = V2.heap.size from ⟨by rw [hb, HVS.out]; exact HV.out.bel.size, hb⟩)
       obtain ⟨V5, hw⟩ : ∃ w, w = V2.alloc (.cells #[.int .i64 0, .int .i64 0, .int .i64 0] 75) := ⟨_, rfl⟩
       rw [← hw, ← hb] at hv
       rw [← hw, ← hb]
       have HV := Lib.hid hv
       clear hv hb hw
       refine tail_mk (by rw [HVS.out]; exact HV.out.bel) ?_
       refine plan_alt rfl ?_ plan_stop
       ·skip
        have HLT := Lib.hid (show b7 < V5.heap.size from lt_fkH (HV.out.fact 0 rfl))
        go_wp2_with fail
        have hv := (HV.out.below ((Below.refl _ _).alloc (Nat.le_refl _) (.cells #[.int .i64 0, .int .i64 0, .int .i64 0] 75))).add (q := fkH V5.heap.size (.cells #[.int .i64 0, .int .i64 0, .int .i64 0] 75)) (heap_alloc_new _ _)
        obtain ⟨b6, hb⟩ : ∃ b, b = V5.heap.size := ⟨_, rfl⟩
        have Hb6 := Lib.hid (show VS ≤ b6 ∧ b6 = V5.heap.size from ⟨by rw [hb, HVS.out]; exact HV.out.bel.size, hb⟩)
        obtain ⟨V6, hw⟩ : ∃ w, w = V5.alloc (.cells #[.int .i64 0, .int .i64 0, .int .i64 0] 75) := ⟨_, rfl⟩
        rw [← hw, ← hb] at hv
        rw [← hw, ← hb]
        have HV := Lib.hid hv
        clear hv hb hw
        refine tail_mk (by rw [HVS.out]; exact HV.out.bel) ?_
        have HNE := Lib.hid (show b7 ≠ b6 from by have h1 := HLT.out; have h2 := Hb6.out.2; omega)
        refine plan_alt rfl ?_ plan_stop
        have hN : V6.heap[b6]? = some (.cells #[.int .i64 0, .int .i64 0, .int .i64 0] 75) := HV.out.fact 0 rfl
        obtain ⟨⟨z0, z1, z2, zf⟩, hC, hG⟩ := store3 (y0 := .int .i64 va.k) (y1 := .int .i64 va.n) (y2 := .int .i64 va.s) hN
        have f0 := zf 0
        have f1 := zf 1
        have f2 := zf 2
        have HG := Lib.hid (And.intro hC hG)
        clear hC hG zf hN
        go_wp2_with fail
        clear z0 z1 z2 f0 f1 f2
        obtain ⟨Y6, hY6⟩ : ∃ w, w = ((V6.setCell ⟨b6, 0, none⟩ (.int .i64 va.k)).setCell ⟨b6, 1, none⟩ (.int .i64 va.n)).setCell ⟨b6, 2, none⟩ (.int .i64 va.s) := ⟨_, rfl⟩
        rw [← hY6] at HG ⊢
        clear hY6
        have he6 : Below V0.heap.size V0 Y6 := HV.out.bel.grown HG.out.2 HV.out.bel.size (fun q e => by injection e with e; have h1 := Hb6.out.1; have h2 := HVS.out; omega)
        have hN : Y6.heap[b7]? = some (.cells #[.int .i64 0, .int .i64 0, .int .i64 0] 75) := by rw [HG.out.2.block b7 (lt_fkH (HV.out.fact 1 rfl)) (fun e => HNE.out.symm (Option.some.inj e).symm)]; exact HV.out.fact 1 rfl
        have HG6 := Lib.hid (And.intro HG.out.1 he6)
        clear HG he6
        obtain ⟨⟨z0, z1, z2, zf⟩, hC, hG⟩ := store3 (y0 := .int .i64 vb.k) (y1 := .int .i64 vb.n) (y2 := .int .i64 vb.s) hN
        have f0 := zf 0
        have f1 := zf 1
        have f2 := zf 2
        have HG := Lib.hid (And.intro hC hG)
        clear hC hG zf hN
        refine tail_mk (by rw [HVS.out]; exact HG6.out.2) ?_
        refine plan_alt rfl ?_ plan_stop
        go_wp2_with fail
        clear z0 z1 z2 f0 f1 f2
        obtain ⟨Y7, hY7⟩ : ∃ w, w = ((Y6.setCell ⟨b7, 0, none⟩ (.int .i64 vb.k)).setCell ⟨b7, 1, none⟩ (.int .i64 vb.n)).setCell ⟨b7, 2, none⟩ (.int .i64 vb.s) := ⟨_, rfl⟩
        rw [← hY7] at HG ⊢
        clear hY7
        have he7 : Below V0.heap.size V0 Y7 := HG6.out.2.grown HG.out.2 HG6.out.2.size (fun q e => by injection e with e; have h1 := Hb7.out.1; have h2 := HVS.out; omega)
        have HE7 := Lib.hid (And.intro he7 (And.intro (fkC_grown HG6.out.1 HG.out.2 (fun e => HNE.out.symm (Option.some.inj e))) HG.out.1))
        clear he7
        refine tail_mk (by rw [HVS.out]; exact HE7.out.1) ?_
        refine plan_done ?_
        go_wp2_with fail
        go_meet
        case rel => exact ⟨b6, b7, rfl, rfl, ((HV0.out.1.below HE7.out.1).add (q := fkC b7 [.int .i64 vb.k, .int .i64 vb.n, .int .i64 vb.s]) HE7.out.2.2).add (q := fkC b6 [.int .i64 va.k, .int .i64 va.n, .int .i64 va.s]) HE7.out.2.1, HV0.out.2.kept (grownBy_below HE7.out.1) (by simp)⟩
     refine plan_alt rfl ?_ ?_
     ·skip
      go_wp2_with fail
      have hv := (HV.out.below ((Below.refl _ _).alloc (Nat.le_refl _) (.cells #[.int .i64 0, .int .i64 0, .int .i64 0] 75))).add (q := fkH V1.heap.size (.cells #[.int .i64 0, .int .i64 0, .int .i64 0] 75)) (heap_alloc_new _ _)
      obtain ⟨b6, hb⟩ : ∃ b, b = V1.heap.size := ⟨_, rfl⟩
      have Hb6 := Lib.hid (show VS ≤ b6 ∧ b6 = V1.heap.size from ⟨by rw [hb, HVS.out]; exact HV.out.bel.size, hb⟩)
      obtain ⟨V7, hw⟩ : ∃ w, w = V1.alloc (.cells #[.int .i64 0, .int .i64 0, .int .i64 0] 75) := ⟨_, rfl⟩
      rw [← hw, ← hb] at hv
      rw [← hw, ← hb]
      have HV := Lib.hid hv
      clear hv hb hw
      refine tail_mk (by rw [HVS.out]; exact HV.out.bel) ?_
      refine plan_alt rfl ?_ ?_
      ·skip
       go_wp2_with fail
       refine (HIB.out _ HV.out.bel).mono ?_
       rintro E V8 ⟨rfl, b5⟩
       have HV := Lib.hid (HV.out.below b5)
       clear b5
       go_wp2_with fail
       refine tail_mk (by rw [HVS.out]; exact HV.out.bel) ?_
       refine plan_alt rfl ?_ plan_stop
       ·skip
        have HLT := Lib.hid (show b6 < V8.heap.size from lt_fkH (HV.out.fact 0 rfl))
        go_wp2_with fail
        have hv := (HV.out.below ((Below.refl _ _).alloc (Nat.le_refl _) (.cells #[.int .i64 0, .int .i64 0, .int .i64 0] 75))).add (q := fkH V8.heap.size (.cells #[.int .i64 0, .int .i64 0, .int .i64 0] 75)) (heap_alloc_new _ _)
        obtain ⟨b7, hb⟩ : ∃ b, b = V8.heap.size := ⟨_, rfl⟩
        have Hb7 := Lib.hid (show VS ≤ b7 ∧ b7 = V8.heap.size from ⟨by rw [hb, HVS.out]; exact HV.out.bel.size, hb⟩)
        obtain ⟨V9, hw⟩ : ∃ w, w = V8.alloc (.cells #[.int .i64 0, .int .i64 0, .int .i64 0] 75) := ⟨_, rfl⟩
        rw [← hw, ← hb] at hv
        rw [← hw, ← hb]
        have HV := Lib.hid hv
        clear hv hb hw
        refine tail_mk (by rw [HVS.out]; exact HV.out.bel) ?_
        have HNE := Lib.hid (show b6 ≠ b7 from by have h1 := HLT.out; have h2 := Hb7.out.2; omega)
        refine plan_alt rfl ?_ plan_stop
        have hN : V9.heap[b6]? = some (.cells #[.int .i64 0, .int .i64 0, .int .i64 0] 75) := HV.out.fact 1 rfl
        obtain ⟨⟨z0, z1, z2, zf⟩, hC, hG⟩ := store3 (y0 := .int .i64 va.k) (y1 := .int .i64 va.n) (y2 := .int .i64 va.s) hN
        have f0 := zf 0
        have f1 := zf 1
        have f2 := zf 2
        have HG := Lib.hid (And.intro hC hG)
        clear hC hG zf hN
        go_wp2_with fail
        clear z0 z1 z2 f0 f1 f2
        obtain ⟨Y6, hY6⟩ : ∃ w, w = ((V9.setCell ⟨b6, 0, none⟩ (.int .i64 va.k)).setCell ⟨b6, 1, none⟩ (.int .i64 va.n)).setCell ⟨b6, 2, none⟩ (.int .i64 va.s) := ⟨_, rfl⟩
        rw [← hY6] at HG ⊢
        clear hY6
        have he6 : Below V0.heap.size V0 Y6 := HV.out.bel.grown HG.out.2 HV.out.bel.size (fun q e => by injection e with e; have h1 := Hb6.out.1; have h2 := HVS.out; omega)
        have hN : Y6.heap[b7]? = some (.cells #[.int .i64 0, .int .i64 0, .int .i64 0] 75) := by rw [HG.out.2.block b7 (lt_fkH (HV.out.fact 0 rfl)) (fun e => HNE.out (Option.some.inj e).symm)]; exact HV.out.fact 0 rfl
        have HG6 := Lib.hid (And.intro HG.out.1 he6)
        clear HG he6
        obtain ⟨⟨z0, z1, z2, zf⟩, hC, hG⟩ := store3 (y0 := .int .i64 vb.k) (y1 := .int .i64 vb.n) (y2 := .int .i64 vb.s) hN
        have f0 := zf 0
        have f1 := zf 1
        have f2 := zf 2
        have HG := Lib.hid (And.intro hC hG)
        clear hC hG zf hN
        refine tail_mk (by rw [HVS.out]; exact HG6.out.2) ?_
        refine plan_alt rfl ?_ plan_stop
        go_wp2_with fail
        clear z0 z1 z2 f0 f1 f2
        obtain ⟨Y7, hY7⟩ : ∃ w, w = ((Y6.setCell ⟨b7, 0, none⟩ (.int .i64 vb.k)).setCell ⟨b7, 1, none⟩ (.int .i64 vb.n)).setCell ⟨b7, 2, none⟩ (.int .i64 vb.s) := ⟨_, rfl⟩
        rw [← hY7] at HG ⊢
        clear hY7
        have he7 : Below V0.heap.size V0 Y7 := HG6.out.2.grown HG.out.2 HG6.out.2.size (fun q e => by injection e with e; have h1 := Hb7.out.1; have h2 := HVS.out; omega)
        have HE7 := Lib.hid (And.intro he7 (And.intro (fkC_grown HG6.out.1 HG.out.2 (fun e => HNE.out (Option.some.inj e))) HG.out.1))
        clear he7
        refine tail_mk (by rw [HVS.out]; exact HE7.out.1) ?_
        refine plan_done ?_
        go_wp2_with fail
        go_meet
        case rel => exact ⟨b6, b7, rfl, rfl, ((HV0.out.1.below HE7.out.1).add (q := fkC b7 [.int .i64 vb.k, .int .i64 vb.n, .int .i64 vb.s]) HE7.out.2.2).add (q := fkC b6 [.int .i64 va.k, .int .i64 va.n, .int .i64 va.s]) HE7.out.2.1, HV0.out.2.kept (grownBy_below HE7.out.1) (by simp)⟩
      refine plan_alt rfl ?_ plan_stop
      ·skip
       have HLT := Lib.hid (show b6 < V7.heap.size from lt_fkH (HV.out.fact 0 rfl))
       go_wp2_with fail
       have hv := (HV.out.below ((Below.refl _ _).alloc (Nat.le_refl _) (.cells #[.int .i64 0, .int .i64 0, .int .i64 0] 75))).add (q := fkH V7.heap.size (.cells #[.int .i64 0, .int .i64 0, .int .i64 0] 75)) (heap_alloc_new _ _)
       obtain ⟨b7, hb⟩ : ∃ b, b = V7.heap.size := ⟨_, rfl⟩
       have Hb7 := Lib.hid (show VS ≤ b7 ∧ b7 = V7.heap.size from ⟨by rw [hb, HVS.out]; exact HV.out.bel.size, hb⟩)
       obtain ⟨V10, hw⟩ : ∃ w, w = V7.alloc (.cells #[.int .i64 0, .int .i64 0, .int .i64 0] 75) := ⟨_, rfl⟩
       rw [← hw, ← hb] at hv
       rw [← hw, ← hb]
       have HV := Lib.hid hv
       clear hv hb hw
       refine tail_mk (by rw [HVS.out]; exact HV.out.bel) ?_
       have HNE := Lib.hid (show b6 ≠ b7 from by have h1 := HLT.out; have h2 := Hb7.out.2; omega)
       refine plan_alt rfl ?_ plan_stop
       ·skip
        go_wp2_with fail
        refine (HIB.out _ HV.out.bel).mono ?_
        rintro E V11 ⟨rfl, b5⟩
        have HV := Lib.hid (HV.out.below b5)
        clear b5
        go_wp2_with fail
        refine tail_mk (by rw [HVS.out]; exact HV.out.bel) ?_
        refine plan_alt rfl ?_ plan_stop
        have hN : V11.heap[b6]? = some (.cells #[.int .i64 0, .int .i64 0, .int .i64 0] 75) := HV.out.fact 1 rfl
        obtain ⟨⟨z0, z1, z2, zf⟩, hC, hG⟩ := store3 (y0 := .int .i64 va.k) (y1 := .int .i64 va.n) (y2 := .int .i64 va.s) hN
        have f0 := zf 0
        have f1 := zf 1
        have f2 := zf 2
        have HG := Lib.hid (And.intro hC hG)
        clear hC hG zf hN
        go_wp2_with fail
        clear z0 z1 z2 f0 f1 f2
        obtain ⟨Y6, hY6⟩ : ∃ w, w = ((V11.setCell ⟨b6, 0, none⟩ (.int .i64 va.k)).setCell ⟨b6, 1, none⟩ (.int .i64 va.n)).setCell ⟨b6, 2, none⟩ (.int .i64 va.s) := ⟨_, rfl⟩
        rw [← hY6] at HG ⊢
        clear hY6
        have he6 : Below V0.heap.size V0 Y6 := HV.out.bel.grown HG.out.2 HV.out.bel.size (fun q e => by injection e with e; have h1 := Hb6.out.1; have h2 := HVS.out; omega)
        have hN : Y6.heap[b7]? = some (.cells #[.int .i64 0, .int .i64 0, .int .i64 0] 75) := by rw [HG.out.2.block b7 (lt_fkH (HV.out.fact 0 rfl)) (fun e => HNE.out (Option.some.inj e).symm)]; exact HV.out.fact 0 rfl
        have HG6 := Lib.hid (And.intro HG.out.1 he6)
        clear HG he6
        obtain ⟨⟨z0, z1, z2, zf⟩, hC, hG⟩ := store3 (y0 := .int .i64 vb.k) (y1 := .int .i64 vb.n) (y2 := .int .i64 vb.s) hN
        have f0 := zf 0
        have f1 := zf 1
        have f2 := zf 2
        have HG := Lib.hid (And.intro hC hG)
        clear hC hG zf hN
        refine tail_mk (by rw [HVS.out]; exact HG6.out.2) ?_
        refine plan_alt rfl ?_ plan_stop
        go_wp2_with fail
        clear z0 z1 z2 f0 f1 f2
        obtain ⟨Y7, hY7⟩ : ∃ w, w = ((Y6.setCell ⟨b7, 0, none⟩ (.int .i64 vb.k)).setCell ⟨b7, 1, none⟩ (.int .i64 vb.n)).setCell ⟨b7, 2, none⟩ (.int .i64 vb.s) := ⟨_, rfl⟩
        rw [← hY7] at HG ⊢
        clear hY7
        have he7 : Below V0.heap.size V0 Y7 := HG6.out.2.grown HG.out.2 HG6.out.2.size (fun q e => by injection e with e; have h1 := Hb7.out.1; have h2 := HVS.out; omega)
        have HE7 := Lib.hid (And.intro he7 (And.intro (fkC_grown HG6.out.1 HG.out.2 (fun e => HNE.out (Option.some.inj e))) HG.out.1))
        clear he7
        refine tail_mk (by rw [HVS.out]; exact HE7.out.1) ?_
        refine plan_done ?_
        go_wp2_with fail
        go_meet
        case rel => exact ⟨b6, b7, rfl, rfl, ((HV0.out.1.below HE7.out.1).add (q := fkC b7 [.int .i64 vb.k, .int .i64 vb.n, .int .i64 vb.s]) HE7.out.2.2).add (q := fkC b6 [.int .i64 va.k, .int .i64 va.n, .int .i64 va.s]) HE7.out.2.1, HV0.out.2.kept (grownBy_below HE7.out.1) (by simp)⟩
     refine plan_alt rfl ?_ plan_stop
     ·skip
      go_wp2_with fail
      have hv := (HV.out.below ((Below.refl _ _).alloc (Nat.le_refl _) (.cells #[.int .i64 0, .int .i64 0, .int .i64 0] 75))).add (q := fkH V1.heap.size (.cells #[.int .i64 0, .int .i64 0, .int .i64 0] 75)) (heap_alloc_new _ _)
      obtain ⟨b7, hb⟩ : ∃ b, b = V1.heap.size := ⟨_, rfl⟩
      have Hb7 := Lib.hid (show VS ≤ b7 ∧ b7 = V1.heap.size from ⟨by rw [hb, HVS.out]; exact HV.out.bel.size, hb⟩)
      obtain ⟨V12, hw⟩ : ∃ w, w = V1.alloc (.cells #[.int .i64 0, .int .i64 0, .int .i64 0] 75) := ⟨_, rfl⟩
      rw [← hw, ← hb] at hv
      rw [← hw, ← hb]
      have HV := Lib.hid hv
      clear hv hb hw
      refine tail_mk (by rw [HVS.out]; exact HV.out.bel) ?_
      refine plan_alt rfl ?_ ?_
      ·skip
       go_wp2_with fail
       refine (HIB.out _ HV.out.bel).mono ?_
       rintro E V13 ⟨rfl, b5⟩
       have HV := Lib.hid (HV.out.below b5)
       clear b5
       go_wp2_with fail
       refine tail_mk (by rw [HVS.out]; exact HV.out.bel) ?_
       refine plan_alt rfl ?_ plan_stop
       ·skip
        have HLT := Lib.hid (show b7 < V13.heap.size from lt_fkH (HV.out.fact 0 rfl))
        go_wp2_with fail
        have hv := (HV.out.below ((Below.refl _ _).alloc (Nat.le_refl _) (.cells #[.int .i64 0, .int .i64 0, .int .i64 0] 75))).add (q := fkH V13.heap.size (.cells #[.int .i64 0, .int .i64 0, .int .i64 0] 75)) (heap_alloc_new _ _)
        obtain ⟨b6, hb⟩ : ∃ b, b = V13.heap.size := ⟨_, rfl⟩
        have Hb6 := Lib.hid (show VS ≤ b6 ∧ b6 = V13.heap.size from ⟨by rw [hb, HVS.out]; exact HV.out.bel.size, hb⟩)
        obtain ⟨V14, hw⟩ : ∃ w, w = V13.alloc (.cells #[.int .i64 0, .int .i64 0, .int .i64 0] 75) := ⟨_, rfl⟩
        rw [← hw, ← hb] at hv
        rw [← hw, ← hb]
        have HV := Lib.hid hv
        clear hv hb hw
        refine tail_mk (by rw [HVS.out]; exact HV.out.bel) ?_
        have HNE := Lib.hid (show b7 ≠ b6 from by have h1 := HLT.out; have h2 := Hb6.out.2; omega)
        refine plan_alt rfl ?_ plan_stop
        have hN : V14.heap[b6]? = some (.cells #[.int .i64 0, .int .i64 0, .int .i64 0] 75) := HV.out.fact 0 rfl
        obtain ⟨⟨z0, z1, z2, zf⟩, hC, hG⟩ := store3 (y0 := .int .i64 va.k) (y1 := .int .i64 va.n) (y2 := .int .i64 va.s) hN
        have f0 := zf 0
        have f1 := zf 1
        have f2 := zf 2
        have HG := Lib.hid (And.intro hC hG)
        clear hC hG zf hN
        go_wp2_with fail
        clear z0 z1 z2 f0 f1 f2
        obtain ⟨Y6, hY6⟩ : ∃ w, w = ((V14.setCell ⟨b6, 0, none⟩ (.int .i64 va.k)).setCell ⟨b6, 1, none⟩ (.int .i64 va.n)).setCell ⟨b6, 2, none⟩ (.int .i64 va.s) := ⟨_, rfl⟩
        rw [← hY6] at HG ⊢
        clear hY6
        have he6 : Below V0.heap.size V0 Y6 := HV.out.bel.grown HG.out.2 HV.out.bel.size (fun q e => by injection e with e; have h1 := Hb6.out.1; have h2 := HVS.out; omega)
        have hN : Y6.heap[b7]? = some (.cells #[.int .i64 0, .int .i64 0, .int .i64 0] 75) := by rw [HG.out.2.block b7 (lt_fkH (HV.out.fact 1 rfl)) (fun e => HNE.out.symm (Option.some.inj e).symm)]; exact HV.out.fact 1 rfl
        have HG6 := Lib.hid (And.intro HG.out.1 he6)
        clear HG he6
        obtain ⟨⟨z0, z1, z2, zf⟩, hC, hG⟩ := store3 (y0 := .int .i64 vb.k) (y1 := .int .i64 vb.n) (y2 := .int .i64 vb.s) hN
        have f0 := zf 0
        have f1 := zf 1
        have f2 := zf 2
        have HG := Lib.hid (And.intro hC hG)
        clear hC hG zf hN
        refine tail_mk (by rw [HVS.out]; exact HG6.out.2) ?_
        refine plan_alt rfl ?_ plan_stop
        go_wp2_with fail
        clear z0 z1 z2 f0 f1 f2
        obtain ⟨Y7, hY7⟩ : ∃ w, w = ((Y6.setCell ⟨b7, 0, none⟩ (.int .i64 vb.k)).setCell ⟨b7, 1, none⟩ (.int .i64 vb.n)).setCell ⟨b7, 2, none⟩ (.int .i64 vb.s) := ⟨_, rfl⟩
        rw [← hY7] at HG ⊢
        clear hY7
        have he7 : Below V0.heap.size V0 Y7 := HG6.out.2.grown HG.out.2 HG6.out.2.size (fun q e => by injection e with e; have h1 := Hb7.out.1; have h2 := HVS.out; omega)
        have HE7 := Lib.hid (And.intro he7 (And.intro (fkC_grown HG6.out.1 HG.out.2 (fun e => HNE.out.symm (Option.some.inj e))) HG.out.1))
        clear he7
        refine tail_mk (by rw [HVS.out]; exact HE7.out.1) ?_
        refine plan_done ?_
        go_wp2_with fail
        go_meet
        case rel => exact ⟨b6, b7, rfl, rfl, ((HV0.out.1.below HE7.out.1).add (q := fkC b7 [.int .i64 vb.k, .int .i64 vb.n, .int .i64 vb.s]) HE7.out.2.2).add (q := fkC b6 [.int .i64 va.k, .int .i64 va.n, .int .i64 va.s]) HE7.out.2.1, HV0.out.2.kept (grownBy_below HE7.out.1) (by simp)⟩
      refine plan_alt rfl ?_ plan_stop
      ·skip
       have HLT := Lib.hid (show b7 < V12.heap.size from lt_fkH (HV.out.fact 0 rfl))
       go_wp2_with fail
       have hv := (HV.out.below ((Below.refl _ _).alloc (Nat.le_refl _) (.cells #[.int .i64 0, .int .i64 0, .int .i64 0] 75))).add (q := fkH V12.heap.size (.cells #[.int .i64 0, .int .i64 0, .int .i64 0] 75)) (heap_alloc_new _ _)
       obtain ⟨b6, hb⟩ : ∃ b, b = V12.heap.size := ⟨_, rfl⟩
       have Hb6 := Lib.hid (show VS ≤ b6 ∧ b6 = V12.heap.size from ⟨by rw [hb, HVS.out]; exact HV.out.bel.size, hb⟩)
       obtain ⟨V15, hw⟩ : ∃ w, w = V12.alloc (.cells #[.int .i64 0, .int .i64 0, .int .i64 0] 75) := ⟨_, rfl⟩
       rw [← hw, ← hb] at hv
       rw [← hw, ← hb]
       have HV := Lib.hid hv
       clear hv hb hw
       refine tail_mk (by rw [HVS.out]; exact HV.out.bel) ?_
       have HNE := Lib.hid (show b7 ≠ b6 from by have h1 := HLT.out; have h2 := Hb6.out.2; omega)
       refine plan_alt rfl ?_ plan_stop
       ·skip
        go_wp2_with fail
        refine (HIB.out _ HV.out.bel).mono ?_
        rintro E V16 ⟨rfl, b5⟩
        have HV := Lib.hid (HV.out.below b5)
        clear b5
        go_wp2_with fail
        refine tail_mk (by rw [HVS.out]; exact HV.out.bel) ?_
        refine plan_alt rfl ?_ plan_stop
        have hN : V16.heap[b6]? = some (.cells #[.int .i64 0, .int .i64 0, .int .i64 0] 75) := HV.out.fact 0 rfl
        obtain ⟨⟨z0, z1, z2, zf⟩, hC, hG⟩ := store3 (y0 := .int .i64 va.k) (y1 := .int .i64 va.n) (y2 := .int .i64 va.s) hN
        have f0 := zf 0
        have f1 := zf 1
        have f2 := zf 2
        have HG := Lib.hid (And.intro hC hG)
        clear hC hG zf hN
        go_wp2_with fail
        clear z0 z1 z2 f0 f1 f2
        obtain ⟨Y6, hY6⟩ : ∃ w, w = ((V16.setCell ⟨b6, 0, none⟩ (.int .i64 va.k)).setCell ⟨b6, 1, none⟩ (.int .i64 va.n)).setCell ⟨b6, 2, none⟩ (.int .i64 va.s) := ⟨_, rfl⟩
        rw [← hY6] at HG ⊢
        clear hY6
        have he6 : Below V0.heap.size V0 Y6 := HV.out.bel.grown HG.out.2 HV.out.bel.size (fun q e => by injection e with e; have h1 := Hb6.out.1; have h2 := HVS.out; omega)
        have hN : Y6.heap[b7]? = some (.cells #[.int .i64 0, .int .i64 0, .int .i64 0] 75) := by rw [HG.out.2.block b7 (lt_fkH (HV.out.fact 1 rfl)) (fun e => HNE.out.symm (Option.some.inj e).symm)]; exact HV.out.fact 1 rfl
        have HG6 := Lib.hid (And.intro HG.out.1 he6)
        clear HG he6
        obtain ⟨⟨z0, z1, z2, zf⟩, hC, hG⟩ := store3 (y0 := .int .i64 vb.k) (y1 := .int .i64 vb.n) (y2 := .int .i64 vb.s) hN
        have f0 := zf 0
        have f1 := zf 1
        have f2 := zf 2
        have HG := Lib.hid (And.intro hC hG)
        clear hC hG zf hN
        refine tail_mk (by rw [HVS.out]; exact HG6.out.2) ?_
        refine plan_alt rfl ?_ plan_stop
        go_wp2_with fail
        clear z0 z1 z2 f0 f1 f2
        obtain ⟨Y7, hY7⟩ : ∃ w, w = ((Y6.setCell ⟨b7, 0, none⟩ (.int .i64 vb.k)).setCell ⟨b7, 1, none⟩ (.int .i64 vb.n)).setCell ⟨b7, 2, none⟩ (.int .i64 vb.s) := ⟨_, rfl⟩
        rw [← hY7] at HG ⊢
        clear hY7
        have he7 : Below V0.heap.size V0 Y7 := HG6.out.2.grown HG.out.2 HG6.out.2.size (fun q e => by injection e with e; have h1 := Hb7.out.1; have h2 := HVS.out; omega)
        have HE7 := Lib.hid (And.intro he7 (And.intro (fkC_grown HG6.out.1 HG.out.2 (fun e => HNE.out.symm (Option.some.inj e))) HG.out.1))
        clear he7
        refine tail_mk (by rw [HVS.out]; exact HE7.out.1) ?_
        refine plan_done ?_
        go_wp2_with fail
        go_meet
        case rel => exact ⟨b6, b7, rfl, rfl, ((HV0.out.1.below HE7.out.1).add (q := fkC b7 [.int .i64 vb.k, .int .i64 vb.n, .int .i64 vb.s]) HE7.out.2.2).add (q := fkC b6 [.int .i64 va.k, .int .i64 va.n, .int .i64 va.s]) HE7.out.2.1, HV0.out.2.kept (grownBy_below HE7.out.1) (by simp)⟩
    refine plan_alt rfl ?_ ?_
    ·skip
     go_wp2_with fail
     have hv := (HV.out.below ((Below.refl _ _).alloc (Nat.le_refl _) (.cells #[.int .i64 0, .int .i64 0, .int .i64 0] 75))).add (q := fkH V0.heap.size (.cells #[.int .i64 0, .int .i64 0, .int .i64 0] 75)) (heap_alloc_new _ _)
     obtain ⟨b6, hb⟩ : ∃ b, b = V0.heap.size := ⟨_, rfl⟩
     have Hb6 := Lib.hid (show VS ≤ b6 ∧ b6 = V0.heap.size from ⟨by rw [hb, HVS.out]; exact HV.out.bel.size, hb⟩)
     obtain ⟨V17, hw⟩ : ∃ w, w = V0.alloc (.cells #[.int .i64 0, .int .i64 0, .int .i64 0] 75) := ⟨_, rfl⟩
     rw [← hw, ← hb] at hv
     rw [← hw, ← hb]
     have HV := Lib.hid hv
     clear hv hb hw
     refine tail_mk (by rw [HVS.out]; exact HV.out.bel) ?_
     refine plan_alt rfl ?_ ?_
     ·skip
      go_wp2_with fail
      refine (HIA.out _ HV.out.bel).mono ?_
      rintro E V18 ⟨rfl, b5⟩
      have HV := Lib.hid (HV.out.below b5)
      clear b5
      go_wp2_with fail
      refine tail_mk (by rw [HVS.out]; exact HV.out.bel) ?_
      refine plan_alt rfl ?_ ?_
      ·skip
       go_wp2_with fail
       refine (HIB.out _ HV.out.bel).mono ?_
       rintro E V19 ⟨rfl, b5⟩
       have HV := Lib.hid (HV.out.below b5)
       clear b5
       go_wp2_with fail
       refine tail_mk (by rw [HVS.out]; exact HV.out.bel) ?_
       refine plan_alt rfl ?_ plan_stop
       ·skip
        have HLT := Lib.hid (show b6 < V19.heap.size from lt_fkH (HV.out.fact 0 rfl))
        go_wp2_with fail
        have hv := (HV.out.below ((Below.refl _ _).alloc (Nat.le_refl _) (.cells #[.int .i64 0, .int .i64 0, .int .i64 0] 75))).add (q := fkH V19.heap.size (.cells #[.int .i64 0, .int .i64 0, .int .i64 0] 75)) (heap_alloc_new _ _)
        obtain ⟨b7, hb⟩ : ∃ b, b = V19.heap.size := ⟨_, rfl⟩
        have Hb7 := Lib.hid (show VS ≤ b7 ∧ b7 = V19.heap.size from ⟨by rw [hb, HVS.out]; exact HV.out.bel.size, hb⟩)
        obtain ⟨V20, hw⟩ : ∃ w, w = V19.alloc (.cells #[.int .i64 0, .int .i64 0, .int .i64 0] 75) := ⟨_, rfl⟩
        rw [← hw, ← hb] at hv
        rw [← hw, ← hb]
        have HV := Lib.hid hv
        clear hv hb hw
        refine tail_mk (by rw [HVS.out]; exact HV.out.bel) ?_
        have HNE := Lib.hid (show b6 ≠ b7 from by have h1 := HLT.out; have h2 := Hb7.out.2; omega)
        refine plan_alt rfl ?_ plan_stop
        have hN : V20.heap[b6]? = some (.cells #[.int .i64 0, .int .i64 0, .int .i64 0] 75) := HV.out.fact 1 rfl
        obtain ⟨⟨z0, z1, z2, zf⟩, hC, hG⟩ := store3 (y0 := .int .i64 va.k) (y1 := .int .i64 va.n) (y2 := .int .i64 va.s) hN
        have f0 := zf 0
        have f1 := zf 1
        have f2 := zf 2
        have HG := Lib.hid (And.intro hC hG)
        clear hC hG zf hN
        go_wp2_with fail
        clear z0 z1 z2 f0 f1 f2
        obtain ⟨Y6, hY6⟩ : ∃ w, w = ((V20.setCell ⟨b6, 0, none⟩ (.int .i64 va.k)).setCell ⟨b6, 1, none⟩ (.int .i64 va.n)).setCell ⟨b6, 2, none⟩ (.int .i64 va.s) := ⟨_, rfl⟩
        rw [← hY6] at HG ⊢
        clear hY6
        have he6 : Below V0.heap.size V0 Y6 := HV.out.bel.grown HG.out.2 HV.out.bel.size (fun q e => by injection e with e; have h1 := Hb6.out.1; have h2 := HVS.out; omega)
        have hN : Y6.heap[b7]? = some (.cells #[.int .i64 0, .int .i64 0, .int .i64 0] 75) := by rw [HG.out.2.block b7 (lt_fkH (HV.out.fact 0 rfl)) (fun e => HNE.out (Option.some.inj e).symm)]; exact HV.out.fact 0 rfl
        have HG6 := Lib.hid (And.intro HG.out.1 he6)
        clear HG he6
        obtain ⟨⟨z0, z1, z2, zf⟩, hC, hG⟩ := store3 (y0 := .int .i64 vb.k) (y1 := .int .i64 vb.n) (y2 := .int .i64 vb.s) hN
        have f0 := zf 0
        have f1 := zf 1
        have f2 := zf 2
        have HG := Lib.hid (And.intro hC hG)
        clear hC hG zf hN
        refine tail_mk (by rw [HVS.out]; exact HG6.out.2) ?_
        refine plan_alt rfl ?_ plan_stop
        go_wp2_with fail
        clear z0 z1 z2 f0 f1 f2
        obtain ⟨Y7, hY7⟩ : ∃ w, w = ((Y6.setCell ⟨b7, 0, none⟩ (.int .i64 vb.k)).setCell ⟨b7, 1, none⟩ (.int .i64 vb.n)).setCell ⟨b7, 2, none⟩ (.int .i64 vb.s) := ⟨_, rfl⟩
        rw [← hY7] at HG ⊢
        clear hY7
        have he7 : Below V0.heap.size V0 Y7 := HG6.out.2.grown HG.out.2 HG6.out.2.size (fun q e => by injection e with e; have h1 := Hb7.out.1; have h2 := HVS.out; omega)
        have HE7 := Lib.hid (And.intro he7 (And.intro (fkC_grown HG6.out.1 HG.out.2 (fun e => HNE.out (Option.some.inj e))) HG.out.1))
        clear he7
        refine tail_mk (by rw [HVS.out]; exact HE7.out.1) ?_
        refine plan_done ?_
        go_wp2_with fail
        go_meet
        case rel => exact ⟨b6, b7, rfl, rfl, ((HV0.out.1.below HE7.out.1).add (q := fkC b7 [.int .i64 vb.k, .int .i64 vb.n, .int .i64 vb.s]) HE7.out.2.2).add (q := fkC b6 [.int .i64 va.k, .int .i64 va.n, .int .i64 va.s]) HE7.out.2.1, HV0.out.2.kept (grownBy_below HE7.out.1) (by simp)⟩
      refine plan_alt rfl ?_ plan_stop
      ·skip
       have HLT := Lib.hid (show b6 < V18.heap.size from lt_fkH (HV.out.fact 0 rfl))
       go_wp2_with fail
       have hv := (HV.out.below ((Below.refl _ _).alloc (Nat.le_refl _) (.cells #[.int .i64 0, .int .i64 0, .int .i64 0] 75))).add (q := fkH V18.heap.size (.cells #[.int .i64 0, .int .i64 0, .int .i64 0] 75)) (heap_alloc_new _ _)
       obtain ⟨b7, hb⟩ : ∃ b, b = V18.heap.size := ⟨_, rfl⟩
       have Hb7 := Lib.hid (show VS ≤ b7 ∧ b7 = V18.heap.size from ⟨by rw [hb, HVS.out]; exact HV.out.bel.size, hb⟩)
       obtain ⟨V21, hw⟩ : ∃ w, w = V18.alloc (.cells #[.int .i64 0, .int .i64 0, .int .i64 0] 75) := ⟨_, rfl⟩
       rw [← hw, ← hb] at hv
       rw [← hw, ← hb]
       have HV := Lib.hid hv
       clear hv hb hw
       refine tail_mk (by rw [HVS.out]; exact HV.out.bel) ?_
       have HNE := Lib.hid (show b6 ≠ b7 from by have h1 := HLT.out; have h2 := Hb7.out.2; omega)
       refine plan_alt rfl ?_ plan_stop
       ·skip
        go_wp2_with fail
        refine (HIB.out _ HV.out.bel).mono ?_
        rintro E V22 ⟨rfl, b5⟩
        have HV := Lib.hid (HV.out.below b5)
        clear b5
        go_wp2_with fail
        refine tail_mk (by rw [HVS.out]; exact HV.out.bel) ?_
        refine plan_alt rfl ?_ plan_stop
        have hN : V22.heap[b6]? = some (.cells #[.int .i64 0, .int .i64 0, .int .i64 0] 75) := HV.out.fact 1 rfl
        obtain ⟨⟨z0, z1, z2, zf⟩, hC, hG⟩ := store3 (y0 := .int .i64 va.k) (y1 := .int .i64 va.n) (y2 := .int .i64 va.s) hN
        have f0 := zf 0
        have f1 := zf 1
        have f2 := zf 2
        have HG := Lib.hid (And.intro hC hG)
        clear hC hG zf hN
        go_wp2_with fail
        clear z0 z1 z2 f0 f1 f2
        obtain ⟨Y6, hY6⟩ : ∃ w, w = ((V22.setCell ⟨b6, 0, none⟩ (.int .i64 va.k)).setCell ⟨b6, 1, none⟩ (.int .i64 va.n)).setCell ⟨b6, 2, none⟩ (.int .i64 va.s) := ⟨_, rfl⟩
        rw [← hY6] at HG ⊢
        clear hY6
        have he6 : Below V0.heap.size V0 Y6 := HV.out.bel.grown HG.out.2 HV.out.bel.size (fun q e => by injection e with e; have h1 := Hb6.out.1; have h2 := HVS.out; omega)
        have hN : Y6.heap[b7]? = some (.cells #[.int .i64 0, .int .i64 0, .int .i64 0] 75) := by rw [HG.out.2.block b7 (lt_fkH (HV.out.fact 0 rfl)) (fun e => HNE.out (Option.some.inj e).symm)]; exact HV.out.fact 0 rfl
        have HG6 := Lib.hid (And.intro HG.out.1 he6)
        clear HG he6
        obtain ⟨⟨z0, z1, z2, zf⟩, hC, hG⟩ := store3 (y0 := .int .i64 vb.k) (y1 := .int .i64 vb.n) (y2 := .int .i64 vb.s) hN
        have f0 := zf 0
        have f1 := zf 1
        have f2 := zf 2
        have HG := Lib.hid (And.intro hC hG)
        clear hC hG zf hN
        refine tail_mk (by rw [HVS.out]; exact HG6.out.2) ?_
        refine plan_alt rfl ?_ plan_stop
        go_wp2_with fail
        clear z0 z1 z2 f0 f1 f2
        obtain ⟨Y7, hY7⟩ : ∃ w, w = ((Y6.setCell ⟨b7, 0, none⟩ (.int .i64 vb.k)).setCell ⟨b7, 1, none⟩ (.int .i64 vb.n)).setCell ⟨b7, 2, none⟩ (.int .i64 vb.s) := ⟨_, rfl⟩
        rw [← hY7] at HG ⊢
        clear hY7
        have he7 : Below V0.heap.size V0 Y7 := HG6.out.2.grown HG.out.2 HG6.out.2.size (fun q e => by injection e with e; have h1 := Hb7.out.1; have h2 := HVS.out; omega)
        have HE7 := Lib.hid (And.intro he7 (And.intro (fkC_grown HG6.out.1 HG.out.2 (fun e => HNE.out (Option.some.inj e))) HG.out.1))
        clear he7
        refine tail_mk (by rw [HVS.out]; exact HE7.out.1) ?_
        refine plan_done ?_
        go_wp2_with fail
        go_meet
        case rel => exact ⟨b6, b7, rfl, rfl, ((HV0.out.1.below HE7.out.1).add (q := fkC b7 [.int .i64 vb.k, .int .i64 vb.n, .int .i64 vb.s]) HE7.out.2.2).add (q := fkC b6 [.int .i64 va.k, .int .i64 va.n, .int .i64 va.s]) HE7.out.2.1, HV0.out.2.kept (grownBy_below HE7.out.1) (by simp)⟩
     refine plan_alt rfl ?_ plan_stop
     ·skip
      have HLT := Lib.hid (show b6 < V17.heap.size from lt_fkH (HV.out.fact 0 rfl))
      go_wp2_with fail
      have hv := (HV.out.below ((Below.refl _ _).alloc (Nat.le_refl _) (.cells #[.int .i64 0, .int .i64 0, .int .i64 0] 75))).add (q := fkH V17.heap.size (.cells #[.int .i64 0, .int .i64 0, .int .i64 0] 75)) (heap_alloc_new _ _)
      obtain ⟨b7, hb⟩ : ∃ b, b = V17.heap.size := ⟨_, rfl⟩
      have Hb7 := Lib.hid (show VS ≤ b7 ∧ b7 = V17.heap.size from ⟨by rw [hb, HVS.out]; exact HV.out.bel.size, hb⟩)
      obtain ⟨V23, hw⟩ : ∃ w, w = V17.alloc (.cells #[.int .i64 0, .int .i64 0, .int .i64 0] 75) := ⟨_, rfl⟩
      rw [← hw, ← hb] at hv
      rw [← hw, ← hb]
      have HV := Lib.hid hv
      clear hv hb hw
      refine tail_mk (by rw [HVS.out]; exact HV.out.bel) ?_
      have HNE := Lib.hid (show b6 ≠ b7 from by have h1 := HLT.out; have h2 := Hb7.out.2; omega)
      refine plan_alt rfl ?_ plan_stop
      ·skip
       go_wp2_with fail
       refine (HIA.out _ HV.out.bel).mono ?_
       rintro E V24 ⟨rfl, b5⟩
       have HV := Lib.hid (HV.out.below b5)
       clear b5
       go_wp2_with fail
       refine tail_mk (by rw [HVS.out]; exact HV.out.bel) ?_
       refine plan_alt rfl ?_ plan_stop
       ·skip
        go_wp2_with fail
        refine (HIB.out _ HV.out.bel).mono ?_
        rintro E V25 ⟨rfl, b5⟩
        have HV := Lib.hid (HV.out.below b5)
        clear b5
        go_wp2_with fail
        refine tail_mk (by rw [HVS.out]; exact HV.out.bel) ?_
        refine plan_alt rfl ?_ plan_stop
        have hN : V25.heap[b6]? = some (.cells #[.int .i64 0, .int .i64 0, .int .i64 0] 75) := HV.out.fact 1 rfl
        obtain ⟨⟨z0, z1, z2, zf⟩, hC, hG⟩ := store3 (y0 := .int .i64 va.k) (y1 := .int .i64 va.n) (y2 := .int .i64 va.s) hN
        have f0 := zf 0
        have f1 := zf 1
        have f2 := zf 2
        have HG := Lib.hid (And.intro hC hG)
        clear hC hG zf hN
        go_wp2_with fail
        clear z0 z1 z2 f0 f1 f2
        obtain ⟨Y6, hY6⟩ : ∃ w, w = ((V25.setCell ⟨b6, 0, none⟩ (.int .i64 va.k)).setCell ⟨b6, 1, none⟩ (.int .i64 va.n)).setCell ⟨b6, 2, none⟩ (.int .i64 va.s) := ⟨_, rfl⟩
        rw [← hY6] at HG ⊢
        clear hY6
        have he6 : Below V0.heap.size V0 Y6 := HV.out.bel.grown HG.out.2 HV.out.bel.size (fun q e => by injection e with e; have h1 := Hb6.out.1; have h2 := HVS.out; omega)
        have hN : Y6.heap[b7]? = some (.cells #[.int .i64 0, .int .i64 0, .int .i64 0] 75) := by rw [HG.out.2.block b7 (lt_fkH (HV.out.fact 0 rfl)) (fun e => HNE.out (Option.some.inj e).symm)]; exact HV.out.fact 0 rfl
        have HG6 := Lib.hid (And.intro HG.out.1 he6)
        clear HG he6
        obtain ⟨⟨z0, z1, z2, zf⟩, hC, hG⟩ := store3 (y0 := .int .i64 vb.k) (y1 := .int .i64 vb.n) (y2 := .int .i64 vb.s) hN
        have f0 := zf 0
        have f1 := zf 1
        have f2 := zf 2
        have HG := Lib.hid (And.intro hC hG)
        clear hC hG zf hN
        refine tail_mk (by rw [HVS.out]; exact HG6.out.2) ?_
        refine plan_alt rfl ?_ plan_stop
        go_wp2_with fail
        clear z0 z1 z2 f0 f1 f2
        obtain ⟨Y7, hY7⟩ : ∃ w, w = ((Y6.setCell ⟨b7, 0, none⟩ (.int .i64 vb.k)).setCell ⟨b7, 1, none⟩ (.int .i64 vb.n)).setCell ⟨b7, 2, none⟩ (.int .i64 vb.s) := ⟨_, rfl⟩
        rw [← hY7] at HG ⊢
        clear hY7
        have he7 : Below V0.heap.size V0 Y7 := HG6.out.2.grown HG.out.2 HG6.out.2.size (fun q e => by injection e with e; have h1 := Hb7.out.1; have h2 := HVS.out; omega)
        have HE7 := Lib.hid (And.intro he7 (And.intro (fkC_grown HG6.out.1 HG.out.2 (fun e => HNE.out (Option.some.inj e))) HG.out.1))
        clear he7
        refine tail_mk (by rw [HVS.out]; exact HE7.out.1) ?_
        refine plan_done ?_
        go_wp2_with fail
        go_meet
        case rel => exact ⟨b6, b7, rfl, rfl, ((HV0.out.1.below HE7.out.1).add (q := fkC b7 [.int .i64 vb.k, .int .i64 vb.n, .int .i64 vb.s]) HE7.out.2.2).add (q := fkC b6 [.int .i64 va.k, .int .i64 va.n, .int .i64 va.s]) HE7.out.2.1, HV0.out.2.kept (grownBy_below HE7.out.1) (by simp)⟩
    refine plan_alt rfl ?_ plan_stop
    ·skip
     go_wp2_with fail
     have hv := (HV.out.below ((Below.refl _ _).alloc (Nat.le_refl _) (.cells #[.int .i64 0, .int .i64 0, .int .i64 0] 75))).add (q := fkH V0.heap.size (.cells #[.int .i64 0, .int .i64 0, .int .i64 0] 75)) (heap_alloc_new _ _)
     obtain ⟨b7, hb⟩ : ∃ b, b = V0.heap.size := ⟨_, rfl⟩
     have Hb7 := Lib.hid (show VS ≤ b7 ∧ b7 = V0.heap.size from ⟨by rw [hb, HVS.out]; exact HV.out.bel.size, hb⟩)
     obtain ⟨V26, hw⟩ : ∃ w, w = V0.alloc (.cells #[.int .i64 0, .int .i64 0, .int .i64 0] 75) := ⟨_, rfl⟩
     rw [← hw, ← hb] at hv
     rw [← hw, ← hb]
     have HV := Lib.hid hv
     clear hv hb hw
     refine tail_mk (by rw [HVS.out]; exact HV.out.bel) ?_
     refine plan_alt rfl ?_ ?_
     ·skip
      go_wp2_with fail
      refine (HIA.out _ HV.out.bel).mono ?_
      rintro E V27 ⟨rfl, b5⟩
      have HV := Lib.hid (HV.out.below b5)
      clear b5
      go_wp2_with fail
      refine tail_mk (by rw [HVS.out]; exact HV.out.bel) ?_
      refine plan_alt rfl ?_ ?_
      ·skip
       go_wp2_with fail
       refine (HIB.out _ HV.out.bel).mono ?_
       rintro E V28 ⟨rfl, b5⟩
       have HV := Lib.hid (HV.out.below b5)
       clear b5
       go_wp2_with fail
       refine tail_mk (by rw [HVS.out]; exact HV.out.bel) ?_
       refine plan_alt rfl ?_ plan_stop
       ·skip
        have HLT := Lib.hid (show b7 < V28.heap.size from lt_fkH (HV.out.fact 0 rfl))
        go_wp2_with fail
        have hv := (HV.out.below ((Below.refl _ _).alloc (Nat.le_refl _) (.cells #[.int .i64 0, .int .i64 0, .int .i64 0] 75))).add (q := fkH V28.heap.size (.cells #[.int .i64 0, .int .i64 0, .int .i64 0] 75)) (heap_alloc_new _ _)
        obtain ⟨b6, hb⟩ : ∃ b, b = V28.heap.size := ⟨_, rfl⟩
        have Hb6 := Lib.hid (show VS ≤ b6 ∧ b6 = V28.heap.size from ⟨by rw [hb, HVS.out]; exact HV.out.bel.size, hb⟩)
        obtain ⟨V29, hw⟩ : ∃ w, w = V28.alloc (.cells #[.int .i64 0, .int .i64 0, .int .i64 0] 75) := ⟨_, rfl⟩
        rw [← hw, ← hb] at hv
        rw [← hw, ← hb]
        have HV := Lib.hid hv
        clear hv hb hw
        refine tail_mk (by rw [HVS.out]; exact HV.out.bel) ?_
        have HNE := Lib.hid (show b7 ≠ b6 from by have h1 := HLT.out; have h2 := Hb6.out.2; omega)
        refine plan_alt rfl ?_ plan_stop
        have hN : V29.heap[b6]? = some (.cells #[.int .i64 0, .int .i64 0, .int .i64 0] 75) := HV.out.fact 0 rfl
        obtain ⟨⟨z0, z1, z2, zf⟩, hC, hG⟩ := store3 (y0 := .int .i64 va.k) (y1 := .int .i64 va.n) (y2 := .int .i64 va.s) hN
        have f0 := zf 0
        have f1 := zf 1
        have f2 := zf 2
        have HG := Lib.hid (And.intro hC hG)
        clear hC hG zf hN
        go_wp2_with fail
        clear z0 z1 z2 f0 f1 f2
        obtain ⟨Y6, hY6⟩ : ∃ w, w = ((V29.setCell ⟨b6, 0, none⟩ (.int .i64 va.k)).setCell ⟨b6, 1, none⟩ (.int .i64 va.n)).setCell ⟨b6, 2, none⟩ (.int .i64 va.s) := ⟨_, rfl⟩
        rw [← hY6] at HG ⊢
        clear hY6
        have he6 : Below V0.heap.size V0 Y6 := HV.out.bel.grown HG.out.2 HV.out.bel.size (fun q e => by injection e with e; have h1 := Hb6.out.1; have h2 := HVS.out; omega)
        have hN : Y6.heap[b7]? = some (.cells #[.int .i64 0, .int .i64 0, .int .i64 0] 75) := by rw [HG.out.2.block b7 (lt_fkH (HV.out.fact 1 rfl)) (fun e => HNE.out.symm (Option.some.inj e).symm)]; exact HV.out.fact 1 rfl
        have HG6 := Lib.hid (And.intro HG.out.1 he6)
        clear HG he6
        obtain ⟨⟨z0, z1, z2, zf⟩, hC, hG⟩ := store3 (y0 := .int .i64 vb.k) (y1 := .int .i64 vb.n) (y2 := .int .i64 vb.s) hN
        have f0 := zf 0
        have f1 := zf 1
        have f2 := zf 2
        have HG := Lib.hid (And.intro hC hG)
        clear hC hG zf hN
        refine tail_mk (by rw [HVS.out]; exact HG6.out.2) ?_
        refine plan_alt rfl ?_ plan_stop
        go_wp2_with fail
        clear z0 z1 z2 f0 f1 f2
        obtain ⟨Y7, hY7⟩ : ∃ w, w = ((Y6.setCell ⟨b7, 0, none⟩ (.int .i64 vb.k)).setCell ⟨b7, 1, none⟩ (.int .i64 vb.n)).setCell ⟨b7, 2, none⟩ (.int .i64 vb.s) := ⟨_, rfl⟩
        rw [← hY7] at HG ⊢
        clear hY7
        have he7 : Below V0.heap.size V0 Y7 := HG6.out.2.grown HG.out.2 HG6.out.2.size (fun q e => by injection e with e; have h1 := Hb7.out.1; have h2 := HVS.out; omega)
        have HE7 := Lib.hid (And.intro he7 (And.intro (fkC_grown HG6.out.1 HG.out.2 (fun e => HNE.out.symm (Option.some.inj e))) HG.out.1))
        clear he7
        refine tail_mk (by rw [HVS.out]; exact HE7.out.1) ?_
        refine plan_done ?_
        go_wp2_with fail
        go_meet
        case rel => exact ⟨b6, b7, rfl, rfl, ((HV0.out.1.below HE7.out.1).add (q := fkC b7 [.int .i64 vb.k, .int .i64 vb.n, .int .i64 vb.s]) HE7.out.2.2).add (q := fkC b6 [.int .i64 va.k, .int .i64 va.n, .int .i64 va.s]) HE7.out.2.1, HV0.out.2.kept (grownBy_below HE7.out.1) (by simp)⟩
      refine plan_alt rfl ?_ plan_stop
      ·skip
       have HLT := Lib.hid (show b7 < V27.heap.size from lt_fkH (HV.out.fact 0 rfl))
       go_wp2_with fail
       have hv := (HV.out.below ((Below.refl _ _).alloc (Nat.le_refl _) (.cells #[.int .i64 0, .int .i64 0, .int .i64 0] 75))).add (q := fkH V27.heap.size (.cells #[.int .i64 0, .int .i64 0, .int .i64 0] 75)) (heap_alloc_new _ _)
       obtain ⟨b6, hb⟩ : ∃ b, b = V27.heap.size := ⟨_, rfl⟩
       have Hb6 := Lib.hid (show VS ≤ b6 ∧ b6 = V27.heap.size from ⟨by rw [hb, HVS.out]; exact HV.out.bel.size, hb⟩)
       obtain ⟨V30, hw⟩ : ∃ w, w = V27.alloc (.cells #[.int .i64 0, .int .i64 0, .int .i64 0] 75) := ⟨_, rfl⟩
       rw [← hw, ← hb] at hv
       rw [← hw, ← hb]
       have HV := Lib.hid hv
       clear hv hb hw
       refine tail_mk (by rw [HVS.out]; exact HV.out.bel) ?_
       have HNE := Lib.hid (show b7 ≠ b6 from by have h1 := HLT.out; have h2 := Hb6.out.2; omega)
       refine plan_alt rfl ?_ plan_stop
       ·skip
        go_wp2_with fail
        refine (HIB.out _ HV.out.bel).mono ?_
        rintro E V31 ⟨rfl, b5⟩
        have HV := Lib.hid (HV.out.below b5)
        clear b5
        go_wp2_with fail
        refine tail_mk (by rw [HVS.out]; exact HV.out.bel) ?_
        refine plan_alt rfl ?_ plan_stop
        have hN : V31.heap[b6]? = some (.cells #[.int .i64 0, .int .i64 0, .int .i64 0] 75) := HV.out.fact 0 rfl
        obtain ⟨⟨z0, z1, z2, zf⟩, hC, hG⟩ := store3 (y0 := .int .i64 va.k) (y1 := .int .i64 va.n) (y2 := .int .i64 va.s) hN
        have f0 := zf 0
        have f1 := zf 1
        have f2 := zf 2
        have HG := Lib.hid (And.intro hC hG)
        clear hC hG zf hN
        go_wp2_with fail
        clear z0 z1 z2 f0 f1 f2
        obtain ⟨Y6, hY6⟩ : ∃ w, w = ((V31.setCell ⟨b6, 0, none⟩ (.int .i64 va.k)).setCell ⟨b6, 1, none⟩ (.int .i64 va.n)).setCell ⟨b6, 2, none⟩ (.int .i64 va.s) := ⟨_, rfl⟩
        rw [← hY6] at HG ⊢
        clear hY6
        have he6 : Below V0.heap.size V0 Y6 := HV.out.bel.grown HG.out.2 HV.out.bel.size (fun q e => by injection e with e; have h1 := Hb6.out.1; have h2 := HVS.out; omega)
        have hN : Y6.heap[b7]? = some (.cells #[.int .i64 0, .int .i64 0, .int .i64 0] 75) := by rw [HG.out.2.block b7 (lt_fkH (HV.out.fact 1 rfl)) (fun e => HNE.out.symm (Option.some.inj e).symm)]; exact HV.out.fact 1 rfl
        have HG6 := Lib.hid (And.intro HG.out.1 he6)
        clear HG he6
        obtain ⟨⟨z0, z1, z2, zf⟩, hC, hG⟩ := store3 (y0 := .int .i64 vb.k) (y1 := .int .i64 vb.n) (y2 := .int .i64 vb.s) hN
        have f0 := zf 0
        have f1 := zf 1
        have f2 := zf 2
        have HG := Lib.hid (And.intro hC hG)
        clear hC hG zf hN
        refine tail_mk (by rw [HVS.out]; exact HG6.out.2) ?_
        refine plan_alt rfl ?_ plan_stop
        go_wp2_with fail
        clear z0 z1 z2 f0 f1 f2
        obtain ⟨Y7, hY7⟩ : ∃ w, w = ((Y6.setCell ⟨b7, 0, none⟩ (.int .i64 vb.k)).setCell ⟨b7, 1, none⟩ (.int .i64 vb.n)).setCell ⟨b7, 2, none⟩ (.int .i64 vb.s) := ⟨_, rfl⟩
        rw [← hY7] at HG ⊢
        clear hY7
        have he7 : Below V0.heap.size V0 Y7 := HG6.out.2.grown HG.out.2 HG6.out.2.size (fun q e => by injection e with e; have h1 := Hb7.out.1; have h2 := HVS.out; omega)
        have HE7 := Lib.hid (And.intro he7 (And.intro (fkC_grown HG6.out.1 HG.out.2 (fun e => HNE.out.symm (Option.some.inj e))) HG.out.1))
        clear he7
        refine tail_mk (by rw [HVS.out]; exact HE7.out.1) ?_
        refine plan_done ?_
        go_wp2_with fail
        go_meet
        case rel => exact ⟨b6, b7, rfl, rfl, ((HV0.out.1.below HE7.out.1).add (q := fkC b7 [.int .i64 vb.k, .int .i64 vb.n, .int .i64 vb.s]) HE7.out.2.2).add (q := fkC b6 [.int .i64 va.k, .int .i64 va.n, .int .i64 va.s]) HE7.out.2.1, HV0.out.2.kept (grownBy_below HE7.out.1) (by simp)⟩
     refine plan_alt rfl ?_ plan_stop
     ·skip
      have HLT := Lib.hid (show b7 < V26.heap.size from lt_fkH (HV.out.fact 0 rfl))
      go_wp2_with fail
      have hv := (HV.out.below ((Below.refl _ _).alloc (Nat.le_refl _) (.cells #[.int .i64 0, .int .i64 0, .int .i64 0] 75))).add (q := fkH V26.heap.size (.cells #[.int .i64 0, .int .i64 0, .int .i64 0] 75)) (heap_alloc_new _ _)
      obtain ⟨b6, hb⟩ : ∃ b, b = V26.heap.size := ⟨_, rfl⟩
      have Hb6 := Lib.hid (show VS ≤ b6 ∧ b6 = V26.heap.size from ⟨by rw [hb, HVS.out]; exact HV.out.bel.size, hb⟩)
      obtain ⟨V32, hw⟩ : ∃ w, w = V26.alloc (.cells #[.int .i64 0, .int .i64 0, .int .i64 0] 75) := ⟨_, rfl⟩
      rw [← hw, ← hb] at hv
      rw [← hw, ← hb]
      have HV := Lib.hid hv
      clear hv hb hw
      refine tail_mk (by rw [HVS.out]; exact HV.out.bel) ?_
      have HNE := Lib.hid (show b7 ≠ b6 from by have h1 := HLT.out; have h2 := Hb6.out.2; omega)
      refine plan_alt rfl ?_ plan_stop
      ·skip
       go_wp2_with fail
       refine (HIA.out _ HV.out.bel).mono ?_
       rintro E V33 ⟨rfl, b5⟩
       have HV := Lib.hid (HV.out.below b5)
       clear b5
       go_wp2_with fail
       refine tail_mk (by rw [HVS.out]; exact HV.out.bel) ?_
       refine plan_alt rfl ?_ plan_stop
       ·skip
        go_wp2_with fail
        refine (HIB.out _ HV.out.bel).mono ?_
        rintro E V34 ⟨rfl, b5⟩
        have HV := Lib.hid (HV.out.below b5)
        clear b5
        go_wp2_with fail
        refine tail_mk (by rw [HVS.out]; exact HV.out.bel) ?_
        refine plan_alt rfl ?_ plan_stop
        have hN : V34.heap[b6]? = some (.cells #[.int .i64 0, .int .i64 0, .int .i64 0] 75) := HV.out.fact 0 rfl
        obtain ⟨⟨z0, z1, z2, zf⟩, hC, hG⟩ := store3 (y0 := .int .i64 va.k) (y1 := .int .i64 va.n) (y2 := .int .i64 va.s) hN
        have f0 := zf 0
        have f1 := zf 1
        have f2 := zf 2
        have HG := Lib.hid (And.intro hC hG)
        clear hC hG zf hN
        go_wp2_with fail
        clear z0 z1 z2 f0 f1 f2
        obtain ⟨Y6, hY6⟩ : ∃ w, w = ((V34.setCell ⟨b6, 0, none⟩ (.int .i64 va.k)).setCell ⟨b6, 1, none⟩ (.int .i64 va.n)).setCell ⟨b6, 2, none⟩ (.int .i64 va.s) := ⟨_, rfl⟩
        rw [← hY6] at HG ⊢
        clear hY6
        have he6 : Below V0.heap.size V0 Y6 := HV.out.bel.grown HG.out.2 HV.out.bel.size (fun q e => by injection e with e; have h1 := Hb6.out.1; have h2 := HVS.out; omega)
        have hN : Y6.heap[b7]? = some (.cells #[.int .i64 0, .int .i64 0, .int .i64 0] 75) := by rw [HG.out.2.block b7 (lt_fkH (HV.out.fact 1 rfl)) (fun e => HNE.out.symm (Option.some.inj e).symm)]; exact HV.out.fact 1 rfl
        have HG6 := Lib.hid (And.intro HG.out.1 he6)
        clear HG he6
        obtain ⟨⟨z0, z1, z2, zf⟩, hC, hG⟩ := store3 (y0 := .int .i64 vb.k) (y1 := .int .i64 vb.n) (y2 := .int .i64 vb.s) hN
        have f0 := zf 0
        have f1 := zf 1
        have f2 := zf 2
        have HG := Lib.hid (And.intro hC hG)
        clear hC hG zf hN
        refine tail_mk (by rw [HVS.out]; exact HG6.out.2) ?_
        refine plan_alt rfl ?_ plan_stop
        go_wp2_with fail
        clear z0 z1 z2 f0 f1 f2
        obtain ⟨Y7, hY7⟩ : ∃ w, w = ((Y6.setCell ⟨b7, 0, none⟩ (.int .i64 vb.k)).setCell ⟨b7, 1, none⟩ (.int .i64 vb.n)).setCell ⟨b7, 2, none⟩ (.int .i64 vb.s) := ⟨_, rfl⟩
        rw [← hY7] at HG ⊢
        clear hY7
        have he7 : Below V0.heap.size V0 Y7 := HG6.out.2.grown HG.out.2 HG6.out.2.size (fun q e => by injection e with e; have h1 := Hb7.out.1; have h2 := HVS.out; omega)
        have HE7 := Lib.hid (And.intro he7 (And.intro (fkC_grown HG6.out.1 HG.out.2 (fun e => HNE.out.symm (Option.some.inj e))) HG.out.1))
        clear he7
        refine tail_mk (by rw [HVS.out]; exact HE7.out.1) ?_
        refine plan_done ?_
        go_wp2_with fail
        go_meet
        case rel => exact ⟨b6, b7, rfl, rfl, ((HV0.out.1.below HE7.out.1).add (q := fkC b7 [.int .i64 vb.k, .int .i64 vb.n, .int .i64 vb.s]) HE7.out.2.2).add (q := fkC b6 [.int .i64 va.k, .int .i64 va.n, .int .i64 va.s]) HE7.out.2.1, HV0.out.2.kept (grownBy_below HE7.out.1) (by simp)⟩
   case rest =>
   obtain ⟨b6, b7, rfl, rfl, hE, hS⟩ := hcut
   have a0 := hE.cell 0 rfl 0 rfl
   have c0 := hE.cell 1 rfl 0 rfl
   have HZ7 := Lib.hid (And.intro hE hS)
   clear hE hS HV0 HIA HIB HS0
   by_cases ka : va.k = 3
   case neg =>
    have t1 : (va.k == 3) = false := by simpa using ka
    have HU := Lib.hid (show celN u x.o (i + 1) = celN u x.o i by rw [HO.out.2.1, celL_no (fun h => ka (by rw [HAB.out.1, HP.out.2.2.2.1]; exact h.2.1)), List.append_nil])
    clear ka
    go_wp2_with fail
    go_roundw
    case rel => exact ⟨i + 1, by omega, by go_num, by rw [HU.out]; exact ⟨HZ7.out.2, HZ7.out.1.drop 4⟩⟩
    case measure => simp [intOf]; omega
   have t1 : (va.k == 3) = true := by simpa using ka
   by_cases kb : vb.k = 3
   case neg =>
    have t2 : (vb.k == 3) = false := by simpa using kb
    have HU := Lib.hid (show celN u x.o (i + 1) = celN u x.o i by rw [HO.out.2.1, celL_no (fun h => kb (by rw [HAB.out.2.1, HP.out.2.2.2.1]; exact h.2.2)), List.append_nil])
    clear ka kb
    go_wp2_with fail
    go_roundw
    case rel => exact ⟨i + 1, by omega, by go_num, by rw [HU.out]; exact ⟨HZ7.out.2, HZ7.out.1.drop 4⟩⟩
    case measure => simp [intOf]; omega
   have t2 : (vb.k == 3) = true := by simpa using kb
   have hup : celN u x.o (i + 1) = celN u x.o i ++ [(va.s, y.m, vb.s)] := by
    rw [HO.out.2.1, celL_yes (by rw [← HP.out.2.2.2.1]; exact HAB.out.2.2) (by rw [← HP.out.2.2.2.1, ← HAB.out.1]; exact ka) (by rw [← HP.out.2.2.2.1, ← HAB.out.2.1]; exact kb), ← HP.out.2.2.2.1, ← HAB.out.1, ← HAB.out.2.1]
   obtain ⟨kl, hkl⟩ := fkWf (va.s, y.m, vb.s) ⟨HIN.out.1.2.2, by rw [HP.out.2.2.2.1]; exact HO.out.2.2.2.2.2.1, HIN.out.2.2.2⟩
   have HUK := Lib.hid (And.intro hup hkl)
   have hn9 : (celN u x.o i).length < maxLen := by
    have h1 := celN_len (u := u) x.o i (by have := HX.out.2.2.1; omega)
    have h2 := HX.out.2.1
    have h3 := HX.out.2.2.1
    unfold maxLen; omega
   have a2 := HZ7.out.1.cell 0 rfl 2 rfl
   have c2 := HZ7.out.1.cell 1 rfl 2 rfl
   have m6 := HZ7.out.1.cell 2 rfl 6 rfl
   clear ka kb hup hkl
   go_wp2_with (at_mapUpdate; refine wp_setPut HZ7.out.2 rfl _ _ _ rfl fkKeyed Tryz.underlying96 Tryz.underlying4 rfl rfl hn9 (cv (va.s, y.m, vb.s)) kl rfl HUK.out.2 ?_; intro W8 set8 g8; have H8 := Lib.hid (And.intro set8 g8); clear set8 g8)
   have H9 : Hid (SetT Tryz.prog 54 4 W8 mb (celN u x.o (i + 1)).length ((celN u x.o (i + 1)).map cv) ∧ Env W [fkC be [.int .i64 x.e, .slice oa N oc], fkC bu [v0, v1, .int .i64 u.mn]] W8) := Lib.hid (by
    have hB := HB.out
    refine ⟨by rw [HUK.out.1, List.map_append, List.length_append]; exact H8.out.1, (HZ7.out.1.drop 4).grown H8.out.2 (fun q e => by have := Option.some.inj e; omega) (fun f hf hp => ?_)⟩
    rcases List.mem_cons.1 hf with rfl | hf
    ·exact fkC_grown hp H8.out.2 (fun e => by have := Option.some.inj e; omega)
    ·rw [List.mem_singleton.1 hf] at hp ⊢
     exact fkC_grown hp H8.out.2 (fun e => by have := Option.some.inj e; omega))
   clear H8
   go_roundw
   case rel => exact ⟨i + 1, by omega, by go_num, H9.out⟩
   case measure => simp [intOf]; omega
  ·obtain rfl : i = N := by omega
   have hs := HL.out.1
   have hin : ∀ z ∈ celN u x.o i, inI z.1 ∧ z.2.1.size ≤ maxLen ∧ inI z.2.2 := fun z hz => by
    rw [show celN u x.o i = x.o.flatMap (celL u) by rw [HX.out.2.2.1, celN_all]] at hz
    obtain ⟨o, ho, hz⟩ := List.mem_flatMap.1 hz
    unfold celL at hz
    split at hz
    ·rename_i h9
     rw [List.mem_singleton] at hz
     subst hz
     obtain ⟨⟨a0, a1⟩, b0, b1⟩ := HR.out.2.1 o ho h9.1
     have hsz := HR.out.2.2 o ho
     obtain ⟨t, ht, rfl⟩ := mem_nth ho
     obtain ⟨-, vv, -, hvv, -⟩ := HC.out t (by rw [HX.out.2.2.1]; exact ht)
     obtain ⟨_, _, -, -, -, hvc⟩ := InS.vl hvv
     exact ⟨(hvc _ (by omega)).2.1.2.2, hsz, (hvc _ (by omega)).2.1.2.2⟩
    ·exact absurd hz (by simp)
   have hlen9 : (celN u x.o i).length ≤ 1048576 := Nat.le_trans (celN_len x.o i (by rw [HX.out.2.2.1]; exact Nat.le_refl _)) (by have := HX.out.2.1; have := HX.out.2.2.1; omega)
   have ha := ascF_any mb _ (celN u x.o i) wr hs (by omega) (by omega) hin
   rw [show celN u x.o i = celN u x.o x.o.length by rw [← HX.out.2.2.1]] at ha
   have HA := Lib.hid ha
   clear hs hin ha hlen9 hil
   go_wp2_with fail
   refine HA.out.mono ?_
   rintro e W5 ⟨a, c, L, rfl, ho, hp, hm, hb⟩
   have H5 := Lib.hid (And.intro (ho.mono9 HL.out.2.bel.size) (And.intro hp (And.intro hm (HL.out.2.bel.trans (hb.mono HL.out.2.bel.size)))))
   clear ho hp hm hb HA
   go_wp2_with fail
   go_ret
   exact ⟨a, c, L, rfl, H5.out.1, H5.out.2.1, H5.out.2.2.1, H5.out.2.2.2⟩
end Go.Proofs.YtnklnklkblgnfaaGreat
end
section
namespace Go.Proofs.YtnklnklkblgnfaaGreat
open Go.RowKit Go.Dfl Go.Obs Go.Hir
theorem sum_mem9 {α : Type} (f : α → Nat) : ∀ (l : List α) (x : α), x ∈ l → f x ≤ (l.map f).sum
 | [], _, h => by simp at h
 | a :: l, x, h => by
   rw [List.map_cons, List.sum_cons]
   rcases List.mem_cons.1 h with rfl | h
   ·omega
   ·have := sum_mem9 f l x h; omega
theorem sum_le9 {α : Type} (f g : α → Nat) (h : ∀ x, f x ≤ g x) : ∀ l : List α, (l.map f).sum ≤ (l.map g).sum
 | [] => Nat.le_refl _
 | a :: l => by
   rw [List.map_cons, List.map_cons, List.sum_cons, List.sum_cons]
   have := sum_le9 f g h l
   have := h a
   omega
theorem sum_one9 {α : Type} (f : α → Nat) (h : ∀ x, 1 ≤ f x) : ∀ l : List α, l.length ≤ (l.map f).sum
 | [] => Nat.le_refl _
 | a :: l => by
   rw [List.map_cons, List.sum_cons, List.length_cons]
   have := sum_one9 f h l
   have := h a
   omega
section
variable {α : Type} [Inhabited α]
theorem wt_len (V : Vw α) (h : ∀ x, 1 ≤ V.wt x) (l : List α) : l.length ≤ (vL V).wt l := by
 show l.length ≤ (l.map V.wt).sum + 1
 have := sum_one9 V.wt h l
 omega
theorem wt_mem (V : Vw α) {l : List α} {x : α} (h : x ∈ l) : V.wt x ≤ (vL V).wt l := by
 show V.wt x ≤ (l.map V.wt).sum + 1
 have := sum_mem9 V.wt l x h
 omega
theorem wt_sum (V : Vw α) (f : α → Nat) (h : ∀ x, f x ≤ V.wt x) (l : List α) : (l.map f).sum ≤ (vL V).wt l := by
 show (l.map f).sum ≤ (l.map V.wt).sum + 1
 have := sum_le9 f V.wt h l
 omega
end
theorem vd1 (x : Vd) : 1 ≤ vVd.wt x := by show 1 ≤ (x.n.size + 1) + (x.t.size + 1) + 1; omega
theorem sg1 (x : Sg) : 1 ≤ vSg.wt x := by show 1 ≤ (x.n.size + 1) + 1 + (vL vS).wt x.ps + (x.r.size + 1) + 1; omega
theorem s1 (x : ByteArray) : 1 ≤ vS.wt x := by show 1 ≤ x.size + 1; omega
theorem i1w (x : Int) : 1 ≤ vI.wt x := Nat.le_refl _
theorem is1 (x : Is) : 1 ≤ vIs.wt x := by show 1 ≤ 1 + 1 + 1 + 1 + 1 + (x.c.size + 1) + (x.m.size + 1) + (vL vI).wt x.ar + 1 + 1 + 1; omega
theorem cl_fs (x : Cl) : x.fs.length ≤ vCl.wt x := by
 show _ ≤ (x.n.size + 1) + (x.s.size + 1) + (vL vVd).wt x.fs + (vL vSg).wt x.ms + 1
 have := wt_len vVd vd1 x.fs
 omega
theorem cl_ms (x : Cl) : x.ms.length ≤ vCl.wt x := by
 show _ ≤ (x.n.size + 1) + (x.s.size + 1) + (vL vVd).wt x.fs + (vL vSg).wt x.ms + 1
 have := wt_len vSg sg1 x.ms
 omega
theorem cl_sg (x : Cl) {s : Sg} (h : s ∈ x.ms) : s.ps.length ≤ vCl.wt x := by
 show _ ≤ (x.n.size + 1) + (x.s.size + 1) + (vL vVd).wt x.fs + (vL vSg).wt x.ms + 1
 have h1 := wt_mem vSg h
 have h2 : s.ps.length ≤ vSg.wt s := by
  show _ ≤ (s.n.size + 1) + 1 + (vL vS).wt s.ps + (s.r.size + 1) + 1
  have := wt_len vS s1 s.ps
  omega
 omega
theorem fu_cd (x : Fu) : x.cd.length ≤ vFu.wt x := by
 show _ ≤ (x.c.size + 1) + (x.m.size + 1) + 1 + 1 + (vL vVd).wt x.vs + (x.r.size + 1) + (vL vIs).wt x.cd + 1
 have := wt_len vIs is1 x.cd
 omega
theorem fu_ar (x : Fu) {y : Is} (h : y ∈ x.cd) : y.ar.length ≤ vFu.wt x := by
 show _ ≤ (x.c.size + 1) + (x.m.size + 1) + 1 + 1 + (vL vVd).wt x.vs + (x.r.size + 1) + (vL vIs).wt x.cd + 1
 have h1 := wt_mem vIs h
 have h2 : y.ar.length ≤ vIs.wt y := by
  show _ ≤ 1 + 1 + 1 + 1 + 1 + (y.c.size + 1) + (y.m.size + 1) + (vL vI).wt y.ar + 1 + 1 + 1
  have := wt_len vI i1w y.ar
  omega
 omega
theorem siL_len9 (i : Nat) (f : Fu) : ∀ k, (siL i f k).length ≤ k ∧ (siL i f k).length ≤ f.cd.length
 | 0 => by rw [siL_zero]; simp
 | k + 1 => by
   obtain ⟨h1, h2⟩ := siL_len9 i f k
   by_cases h : (nth f.cd k).op = 6
   ·rw [siL_yes h, List.length_append, List.length_singleton]
    have hk : k < f.cd.length := by
     by_cases hk : k < f.cd.length
     ·exact hk
     ·rw [nth_out _ _ (by omega)] at h
      exact absurd h (by decide)
    omega
   ·rw [siL_no h]; omega
theorem siU_len9 (fs : List Fu) (i k : Nat) : (siU fs i k).length ≤ cdN fs := by
 have key : ∀ n, ((List.range n).flatMap fun a => siL a (nth fs a) (nth fs a).cd.length).length ≤ ((fs.take n).map fun f => f.cd.length).sum := by
  intro n
  induction n with
  | zero => simp
  | succ n ih =>
    rw [List.range_succ, List.flatMap_append, List.length_append]
    by_cases hn : n < fs.length
    ·rw [take_snoc _ _ hn, List.map_append, List.sum_append]
     have := (siL_len9 n (nth fs n) (nth fs n).cd.length).1
     simp at *
     omega
    ·have e1 : nth fs n = default := nth_out _ _ (by omega)
     have e2 : (siL n (default : Fu) (default : Fu).cd.length).length = 0 := rfl
     rw [List.take_of_length_le (by omega)] at ih ⊢
     simp only [List.flatMap_cons, List.flatMap_nil, List.append_nil, e1, e2]
     exact ih
 have h1 := key i
 have h2 := (siL_len9 i (nth fs i) k).2
 unfold siU cdN
 rw [List.length_append]
 by_cases hi : i < fs.length
 ·have h3 : ((fs.take i).map fun f => f.cd.length).sum + (nth fs i).cd.length ≤ (fs.map fun f => f.cd.length).sum := by
   conv => rhs; rw [← List.take_append_drop i fs, List.map_append, List.sum_append]
   have : fs.drop i = nth fs i :: fs.drop (i + 1) := by rw [nth_eq _ _ hi]; exact (List.getElem_cons_drop hi).symm
   rw [this]
   simp
  omega
 ·rw [nth_out _ _ (by omega)] at h2 ⊢
  rw [List.take_of_length_le (by omega)] at h1
  have : (default : Fu).cd.length = 0 := rfl
  omega
structure UnS (u : Un) : Prop where
 w : UnW u
 f : ∀ d ∈ u.cs, d.fs.length ≤ 1048576
 c : cdN u.fs ≤ 1048576
 s : ∀ i k, ((siU u.fs i k).length : Int) ≤ 9223372036854775807
theorem unit_small {u : Un} (h : vUnit.wt u ≤ 1048576) : UnS u := by
 have h0 : (vL vCl).wt u.cs + 1 + (vL vFu).wt u.fs + 1 + 1 ≤ 1048576 := h
 have hc : cdN u.fs ≤ 1048576 := by
  have := wt_sum vFu (fun f => f.cd.length) fu_cd u.fs
  unfold cdN
  omega
 refine ⟨⟨?_, fun c hc s hs => ?_, fun f hf x hx => ?_⟩, fun d hd => ?_, hc, fun i k => ?_⟩
 ·have := wt_sum vCl (fun c => c.ms.length) cl_ms u.cs
  unfold off
  rw [List.take_length]
  omega
 ·have := wt_mem vCl hc
  have := cl_sg c hs
  omega
 ·have := wt_mem vFu hf
  have := fu_ar f hx
  omega
 ·have := wt_mem vCl hd
  have := cl_fs d
  omega
 ·have := siU_len9 u.fs i k
  omega
theorem unit_ints {W : World} {v0 v1 : Value} {u : Un} (h : UnIn W v0 v1 u) : ∀ f ∈ u.fs, ∀ x ∈ f.cd, R64 x.n := by
 intro f hf x hx
 obtain ⟨i, hi, rfl⟩ := mem_nth hf
 obtain ⟨j, hj, rfl⟩ := mem_nth hx
 obtain ⟨fa, fc, -, -, -, hfc⟩ := InS.fu h.2
 obtain ⟨-, v4, v6, ⟨-, -, -, -, -, h6⟩, -⟩ := hfc i hi
 obtain ⟨xa, xc, -, -, -, hxc⟩ := InS.is h6
 obtain ⟨-, v7, ⟨-, -, -, -, hn, -⟩, -⟩ := hxc j hj
 exact hn
theorem unit_strs {W : World} {v0 v1 : Value} {u : Un} (h : UnIn W v0 v1 u) : ∀ f ∈ u.fs, ∀ x ∈ f.cd, x.m.size ≤ maxLen := by
 intro f hf x hx
 obtain ⟨i, hi, rfl⟩ := mem_nth hf
 obtain ⟨j, hj, rfl⟩ := mem_nth hx
 obtain ⟨fa, fc, -, -, -, hfc⟩ := InS.fu h.2
 obtain ⟨-, v4, v6, ⟨-, -, -, -, -, h6⟩, -⟩ := hfc i hi
 obtain ⟨xa, xc, -, -, -, hxc⟩ := InS.is h6
 obtain ⟨-, v7, ⟨-, -, -, -, -, -, hm, -⟩, -⟩ := hxc j hj
 exact hm
theorem ints_r64 {W : World} {v : Value} {l : List Int} (h : InS vI W v l) : ∀ x ∈ l, R64 x := by
 intro x hx
 obtain ⟨i, hi, rfl⟩ := mem_nth hx
 obtain ⟨c, -, h2⟩ := h
 exact (h2 i hi).2
end Go.Proofs.YtnklnklkblgnfaaGreat
end
section
namespace Go.Proofs.YtnklnklkblgnfaaGreat
open Go.RowKit Go.Dfl Go.Gra Go.Obs Go.Sort Go.Maps
theorem _root_.Go.Dfl.InS.mk {α : Type} [Inhabited α] {V : Vw α} {W : World} {b n : Nat} {l : List α} (hn : l.length = n) (hm : n ≤ maxLen) (hb : b < W.heap.size) (css : List (List Value))
  (h : ∀ i, i < l.length → V.ok W (nth css i) (nth l i) ∧ (nth css i).length = V.sz ∧ ∀ j, j < V.sz → W.cell? ⟨b, i * V.sz + j, none⟩ = some (nth (nth css i) j)) : InS V W (.slice (some ⟨b, 0, none⟩) n n) l := by
 subst hn
 refine ⟨fun i j => nth (nth css i) j, ⟨some ⟨b, 0, none⟩, l.length, rfl, Nat.le_refl _, hm, fun i hi => ⟨rfl, hb, fun j hj => ?_⟩⟩, fun i hi => ?_⟩
 ·show W.cell? ⟨b, 0 + i * V.sz + j, none⟩ = _
  rw [Nat.zero_add]; exact (h i hi).2.2 j hj
 ·obtain ⟨h1, h2, -⟩ := h i hi
  have e1 : (List.range V.sz).map (fun j => nth (nth css i) j) = nth css i := by
   refine List.ext_getElem (by simp [h2]) fun j hj hj2 => ?_
   rw [List.getElem_map, List.getElem_range]
   exact nth_eq (nth css i) j hj2
  rw [e1]; exact h1
def awO : Ob := ⟨2, 0, 0, -1, [⟨1, 5, 0⟩, ⟨3, 0, 3⟩]⟩
def awX : Ex := ⟨0, [awO]⟩
theorem awX_pts : allP awX = [(2, 1, 3)] := by decide
theorem awX_ints : allN awX = [(2, 0, 0, 5)] := by decide
theorem one_eq {α : Type} {lt : α → α → Prop} (h : STO lt) {L : List α} {x : α} (hp : L.Pairwise lt) (hm : ∀ y, y ∈ L ↔ y ∈ [x]) : L = [x] := h.unique hp (List.pairwise_singleton _ _) hm
theorem aw_mem (W : World) : ∃ Z, Z = (((W.alloc (.cells #[.int .i64 1, .int .i64 5, .int .i64 0, .int .i64 3, .int .i64 0, .int .i64 3] 75)).alloc (.cells #[.int .i64 2, .int .i64 0, .int .i64 0, .int .i64 (-1), .slice (some ⟨W.heap.size, 0, none⟩) 2 2] 79)).alloc (.cells #[.int .i64 0, .slice (some ⟨W.heap.size + 1, 0, none⟩) 1 1] 31)) ∧ Below W.heap.size W Z ∧
  ExIn Z (.slice (some ⟨W.heap.size + 1, 0, none⟩) 1 1) awX ∧ Z.cell? ⟨W.heap.size + 1 + 1, 0, none⟩ = some (.int .i64 0) ∧ Z.cell? ⟨W.heap.size + 1 + 1, 1, none⟩ = some (.slice (some ⟨W.heap.size + 1, 0, none⟩) 1 1) := by
 obtain ⟨A, hA⟩ : ∃ A, A = W.alloc (.cells #[.int .i64 1, .int .i64 5, .int .i64 0, .int .i64 3, .int .i64 0, .int .i64 3] 75) := ⟨_, rfl⟩
 obtain ⟨B, hB⟩ : ∃ B, B = A.alloc (.cells #[.int .i64 2, .int .i64 0, .int .i64 0, .int .i64 (-1), .slice (some ⟨W.heap.size, 0, none⟩) 2 2] 79) := ⟨_, rfl⟩
 obtain ⟨C, hC⟩ : ∃ C, C = B.alloc (.cells #[.int .i64 0, .slice (some ⟨W.heap.size + 1, 0, none⟩) 1 1] 31) := ⟨_, rfl⟩
 have sA : A.heap.size = W.heap.size + 1 := by rw [hA, World.size_alloc]
 have sB : B.heap.size = W.heap.size + 2 := by rw [hB, World.size_alloc, sA]
 have sC : C.heap.size = W.heap.size + 3 := by rw [hC, World.size_alloc, sB]
 have bA : Below W.heap.size W A := by rw [hA]; exact (Below.refl _ _).alloc (Nat.le_refl _) _
 have gB : A.grownBy B none := by rw [hB]; exact grownBy_alloc _ _
 have gC : B.grownBy C none := by rw [hC]; exact grownBy_alloc _ _
 have bC : Below W.heap.size W C := (bA.grown gB bA.size (by simp)).grown gC (by omega) (by simp)
 have cA := cells_new (W := W) (cs := [.int .i64 1, .int .i64 5, .int .i64 0, .int .i64 3, .int .i64 0, .int .i64 3]) (t := 75) rfl
 have cB := cells_new (W := A) (cs := [.int .i64 2, .int .i64 0, .int .i64 0, .int .i64 (-1), .slice (some ⟨W.heap.size, 0, none⟩) 2 2]) (t := 79) rfl
 have cC := cells_new (W := B) (cs := [.int .i64 0, .slice (some ⟨W.heap.size + 1, 0, none⟩) 1 1]) (t := 31) rfl
 have cA' : ∀ j y, [Value.int .i64 1, .int .i64 5, .int .i64 0, .int .i64 3, .int .i64 0, .int .i64 3][j]? = some y → C.cell? ⟨W.heap.size, j, none⟩ = some y := fun j y h => gC.cell (gB.cell (by rw [hA]; exact cA j y h) (by simp)) (by simp)
 have cB' : ∀ j y, [Value.int .i64 2, .int .i64 0, .int .i64 0, .int .i64 (-1), .slice (some ⟨W.heap.size, 0, none⟩) 2 2][j]? = some y → C.cell? ⟨W.heap.size + 1, j, none⟩ = some y := fun j y h => gC.cell (by have h9 := cB j y h; rw [sA] at h9; rw [hB]; exact h9) (by simp)
 have hV : InS vVal C (.slice (some ⟨W.heap.size, 0, none⟩) 2 2) awO.vs := InS.mk rfl (by decide) (by omega) [[.int .i64 1, .int .i64 5, .int .i64 0], [.int .i64 3, .int .i64 0, .int .i64 3]] (fun i hi => by
  have hi2 : i = 0 ∨ i = 1 := by simp [awO] at hi; omega
  rcases hi2 with rfl | rfl
  ·refine ⟨⟨rfl, by decide, by decide, by decide⟩, rfl, fun j hj => ?_⟩
   have hj3 : j = 0 ∨ j = 1 ∨ j = 2 := by have : j < 3 := hj; omega
   rcases hj3 with rfl | rfl | rfl <;> exact cA' _ _ rfl
  ·refine ⟨⟨rfl, by decide, by decide, by decide⟩, rfl, fun j hj => ?_⟩
   have hj3 : j = 0 ∨ j = 1 ∨ j = 2 := by have : j < 3 := hj; omega
   rcases hj3 with rfl | rfl | rfl <;> exact cA' _ _ rfl)
 have hO : InS vOb C (.slice (some ⟨W.heap.size + 1, 0, none⟩) 1 1) awX.o := InS.mk rfl (by decide) (by omega) [[.int .i64 2, .int .i64 0, .int .i64 0, .int .i64 (-1), .slice (some ⟨W.heap.size, 0, none⟩) 2 2]] (fun i hi => by
  obtain rfl : i = 0 := by simp [awX] at hi; omega
  refine ⟨⟨_, rfl, ⟨by decide, by decide, by decide, by decide⟩, hV⟩, rfl, fun j hj => ?_⟩
  have hj5 : j = 0 ∨ j = 1 ∨ j = 2 ∨ j = 3 ∨ j = 4 := by have : j < 5 := hj; omega
  rcases hj5 with rfl | rfl | rfl | rfl | rfl <;> exact cB' _ _ rfl)
 refine ⟨C, by rw [hC, hB, hA], bC, ⟨by decide, hO⟩, ?_, ?_⟩
 ·have h9 := cC 0 _ rfl; rw [sB] at h9; rw [hC]; exact h9
 ·have h9 := cC 1 _ rfl; rw [sB] at h9; rw [hC]; exact h9
set_option maxHeartbeats 3200000 in
set_option maxRecDepth 100000 in
theorem awake_any (W : World) : Calls Tryz.prog 5 #[] W (TruePost W) := by
 obtain ⟨Z, hZ, hbz, hex, x0, x1⟩ := aw_mem W
 have HZ := Lib.hid (And.intro hZ (And.intro hbz hex))
 have HX := Lib.hid (And.intro x0 x1)
 clear hZ hbz hex x0 x1
 go_enter Tryz.func5, Tryz.ntmps5
 go_upto_region 2 with fail
 rw [← HZ.out.1]
 obtain ⟨x0, x1⟩ := HX.out
 obtain ⟨ov, hov⟩ : ∃ ov, ov = Value.slice (some ⟨W.heap.size + 1, 0, none⟩) 1 1 := ⟨_, rfl⟩
 obtain ⟨bx, hbx⟩ : ∃ bx, bx = W.heap.size + 1 + 1 := ⟨_, rfl⟩
 rw [← hbx] at x0
 rw [← hbx, ← hov] at x1
 rw [← hbx, ← hov]
 have H1 : Hid (ExIn Z ov awX ∧ Below W.heap.size W Z) := Lib.hid (by rw [hov]; exact ⟨HZ.out.2.2, HZ.out.2.1⟩)
 clear hov hbx HX HZ
 refine wp_region_plan (.take 0 (.take 2 (.alt 1 (.alt 3 (.take 4 (.take 5 .done)) .stop) .stop))) (fun w' => w'.cell? ⟨bx, 0, none⟩ = some (.int .i64 0) ∧ w'.cell? ⟨bx, 1, none⟩ = some ov) (by kernel_rfl) (by kernel_rfl) (by kernel_rfl) (by kernel_rfl) ⟨x0, x1⟩ ?_
 have hdr : Below Z.heap.size Z Z.drew := (Below.refl _ _).drew
 have hy : Z.drew.cell? ⟨bx, 0, none⟩ = some (.int .i64 0) ∧ Z.drew.cell? ⟨bx, 1, none⟩ = some ov := ⟨x0, x1⟩
 have H2 := Lib.hid (And.intro (H1.out.1.below hdr) (bel_trans H1.out.2 hdr))
 clear hdr x0 x1 H1
 generalize Z.drew = V at *
 have HV := Lib.hid hy
 clear hy
 repeat (
  refine plan_take (v := ?_) rfl (Or.inl ⟨by rfl, ?_⟩) ?_
  rotate_left
  ·(intro W hW; obtain ⟨q1, q2⟩ := hW; go_simp; try with_reducible rfl)
  simp only [Act.put, List.setIfInBounds_toArray, List.getElem_toArray, List.getElem_cons_zero, List.getElem_cons_succ, List.set_cons_succ, List.set_cons_zero])
 refine plan_alt rfl ?_ plan_stop
 have hp := points_any awX ov V H2.out.1 (by decide)
 have HP := Lib.hid hp
 clear hp
 go_wp2_with fail
 refine HP.out.mono ?_
 rintro e W2 ⟨pa, pc, L, rfl, ho, hpw, hm, b2⟩
 rw [awX_pts] at hm
 obtain rfl := one_eq sto3 hpw hm
 have H3 := Lib.hid (And.intro (H2.out.1.below b2) (And.intro (bel_trans H2.out.2 b2) (OwnE.sliced ho)))
 have hc : W2.cell? ⟨bx, 0, none⟩ = some (.int .i64 0) ∧ W2.cell? ⟨bx, 1, none⟩ = some ov := ⟨(b2.cell (World.block_lt_of_cell? _ _ HV.out.1)).trans HV.out.1, (b2.cell (World.block_lt_of_cell? _ _ HV.out.2)).trans HV.out.2⟩
 have HC := Lib.hid hc
 clear ho hpw hm b2 hc HP
 go_wp2_with fail
 refine tail_mk HC.out ?_
 refine plan_alt rfl ?_ plan_stop
 have hp := ints_any awX ov W2 H3.out.1 (by decide)
 have HP := Lib.hid hp
 clear hp
 go_wp2_with fail
 refine HP.out.mono ?_
 rintro e W3 ⟨na, nc, L, rfl, ho, hpw, hm, b2⟩
 rw [awX_ints] at hm
 obtain rfl := one_eq sto4 hpw hm
 have H4 := Lib.hid (And.intro (bel_trans H3.out.2.1 b2) (And.intro (Sliced.below H3.out.2.2 b2) (OwnE.sliced ho)))
 have hc : W3.cell? ⟨bx, 0, none⟩ = some (.int .i64 0) ∧ W3.cell? ⟨bx, 1, none⟩ = some ov := ⟨(b2.cell (World.block_lt_of_cell? _ _ HC.out.1)).trans HC.out.1, (b2.cell (World.block_lt_of_cell? _ _ HC.out.2)).trans HC.out.2⟩
 have HC3 := Lib.hid hc
 clear ho hpw hm b2 hc HP
 go_wp2_with fail
 refine tail_mk HC3.out ?_
 repeat (
  refine plan_take (v := ?_) rfl (Or.inl ⟨by rfl, ?_⟩) ?_
  rotate_left
  ·(intro W hW; go_simp; try with_reducible rfl)
  simp only [Act.put, List.setIfInBounds_toArray, List.getElem_toArray, List.getElem_cons_zero, List.getElem_cons_succ, List.set_cons_succ, List.set_cons_zero])
 refine plan_done ?_
 obtain ⟨pa', pc', he1, -, pi, pcl, -⟩ := Sliced.outN H4.out.2.1 sPf (by decide)
 simp only [Value.slice.injEq] at he1
 obtain ⟨rfl, -, rfl⟩ := he1
 obtain ⟨na', nc', he2, -, ni, ncl, -⟩ := Sliced.outN H4.out.2.2 sNf (by decide)
 simp only [Value.slice.injEq] at he2
 obtain ⟨rfl, -, rfl⟩ := he2
 have p0 := pcl 0 (by decide) 0 (by decide)
 have p1 := pcl 0 (by decide) 1 (by decide)
 have p2 := pcl 0 (by decide) 2 (by decide)
 have n3 := ncl 0 (by decide) 3 (by decide)
 have i1 := pi .i64 0 (by decide) (by decide)
 have i2 := ni .i64 0 (by decide) (by decide)
 simp [nth, elP, elN] at p0 p1 p2 n3 i1 i2
 have HB := Lib.hid H4.out.1
 clear pcl ncl pi ni H2 H3 H4 HC HC3 HV
 go_wp2_with fail
 go_ret
 exact ⟨rfl, HB.out⟩
end Go.Proofs.YtnklnklkblgnfaaGreat
end
section
namespace Go.Proofs.YtnklnklkblgnfaaGreat
open Go.ChangeShapes Go.WideShapes Go.ChangeAt Go.RowKit Go.Dfl Go.Obs Go.Hir
open Go.Gra (gen_code gen_calls)
theorem rdE {α : Type} [Inhabited α] {E : El α} {W : World} {B : Nat} {e t : TypeId} {a : Option Addr} {c : Nat} {l : List α} {P : Program} {z : Value} {by8 : Nat} (h : OwnE E W B e (.slice a l.length c) l) (ht : SliceOf P t e z E.sz by8) :
  (∀ x : Int, 0 ≤ x → x < l.length → ∀ Z, (Instr.indexAt t (.slice a l.length c) (.int .i64 x)).run P Z = .ok (.pointer (some ⟨blk a, ofs a + x.toNat * E.sz, none⟩)) Z) ∧ ∀ Z, Below W.heap.size W Z → ∀ k, k < l.length → ∀ j v, (E.c (nth l k))[j]? = some v → Z.cell? ⟨blk a, ofs a + k * E.sz + j, none⟩ = some v :=
 ⟨(OwnE.reads (s := ⟨a, l.length, c⟩) h ht).1, fun Z hZ => (OwnE.reads (s := ⟨a, l.length, c⟩) (h.grown (grownBy_below hZ) (by cases (Value.slice a l.length c).ownBlock <;> simp)) ht).2⟩
theorem lenE {α : Type} [Inhabited α] {E : El α} {W : World} {B : Nat} {e t : TypeId} {v : Value} {l : List α} {P : Program} {z : Value} {by8 : Nat} (h : OwnE E W B e v l) (ht : SliceOf P t e z E.sz by8) : l.length ≤ 9223372036854775807 := by
 obtain ⟨_, _, -, hl, -⟩ := (OwnE.sliced h).outN ht E.pos
 exact hl
theorem var_at {W : World} {u : Un} {a1 : Option Addr} {F k1 : Nat} (h : InS vFu W (.slice a1 F k1) u.fs) {f v : Nat} (hf : f < u.fs.length) (hv : v < (nth u.fs f).vs.length) :
  F = u.fs.length ∧ (∀ Z, (Instr.indexAt 25 (.slice a1 F k1) (.int .i64 (f : Int))).run Tryz.prog Z = .ok (.pointer (some ⟨blk a1, ofs a1 + f * 7, none⟩)) Z) ∧
  ∃ va vc, (∀ Z, (Instr.indexAt 42 (.slice va (nth u.fs f).vs.length vc) (.int .i64 (v : Int))).run Tryz.prog Z = .ok (.pointer (some ⟨blk va, ofs va + v * 2, none⟩)) Z) ∧
  ∀ Z, Below W.heap.size W Z → Z.cell? ⟨blk a1, ofs a1 + f * 7 + 4, none⟩ = some (.slice va (nth u.fs f).vs.length vc) ∧ Z.cell? ⟨blk va, ofs va + v * 2 + 1, none⟩ = some (.string (nth (nth u.fs f).vs v).t) := by
 obtain ⟨fa, fc, he, -, hi, hc⟩ := InS.fu h
 injection he with e1 e2 e3
 subst e1 e2 e3
 obtain ⟨-, v4, v6, ⟨-, -, -, -, h4, -⟩, hz⟩ := hc f hf
 obtain ⟨va, vc, rfl, -, hvi, hvc⟩ := InS.vd h4
 obtain ⟨-, -, hzz⟩ := hvc v hv
 refine ⟨rfl, fun Z => ?_, va, vc, fun Z => ?_, fun Z hZ => ⟨(hz Z hZ).2.2.2.2.1, (hzz Z hZ).2⟩⟩
 ·have := hi (f : Int) (by omega) (by omega) Z
  rw [Int.toNat_natCast] at this; exact this
 ·have := hvi (v : Int) (by omega) (by omega) Z
  rw [Int.toNat_natCast] at this; exact this
set_option maxHeartbeats 12800000 in
set_option maxRecDepth 100000 in
theorem ObserveRuns_walk (c : Array Value) (u : Un) (iv : Value) (inp : List Int) (W : World) (h : vUnit.ok W c.toList u) (hi : (vL vI).ok W [iv] inp) (hU : vUnit.wt u + (vL vI).wt inp ≤ 1048576) :
  Calls Tryz.prog 3 #[.agg c, iv] W (TruePost W) := by
 obtain ⟨v0, v1, he, hb, hc, hf⟩ := h
 obtain rfl : c = #[v0, v1, .int .i64 u.mn] := by cases c; simp_all
 have hun : UnIn W v0 v1 u := ⟨hc, hf⟩
 have hs := unit_small (u := u) (by omega)
 obtain ⟨iv', hie, hii⟩ := hi
 obtain rfl : iv = iv' := by simpa using hie
 obtain ⟨a0, k0, e0⟩ := hc.shape
 obtain ⟨a1, k1, e1⟩ := hf.shape
 obtain ⟨F, hF⟩ : ∃ F, F = u.fs.length := ⟨_, rfl⟩
 obtain ⟨M, hM⟩ : ∃ M, M = u.cs.length := ⟨_, rfl⟩
 rw [← hF] at e1
 rw [← hM] at e0
 subst e1
 have HF := Lib.hid (And.intro hF hM)
 have HU := Lib.hid (And.intro hun (And.intro hs hii))
 have HE0 := Lib.hid e0
 have HE : Hid (Env W [fkC W.heap.size [v0, .slice a1 F k1, .int .i64 u.mn]] (W.alloc (.cells #[v0, .slice a1 F k1, .int .i64 u.mn] 27))) := Lib.hid ((Env.refl W).alloc [v0, .slice a1 F k1, .int .i64 u.mn] 27)
 rw [e0] at HE ⊢
 clear he hb hc hf hun hU hie hii hs hF hM e0
 go_enter Tryz.func3, Tryz.ntmps3
 go_upto_region 1 with fail
 rw [← HE0.out] at HE ⊢
 refine gen_code (fun Z => Env W [fkC W.heap.size [v0, .slice a1 F k1, .int .i64 u.mn]] Z) HE.out ?_
 intro Z hZ
 obtain ⟨bu, hbu⟩ : ∃ b, b = W.heap.size := ⟨_, rfl⟩
 rw [← hbu] at hZ ⊢
 have HZ := Lib.hid hZ
 obtain ⟨u0, u1, u2⟩ : Z.cell? ⟨bu, 0, none⟩ = some v0 ∧ Z.cell? ⟨bu, 1, none⟩ = some (.slice a1 F k1) ∧ Z.cell? ⟨bu, 2, none⟩ = some (.int .i64 u.mn) := ⟨hZ.cell 0 rfl 0 rfl, hZ.cell 0 rfl 1 rfl, hZ.cell 0 rfl 2 rfl⟩
 have hrun := rRun_any u v0 (.slice a1 F k1) iv inp 150 Z (HU.out.1.below hZ.bel) (HU.out.2.2.below hZ.bel) HU.out.2.1.w HU.out.2.1.f HU.out.2.1.c (unit_ints HU.out.1) (ints_r64 HU.out.2.2) HU.out.2.1.s
 have HRN := Lib.hid hrun
 clear hZ hbu HE hrun
 go_wp2_with fail
 refine HRN.out.mono ?_
 rintro E Z2 ⟨e, cd, s, rfl, hb2, hok⟩
 have HOK := Lib.hid hok
 have H2 := Lib.hid (HZ.out.below hb2)
 clear HRN u0 u1 u2 hb2 hok HZ
 by_cases hcd : cd = 0
 case neg =>
  have t1 : (cd != 0) = true := by simpa using hcd
  have HA := Lib.hid (H2.out.alloc [.int .i64 e, .slice s.a s.n s.c] 31)
  clear hcd
  go_upto_region 2 with fail
  refine gen_code (fun Z => Below W.heap.size W Z) HA.out.bel ?_
  intro Z3 hZ3
  have HB3 := Lib.hid hZ3
  clear hZ3
  go_wp2_with fail
  refine (awake_any _).mono ?_
  rintro e Z4 ⟨rfl, b⟩
  have HB := Lib.hid (bel_trans HB3.out b)
  clear b
  go_wp2_with fail
  go_ret
  exact ⟨rfl, HB.out⟩
 subst hcd
 obtain ⟨hok, hcl, hfl, -, -, -, hmt, hobs⟩ := HOK.out rfl
 obtain ⟨m, hm⟩ : ∃ m, m = (Hir.runN u (150 : Int).toNat (startM u inp)).1 := ⟨_, rfl⟩
 have hob : m.ob.length ≤ 150 := by
  have h9 := (run_ob (u := u) (150 : Int).toNat (startM u inp)).1
  rw [← hm] at h9
  have h8 : (startM u inp).ob.length = 0 := rfl
  have h7 : (150 : Int).toNat = 150 := rfl
  omega
 rw [← hm] at hmt hobs
 have hval : valN ⟨e, m.ob⟩ ≤ 1048576 := by
  have h9 := vs_sum9 m.ob 256 fun o ho => ob_vs hok hmt ho
  show (m.ob.map fun o => o.vs.length).sum ≤ 1048576
  omega
 have HRR := Lib.hid (And.intro hok (And.intro hmt (And.intro hobs (And.intro hob (And.intro hval (And.intro hcl hfl))))))
 have HA := Lib.hid (H2.out.alloc [.int .i64 e, .slice s.a s.n s.c] 31)
 clear hok hcl hfl hmt hobs hm hob hval HOK
 go_upto_region 2 with fail
 refine gen_code (fun Z => Env W [fkC Z2.heap.size [.int .i64 e, .slice s.a s.n s.c], fkC bu [v0, .slice a1 F k1, .int .i64 u.mn]] Z ∧ Below Z2.heap.size Z2 Z) ⟨HA.out, (Below.refl _ _).alloc (Nat.le_refl _) _⟩ ?_
 intro Z3 hZ3
 obtain ⟨bx, hbx⟩ : ∃ b, b = Z2.heap.size := ⟨_, rfl⟩
 rw [← hbx] at hZ3 ⊢
 have H3 := Lib.hid (And.intro hZ3.1 (HRR.out.2.2.1.below (by rw [hbx] at hZ3; exact hZ3.2)))
 obtain ⟨u0, u1, u2⟩ : Z3.cell? ⟨bu, 0, none⟩ = some v0 ∧ Z3.cell? ⟨bu, 1, none⟩ = some (.slice a1 F k1) ∧ Z3.cell? ⟨bu, 2, none⟩ = some (.int .i64 u.mn) := ⟨hZ3.1.cell 1 rfl 0 rfl, hZ3.1.cell 1 rfl 1 rfl, hZ3.1.cell 1 rfl 2 rfl⟩
 clear hZ3 hbx HA H2
 go_wp2_with fail
 refine (sites_any u v0 (.slice a1 F k1) _ (HU.out.1.below H3.out.1.bel) HU.out.2.1.c).mono ?_
 rintro E Z4 ⟨sa, sc, rfl, hso, hb4⟩
 obtain ⟨S, hS⟩ : ∃ S, S = (sites u).length := ⟨_, rfl⟩
 have hsr := rdE hso sSf
 rw [← hS] at hsr ⊢
 have H4 := Lib.hid (And.intro (H3.out.1.below hb4) (And.intro (H3.out.2.below hb4) (And.intro hsr hS)))
 obtain ⟨x0, x1⟩ : Z4.cell? ⟨bx, 0, none⟩ = some (.int .i64 e) ∧ Z4.cell? ⟨bx, 1, none⟩ = some (.slice s.a s.n s.c) := ⟨H4.out.1.cell 0 rfl 0 rfl, H4.out.1.cell 0 rfl 1 rfl⟩
 clear hso hb4 hsr hS u0 u1 u2 H3
 go_wp2_with fail
 refine (points_any ⟨e, m.ob⟩ (.slice s.a s.n s.c) _ ⟨trivial, H4.out.2.1⟩ HRR.out.2.2.2.2.1).mono ?_
 rintro E Z5 ⟨pa, pc, L, rfl, hpo, -, hpm, hb5⟩
 obtain ⟨N, hN⟩ : ∃ N, N = L.length := ⟨_, rfl⟩
 have hpr := rdE hpo sPf
 have hNb := lenE hpo sPf
 have hpk : ∀ k, k < L.length → PtOk u (nth L k) := fun k hk => pts_all HRR.out.2.1 ((hpm _).1 (nth_mem _ _ hk))
 rw [← hN] at hpr hpk hNb ⊢
 have H5 := Lib.hid (And.intro (H4.out.1.below hb5) (And.intro hpr hpk))
 have HSI := Lib.hid (show (∀ x : Int, 0 ≤ x → x < S → ∀ Z, (Instr.indexAt 36 (.slice sa S sc) (.int .i64 x)).run Tryz.prog Z = .ok (.pointer (some ⟨blk sa, ofs sa + x.toNat * 3, none⟩)) Z) ∧ ∀ Z, Below Z5.heap.size Z5 Z → ∀ k, k < S → Z.cell? ⟨blk sa, ofs sa + k * 3 + 2, none⟩ = some (.string (nth (sites u) k).2.2) from ⟨H4.out.2.2.1.1, fun Z hZ k hk => H4.out.2.2.1.2 Z (bel_trans hb5 hZ) k hk 2 _ rfl⟩)
 have HIS := Lib.hid (And.intro (H4.out.2.1.below hb5) H4.out.2.2.2)
 clear hpo hb5 hpr hpk hpm hN x0 x1 H4
 go_wp2_with fail
 go_loopw [9] (fun y wr => ∃ i : Nat, i ≤ N ∧ y = .int .i64 (i : Int) ∧ Hid (Env W [fkC bx [.int .i64 e, .slice s.a s.n s.c], fkC bu [v0, .slice a1 F k1, .int .i64 u.mn]] wr ∧ Below Z5.heap.size Z5 wr)) (fun y _ => N - (intOf y).toNat)
 case atStart => exact ⟨0, by omega, rfl, H5.out.1, Below.refl _ _⟩
 case round =>
  obtain ⟨i, hi, rfl, hh⟩ := hrel
  have HL := Lib.hid hh.out
  clear hh
  by_cases hil : i < N
  ·have hili : (i : Int) < (N : Int) := by omega
   have hlt : decide ((i : Int) < (N : Int)) = true := decide_eq_true hili
   have hpk := H5.out.2.2 i hil
   have p0 := H5.out.2.1.2 wr HL.out.2 i hil 0 _ rfl
   have p1 := H5.out.2.1.2 wr HL.out.2 i hil 1 _ rfl
   have p2 := H5.out.2.1.2 wr HL.out.2 i hil 2 _ rfl
   have j1 := H5.out.2.1.1 (i : Int) (by omega) (by omega)
   rw [Int.toNat_natCast] at j1
   simp only [show elP.sz = 3 from rfl, Nat.add_zero] at p0 p1 p2 j1
   obtain ⟨y, hy⟩ : ∃ y, y = nth L i := ⟨_, rfl⟩
   rw [← hy] at hpk p0 p1 p2
   obtain ⟨f, hf⟩ : ∃ n : Nat, y.1 = (n : Int) := ⟨y.1.toNat, by have := hpk.f; omega⟩
   obtain ⟨v, hv⟩ : ∃ n : Nat, y.2.1 = (n : Int) := ⟨y.2.1.toNat, by have := hpk.v; omega⟩
   obtain ⟨t, ht⟩ : ∃ n : Nat, y.2.2 = (n : Int) := ⟨y.2.2.toNat, by have := hpk.s; omega⟩
   rw [hf] at p0
   rw [hv] at p1
   rw [ht] at p2
   have hf2 : y.1.toNat = f := by omega
   have hv2 : y.2.1.toNat = v := by omega
   have ht2 : y.2.2.toNat = t := by omega
   obtain ⟨⟨-, ks⟩, ⟨-, kf⟩, ⟨-, kv⟩, ksub⟩ := hpk
   rw [hf2] at kv
   rw [hf2, hv2, ht2] at ksub
   have hlf : f < u.fs.length := by omega
   have hlv : v < (nth u.fs f).vs.length := by omega
   have hlt9 : t < S := by have := HIS.out.2; omega
   obtain ⟨-, jf, va, vc, jv, hvr⟩ := var_at HU.out.1.2 hlf hlv
   obtain ⟨nv, hnv⟩ : ∃ n, n = (nth u.fs f).vs.length := ⟨_, rfl⟩
   obtain ⟨ty, hty⟩ : ∃ n, n = (nth (nth u.fs f).vs v).t := ⟨_, rfl⟩
   obtain ⟨cn, hcn⟩ : ∃ n, n = (nth (sites u) t).2.2 := ⟨_, rfl⟩
   rw [← hnv] at hlv jv hvr
   rw [← hty] at hvr ksub
   rw [← hcn] at ksub
   have HK1 := Lib.hid (And.intro hvr (And.intro ksub hcn))
   have hlF : f < F := by have := HF.out.1; omega
   have HA := Lib.hid (And.intro (HL.out.1.alloc [.int .i64 (f : Int), .int .i64 (v : Int), .int .i64 (t : Int)] 41) (HL.out.2.alloc HL.out.2.size (.cells #[.int .i64 (f : Int), .int .i64 (v : Int), .int .i64 (t : Int)] 41)))
   clear hy hf hv ht hf2 hv2 ht2 ks kf kv ksub hlf hvr hnv hty hcn
   go_upto_region 10 with fail
   refine gen_code (fun Z => Env W [fkC wr.heap.size [.int .i64 (f : Int), .int .i64 (v : Int), .int .i64 (t : Int)], fkC bx [.int .i64 e, .slice s.a s.n s.c], fkC bu [v0, .slice a1 F k1, .int .i64 u.mn]] Z ∧ Below Z5.heap.size Z5 Z) HA.out ?_
   intro Z6 hz
   obtain ⟨bf, hbf⟩ : ∃ b, b = wr.heap.size := ⟨_, rfl⟩
   rw [← hbf] at hz ⊢
   have HZ6 := Lib.hid hz
   clear hbf hz HA HL p0 p1 p2 j1 hlt hili
   have jt := HSI.out.1 (t : Int) (by omega) (by omega)
   rw [Int.toNat_natCast] at jt
   have t1 : decide ((t : Int) < 0) = false := decide_eq_false (by omega)
   have t2 : decide ((S : Int) ≤ (t : Int)) = false := decide_eq_false (by omega)
   have t3 : decide (S ≤ t) = false := decide_eq_false (by omega)
   have t4 : decide ((F : Int) ≤ (f : Int)) = false := decide_eq_false (by omega)
   have t5 : decide (F ≤ f) = false := decide_eq_false (by omega)
   have t6 : decide ((nv : Int) ≤ (v : Int)) = false := decide_eq_false (by omega)
   have t7 : decide (nv ≤ v) = false := decide_eq_false (by omega)
   obtain ⟨Cls, hCls⟩ : ∃ Cls : World → Prop, ∀ Z', Cls Z' ↔ Below Z6.heap.size Z6 Z' := ⟨_, fun _ => Iff.rfl⟩
   have hCl : Cls Z6.drew := (hCls _).2 ((Below.refl _ _).drew)
   have k0 := fun q : Wd Cls => (hCls _).1 q.ok
   have hB : ∀ q : Wd Cls, ∀ Z', Below q.val.heap.size q.val Z' → Cls Z' := fun q Z' hb => (hCls _).2 ((k0 q).trans (hb.mono (k0 q).size))
   haveI hne : Nonempty (Wd Cls) := ⟨⟨_, hCl⟩⟩
   have c0 : ∀ q : Wd Cls, q.val.cell? ⟨bf, 0, none⟩ = some (.int .i64 (f : Int)) := fun q => (HZ6.out.1.below (k0 q)).cell 0 rfl 0 rfl
   have c1 : ∀ q : Wd Cls, q.val.cell? ⟨bf, 1, none⟩ = some (.int .i64 (v : Int)) := fun q => (HZ6.out.1.below (k0 q)).cell 0 rfl 1 rfl
   have c2 : ∀ q : Wd Cls, q.val.cell? ⟨bf, 2, none⟩ = some (.int .i64 (t : Int)) := fun q => (HZ6.out.1.below (k0 q)).cell 0 rfl 2 rfl
   have c3 : ∀ q : Wd Cls, q.val.cell? ⟨bu, 0, none⟩ = some v0 := fun q => (HZ6.out.1.below (k0 q)).cell 2 rfl 0 rfl
   have c4 : ∀ q : Wd Cls, q.val.cell? ⟨bu, 1, none⟩ = some (.slice a1 F k1) := fun q => (HZ6.out.1.below (k0 q)).cell 2 rfl 1 rfl
   have c5 : ∀ q : Wd Cls, q.val.cell? ⟨blk sa, ofs sa + t * 3 + 2, none⟩ = some (.string cn) := fun q => by
    rw [HK1.out.2.2]; exact HSI.out.2 q.val (bel_trans HZ6.out.2 (k0 q)) t hlt9
   have c6 : ∀ q : Wd Cls, q.val.cell? ⟨blk a1, ofs a1 + f * 7 + 4, none⟩ = some (.slice va nv vc) := fun q => (HK1.out.1 q.val (HZ6.out.1.below (k0 q)).bel).1
   have c7 : ∀ q : Wd Cls, q.val.cell? ⟨blk va, ofs va + v * 2 + 1, none⟩ = some (.string ty) := fun q => (HK1.out.1 q.val (HZ6.out.1.below (k0 q)).bel).2
   have f1 : ∀ q : Wd Cls, Calls Tryz.prog 8 #[.agg #[v0], .string cn, .string ty] q.val fun e w'' => e = .returned (.bool true) ∧ ∃ r : Wd Cls, w'' = r.val := fun q => cls_bel (hB q) (by
    have h9 := rIsSub_any u.cs v0 cn ty q.val (HU.out.1.1.below (HZ6.out.1.below (k0 q)).bel) (by have := HRR.out.2.2.2.2.2.1; omega)
    rw [decide_eq_true HK1.out.2.1] at h9
    exact h9)
   have F1 := Lib.hid f1
   have HK := Lib.hid k0
   have HCC := Lib.hid hCl
   clear hCls hCl k0 hB f1
   go_upto_region 10 with fail
   refine wp_region_class Cls (by kernel_rfl) (by kernel_rfl) HCC.out ?_
   repeat (go_big_quiet_step ((go_at_call 8; exact F1.out _)))
   refine wpQuiet_nil ?_
   rintro _ ⟨q9, rfl⟩
   have HB9 := Lib.hid (HK.out q9)
   obtain ⟨V, hV⟩ : ∃ V, V = q9.val := ⟨_, rfl⟩
   rw [← hV] at HB9 ⊢
   clear c0 c1 c2 c3 c4 c5 c6 c7 hV hne
   go_wp2_with fail
   go_roundw
   case rel => exact ⟨i + 1, by omega, by go_num, (HZ6.out.1.below HB9.out).drop 1, bel_trans HZ6.out.2 HB9.out⟩
   case measure => simp [intOf]; omega
  ·obtain rfl : i = N := by omega
   have hEL := HL.out.1
   obtain ⟨u0, u1, u2⟩ : wr.cell? ⟨bu, 0, none⟩ = some v0 ∧ wr.cell? ⟨bu, 1, none⟩ = some (.slice a1 F k1) ∧ wr.cell? ⟨bu, 2, none⟩ = some (.int .i64 u.mn) := ⟨hEL.cell 1 rfl 0 rfl, hEL.cell 1 rfl 1 rfl, hEL.cell 1 rfl 2 rfl⟩
   obtain ⟨x0, x1⟩ : wr.cell? ⟨bx, 0, none⟩ = some (.int .i64 e) ∧ wr.cell? ⟨bx, 1, none⟩ = some (.slice s.a s.n s.c) := ⟨hEL.cell 0 rfl 0 rfl, hEL.cell 0 rfl 1 rfl⟩
   have HCC := Lib.hid (cells_any u v0 (.slice a1 F k1) ⟨e, m.ob⟩ (.slice s.a s.n s.c) wr (HU.out.1.below hEL.bel) ⟨trivial, HIS.out.1.below HL.out.2⟩ (fun o ho => obs_in HRR.out.2.1 ho) (fun o ho h8 => by
    obtain ⟨j, hj, rfl⟩ := mem_nth ho
    exact store_in HRR.out.1 (HRR.out.2.1.ob j hj) h8) (fun o ho => by
    have h9 := obs_in HRR.out.2.1 ho
    exact unit_strs HU.out.1 _ (nth_mem _ _ (by have := h9.f; omega)) _ (nth_mem _ _ (by have := h9.i; omega))) (by have := HRR.out.2.2.2.1; show m.ob.length ≤ 1048576; omega))
   clear hEL hil hi H5
   go_wp2_with fail
   refine HCC.out.mono ?_
   rintro E W6 ⟨ca, cc, L2, rfl, hco, -, hcm, hb6⟩
   obtain ⟨N2, hN2⟩ : ∃ n, n = L2.length := ⟨_, rfl⟩
   have hcr := rdE hco sCf
   have hNb2 := lenE hco sCf
   have hck : ∀ k, k < L2.length → CeOk u (nth L2 k) := fun k hk => ces_all HRR.out.1 HRR.out.2.1 ((hcm _).1 (nth_mem _ _ hk))
   rw [← hN2] at hcr hck hNb2 ⊢
   have H6 := Lib.hid (And.intro (HL.out.1.below hb6) (And.intro hcr (And.intro hck (bel_trans HL.out.2 hb6))))
   clear hco hb6 hcr hck hcm hN2 x0 x1 u0 u1 u2 HL HCC
   go_wp2_with fail
   go_loopw [12] (fun y wr => ∃ i : Nat, i ≤ N2 ∧ y = .int .i64 (i : Int) ∧ Hid (Env W [fkC bx [.int .i64 e, .slice s.a s.n s.c], fkC bu [v0, .slice a1 F k1, .int .i64 u.mn]] wr ∧ Below W6.heap.size W6 wr)) (fun y _ => N2 - (intOf y).toNat)
   case atStart => exact ⟨0, by omega, rfl, H6.out.1, Below.refl _ _⟩
   case round =>
    obtain ⟨i, hi, rfl, hh⟩ := hrel
    have HL := Lib.hid hh.out
    clear hh
    by_cases hil : i < N2
    ·have hili : (i : Int) < (N2 : Int) := by omega
     have hlt : decide ((i : Int) < (N2 : Int)) = true := decide_eq_true hili
     have hck := H6.out.2.2.1 i hil
     obtain ⟨cr1, cr2⟩ := H6.out.2.1
     have j1 := cr1 (i : Int) (by omega) (by omega)
     rw [Int.toNat_natCast] at j1
     obtain ⟨y, hy⟩ : ∃ y, y = nth L2 i := ⟨_, rfl⟩
     have hrd : ∀ Z, Below wr.heap.size wr Z → ∀ j v, (elCF.c y)[j]? = some v → Z.cell? ⟨blk ca, ofs ca + i * 3 + j, none⟩ = some v := fun Z hZ j v hv => cr2 Z (bel_trans HL.out.2 hZ) i hil j v (by rw [← hy]; exact hv)
     rw [← hy] at hck
     obtain ⟨a, ha⟩ : ∃ n : Nat, y.1 = (n : Int) := ⟨y.1.toNat, by have := hck.a; omega⟩
     obtain ⟨b, hb⟩ : ∃ n : Nat, y.2.2 = (n : Int) := ⟨y.2.2.toNat, by have := hck.b; omega⟩
     obtain ⟨nm, hnm⟩ : ∃ n, n = y.2.1 := ⟨_, rfl⟩
     have hr3 : ∀ Z, Below wr.heap.size wr Z → (Z.cell? ⟨blk ca, ofs ca + i * 3, none⟩ = some (.int .i64 (a : Int)) ∧ Z.cell? ⟨blk ca, ofs ca + i * 3 + 1, none⟩ = some (.string nm) ∧ Z.cell? ⟨blk ca, ofs ca + i * 3 + 2, none⟩ = some (.int .i64 (b : Int))) := fun Z hZ => by
      rw [← ha, ← hb, hnm]
      exact ⟨hrd Z hZ 0 _ rfl, hrd Z hZ 1 _ rfl, hrd Z hZ 2 _ rfl⟩
     obtain ⟨⟨-, ka⟩, ⟨-, kb⟩, d, ty, hfd, hsub⟩ := hck
     rw [show y.1.toNat = a by omega, ← hnm] at hfd
     rw [show y.2.2.toNat = b by omega] at hsub
     have hla : a < S := by have := HIS.out.2; omega
     have hlb : b < S := by have := HIS.out.2; omega
     obtain ⟨cn, hcn⟩ : ∃ n, n = (nth (sites u) a).2.2 := ⟨_, rfl⟩
     obtain ⟨cm, hcm⟩ : ∃ n, n = (nth (sites u) b).2.2 := ⟨_, rfl⟩
     rw [← hcn] at hfd
     rw [← hcm] at hsub
     have HK1 := Lib.hid (And.intro hfd (And.intro hsub (And.intro hcn hcm)))
     have HR3 := Lib.hid hr3
     obtain ⟨y0, y1, y2⟩ := hr3 wr (Below.refl _ _)
     simp only [show elCF.sz = 3 from rfl] at j1
     have ja := HSI.out.1 (a : Int) (by omega) (by omega)
     rw [Int.toNat_natCast] at ja
     have jb := HSI.out.1 (b : Int) (by omega) (by omega)
     rw [Int.toNat_natCast] at jb
     have t1 : decide ((a : Int) < 0) = false := decide_eq_false (by omega)
     have t2 : decide ((S : Int) ≤ (a : Int)) = false := decide_eq_false (by omega)
     have t3 : decide (S ≤ a) = false := decide_eq_false (by omega)
     have t4 : decide ((b : Int) < 0) = false := decide_eq_false (by omega)
     have t5 : decide ((S : Int) ≤ (b : Int)) = false := decide_eq_false (by omega)
     have t6 : decide (S ≤ b) = false := decide_eq_false (by omega)
     clear cr1 cr2 hy hrd ha hb hnm ka kb hfd hsub hcn hcm hr3
     go_upto_region 18 with fail
     clear y0 y1 y2 t1 t2 t3 t4 t5 t6
     refine gen_code (fun Z => Below wr.heap.size wr Z) (by first | exact Below.refl _ _ | exact below_drewN (Below.refl _ _) _) ?_
     intro Z6 hz
     have HZ6 := Lib.hid (And.intro (HL.out.1.below hz) (And.intro hz (bel_trans H6.out.2.2.2 (bel_trans HL.out.2 hz))))
     clear hz
     obtain ⟨Cls, hCls⟩ : ∃ Cls : World → Prop, ∀ Z', Cls Z' ↔ Below Z6.heap.size Z6 Z' := ⟨_, fun _ => Iff.rfl⟩
     have hCl : Cls Z6.drew := (hCls _).2 ((Below.refl _ _).drew)
     have k0 := fun q : Wd Cls => (hCls _).1 q.ok
     have hB : ∀ q : Wd Cls, ∀ Z', Below q.val.heap.size q.val Z' → Cls Z' := fun q Z' hb => (hCls _).2 ((k0 q).trans (hb.mono (k0 q).size))
     haveI hne : Nonempty (Wd Cls) := ⟨⟨_, hCl⟩⟩
     have c0 : ∀ q : Wd Cls, q.val.cell? ⟨blk ca, ofs ca + i * 3, none⟩ = some (.int .i64 (a : Int)) := fun q => (HR3.out q.val (bel_trans HZ6.out.2.1 (k0 q))).1
     have c1 : ∀ q : Wd Cls, q.val.cell? ⟨blk ca, ofs ca + i * 3 + 1, none⟩ = some (.string nm) := fun q => (HR3.out q.val (bel_trans HZ6.out.2.1 (k0 q))).2.1
     have c3 : ∀ q : Wd Cls, q.val.cell? ⟨bu, 0, none⟩ = some v0 := fun q => (HZ6.out.1.below (k0 q)).cell 1 rfl 0 rfl
     have c5 : ∀ q : Wd Cls, q.val.cell? ⟨blk sa, ofs sa + a * 3 + 2, none⟩ = some (.string cn) := fun q => by
      rw [HK1.out.2.2.1]; exact HSI.out.2 q.val (bel_trans HZ6.out.2.2 (k0 q)) a hla
     have f1 : ∀ q : Wd Cls, Calls Tryz.prog 10 #[.agg #[v0], .string cn, .string nm] q.val fun e w'' => e = .returned (.tuple #[.string d, .string ty, .bool true]) ∧ ∃ r : Wd Cls, w'' = r.val := fun q => cls_bel (hB q) (by
      have h9 := rField_any u.cs v0 cn nm q.val (HU.out.1.1.below (HZ6.out.1.below (k0 q)).bel) (by have := HRR.out.2.2.2.2.2.1; omega)
      rw [HK1.out.1] at h9
      exact h9)
     have F1 := Lib.hid f1
     have HK := Lib.hid k0
     have HCC := Lib.hid hCl
     clear hCls hCl k0 hB f1
     go_upto_region 18 with fail
     refine wp_region_class Cls (by kernel_rfl) (by kernel_rfl) HCC.out ?_
     repeat (go_big_quiet_step ((go_at_call 10; exact F1.out _)))
     refine wpQuiet_nil ?_
     rintro _ ⟨q9, rfl⟩
     have HB9 := Lib.hid (HK.out q9)
     obtain ⟨V, hV⟩ : ∃ V, V = q9.val := ⟨_, rfl⟩
     rw [← hV] at HB9 ⊢
     clear c0 c1 c3 c5 hV hne
     have HZ7 := Lib.hid (And.intro (HZ6.out.1.below HB9.out) (And.intro (bel_trans HZ6.out.2.1 HB9.out) (bel_trans HZ6.out.2.2 HB9.out)))
     clear HB9 HZ6 F1 HK HCC
     obtain ⟨Cls, hCls⟩ : ∃ Cls : World → Prop, ∀ Z', Cls Z' ↔ Below V.heap.size V Z' := ⟨_, fun _ => Iff.rfl⟩
     have hCl : Cls V.drew := (hCls _).2 ((Below.refl _ _).drew)
     have k0 := fun q : Wd Cls => (hCls _).1 q.ok
     have hB : ∀ q : Wd Cls, ∀ Z', Below q.val.heap.size q.val Z' → Cls Z' := fun q Z' hb => (hCls _).2 ((k0 q).trans (hb.mono (k0 q).size))
     haveI hne : Nonempty (Wd Cls) := ⟨⟨_, hCl⟩⟩
     have c2 : ∀ q : Wd Cls, q.val.cell? ⟨blk ca, ofs ca + i * 3 + 2, none⟩ = some (.int .i64 (b : Int)) := fun q => (HR3.out q.val (bel_trans HZ7.out.2.1 (k0 q))).2.2
     have c3 : ∀ q : Wd Cls, q.val.cell? ⟨bu, 0, none⟩ = some v0 := fun q => (HZ7.out.1.below (k0 q)).cell 1 rfl 0 rfl
     have c5 : ∀ q : Wd Cls, q.val.cell? ⟨blk sa, ofs sa + b * 3 + 2, none⟩ = some (.string cm) := fun q => by
      rw [HK1.out.2.2.2]; exact HSI.out.2 q.val (bel_trans HZ7.out.2.2 (k0 q)) b hlb
     have f1 : ∀ q : Wd Cls, Calls Tryz.prog 8 #[.agg #[v0], .string cm, .string ty] q.val fun e w'' => e = .returned (.bool true) ∧ ∃ r : Wd Cls, w'' = r.val := fun q => cls_bel (hB q) (by
      have h9 := rIsSub_any u.cs v0 cm ty q.val (HU.out.1.1.below (HZ7.out.1.below (k0 q)).bel) (by have := HRR.out.2.2.2.2.2.1; omega)
      rw [decide_eq_true HK1.out.2.1] at h9
      exact h9)
     have F1 := Lib.hid f1
     have HK := Lib.hid k0
     have HCC := Lib.hid hCl
     clear hCls hCl k0 hB f1
     go_upto_region 19 with fail
     refine wp_region_class Cls (by kernel_rfl) (by kernel_rfl) HCC.out ?_
     repeat (go_big_quiet_step ((go_at_call 8; exact F1.out _)))
     refine wpQuiet_nil ?_
     rintro _ ⟨q9, rfl⟩
     have HB9 := Lib.hid (HK.out q9)
     obtain ⟨V2, hV⟩ : ∃ V, V = q9.val := ⟨_, rfl⟩
     rw [← hV] at HB9 ⊢
     clear c2 c3 c5 hV hne
     go_wp2_with fail
     go_roundw
     case rel => exact ⟨i + 1, by omega, by go_num, HZ7.out.1.below HB9.out, bel_trans HL.out.2 (bel_trans HZ7.out.2.1 HB9.out)⟩
     case measure => simp [intOf]; omega
    ·obtain rfl : i = N2 := by omega
     have hEL := HL.out.1
     obtain ⟨u0, u1, u2⟩ : wr.cell? ⟨bu, 0, none⟩ = some v0 ∧ wr.cell? ⟨bu, 1, none⟩ = some (.slice a1 F k1) ∧ wr.cell? ⟨bu, 2, none⟩ = some (.int .i64 u.mn) := ⟨hEL.cell 1 rfl 0 rfl, hEL.cell 1 rfl 1 rfl, hEL.cell 1 rfl 2 rfl⟩
     obtain ⟨x0, x1⟩ : wr.cell? ⟨bx, 0, none⟩ = some (.int .i64 e) ∧ wr.cell? ⟨bx, 1, none⟩ = some (.slice s.a s.n s.c) := ⟨hEL.cell 0 rfl 0 rfl, hEL.cell 0 rfl 1 rfl⟩
     have HCC := Lib.hid (calls_any u v0 (.slice a1 F k1) ⟨e, m.ob⟩ (.slice s.a s.n s.c) wr (HU.out.1.below hEL.bel) ⟨trivial, HIS.out.1.below (bel_trans H6.out.2.2.2 HL.out.2)⟩ (fun o ho => obs_in HRR.out.2.1 ho) (by have := HRR.out.2.2.2.1; show m.ob.length ≤ 1048576; omega))
     clear hEL hil hi H6
     go_wp2_with fail
     refine HCC.out.mono ?_
     rintro E W7 ⟨la, lc, L3, rfl, hlo, -, hlm, hb7⟩
     obtain ⟨N3, hN3⟩ : ∃ n, n = L3.length := ⟨_, rfl⟩
     have hlr := rdE hlo sCe
     have hNb3 := lenE hlo sCe
     have hlk : ∀ k, k < L3.length → EdOk u (nth L3 k) := fun k hk => eds_all HRR.out.2.1 ((hlm _).1 (nth_mem _ _ hk))
     rw [← hN3] at hlr hlk hNb3 ⊢
     have H7 := Lib.hid (And.intro (HL.out.1.below hb7) (And.intro hlr hlk))
     clear hlo hb7 hlr hlk hlm hN3 x0 x1 u0 u1 u2 HL HCC
     go_wp2_with fail
     go_loopw [17] (fun y wr => ∃ i : Nat, i ≤ N3 ∧ y = .int .i64 (i : Int) ∧ Hid (Env W [fkC bx [.int .i64 e, .slice s.a s.n s.c], fkC bu [v0, .slice a1 F k1, .int .i64 u.mn]] wr ∧ Below W7.heap.size W7 wr)) (fun y _ => N3 - (intOf y).toNat)
     case atStart => exact ⟨0, by omega, rfl, H7.out.1, Below.refl _ _⟩
     case round =>
      obtain ⟨i, hi, rfl, hh⟩ := hrel
      have HL := Lib.hid hh.out
      clear hh
      by_cases hil : i < N3
      ·have hili : (i : Int) < (N3 : Int) := by omega
       have hlt : decide ((i : Int) < (N3 : Int)) = true := decide_eq_true hili
       have hlk := H7.out.2.2 i hil
       obtain ⟨cr1, cr2⟩ := H7.out.2.1
       have j1 := cr1 (i : Int) (by omega) (by omega)
       rw [Int.toNat_natCast] at j1
       obtain ⟨y, hy⟩ : ∃ y, y = nth L3 i := ⟨_, rfl⟩
       have hrd : ∀ Z, Below wr.heap.size wr Z → ∀ j v, (elP.c y)[j]? = some v → Z.cell? ⟨blk la, ofs la + i * 3 + j, none⟩ = some v := fun Z hZ j v hv => cr2 Z (bel_trans HL.out.2 hZ) i hil j v (by rw [← hy]; exact hv)
       rw [← hy] at hlk
       obtain ⟨f, hf⟩ : ∃ n : Nat, y.1 = (n : Int) := ⟨y.1.toNat, by have := hlk.f; omega⟩
       obtain ⟨k, hk⟩ : ∃ n : Nat, y.2.1 = (n : Int) := ⟨y.2.1.toNat, by have := hlk.i; omega⟩
       obtain ⟨g, hg⟩ : ∃ n : Nat, y.2.2 = (n : Int) := ⟨y.2.2.toNat, by have := hlk.g; omega⟩
       have hr3 : ∀ Z, Below wr.heap.size wr Z → (Z.cell? ⟨blk la, ofs la + i * 3, none⟩ = some (.int .i64 (f : Int)) ∧ Z.cell? ⟨blk la, ofs la + i * 3 + 1, none⟩ = some (.int .i64 (k : Int)) ∧ Z.cell? ⟨blk la, ofs la + i * 3 + 2, none⟩ = some (.int .i64 (g : Int))) := fun Z hZ => by
        rw [← hf, ← hk, ← hg]
        exact ⟨hrd Z hZ 0 _ rfl, hrd Z hZ 1 _ rfl, hrd Z hZ 2 _ rfl⟩
       obtain ⟨⟨-, kf⟩, ⟨-, kk⟩, ⟨-, kg⟩, hmay⟩ := hlk
       have hf2 : y.1.toNat = f := by omega
       rw [hf2] at kk
       rw [hf2, show y.2.1.toNat = k by omega, show y.2.2.toNat = g by omega] at hmay
       have HK1 := Lib.hid (And.intro (show f < u.fs.length by omega) (And.intro (show k < (nth u.fs f).cd.length by omega) hmay))
       have HR3 := Lib.hid hr3
       simp only [show elP.sz = 3 from rfl] at j1
       clear cr1 cr2 hy hrd hf hk hg kf kk kg hmay hr3 hf2
       obtain ⟨Cls, hCls⟩ : ∃ Cls : World → Prop, ∀ Z', Cls Z' ↔ Below wr.heap.size wr Z' := ⟨_, fun _ => Iff.rfl⟩
       have hCl : Cls wr.drew := (hCls _).2 ((Below.refl _ _).drew)
       have k0 := fun q : Wd Cls => (hCls _).1 q.ok
       have hB : ∀ q : Wd Cls, ∀ Z', Below q.val.heap.size q.val Z' → Cls Z' := fun q Z' hb => (hCls _).2 ((k0 q).trans (hb.mono (k0 q).size))
       haveI hne : Nonempty (Wd Cls) := ⟨⟨_, hCl⟩⟩
       have c0 : ∀ q : Wd Cls, q.val.cell? ⟨blk la, ofs la + i * 3, none⟩ = some (.int .i64 (f : Int)) := fun q => (HR3.out q.val (k0 q)).1
       have c1 : ∀ q : Wd Cls, q.val.cell? ⟨blk la, ofs la + i * 3 + 1, none⟩ = some (.int .i64 (k : Int)) := fun q => (HR3.out q.val (k0 q)).2.1
       have c2 : ∀ q : Wd Cls, q.val.cell? ⟨blk la, ofs la + i * 3 + 2, none⟩ = some (.int .i64 (g : Int)) := fun q => (HR3.out q.val (k0 q)).2.2
       have c3 : ∀ q : Wd Cls, q.val.cell? ⟨bu, 0, none⟩ = some v0 := fun q => (HL.out.1.below (k0 q)).cell 1 rfl 0 rfl
       have c4 : ∀ q : Wd Cls, q.val.cell? ⟨bu, 1, none⟩ = some (.slice a1 F k1) := fun q => (HL.out.1.below (k0 q)).cell 1 rfl 1 rfl
       have c5 : ∀ q : Wd Cls, q.val.cell? ⟨bu, 2, none⟩ = some (.int .i64 u.mn) := fun q => (HL.out.1.below (k0 q)).cell 1 rfl 2 rfl
       have f1 : ∀ q : Wd Cls, Calls Tryz.prog 12 #[.agg #[v0, .slice a1 F k1, .int .i64 u.mn], .agg #[.int .i64 (f : Int), .int .i64 (k : Int), .int .i64 (g : Int)]] q.val fun e w'' => e = .returned (.bool true) ∧ ∃ r : Wd Cls, w'' = r.val := fun q => cls_bel (hB q) (may_any u v0 (.slice a1 F k1) f k g q.val (HU.out.1.below (HL.out.1.below (k0 q)).bel) HRR.out.2.2.2.2.2.1 HK1.out.1 HK1.out.2.1 HK1.out.2.2)
       have F1 := Lib.hid f1
       have HK := Lib.hid k0
       have HCC := Lib.hid hCl
       clear hCls hCl k0 hB f1
       go_upto_region 25 with fail
       refine wp_region_class Cls (by kernel_rfl) (by kernel_rfl) HCC.out ?_
       repeat (go_big_quiet_step ((go_at_call 12; exact F1.out _)))
       refine wpQuiet_nil ?_
       rintro _ ⟨q9, rfl⟩
       have HB9 := Lib.hid (HK.out q9)
       obtain ⟨V, hV⟩ : ∃ V, V = q9.val := ⟨_, rfl⟩
       rw [← hV] at HB9 ⊢
       clear c0 c1 c2 c3 c4 c5 hV hne
       go_wp2_with fail
       go_roundw
       case rel => exact ⟨i + 1, by omega, by go_num, HL.out.1.below HB9.out, bel_trans HL.out.2 HB9.out⟩
       case measure => simp [intOf]; omega
      ·obtain rfl : i = N3 := by omega
       have HB := Lib.hid HL.out.1.bel
       clear hil hi
       go_wp2_with fail
       refine (awake_any _).mono ?_
       rintro E Z9 ⟨rfl, b⟩
       have HB2 := Lib.hid (bel_trans HB.out b)
       clear b
       go_wp2_with fail
       go_ret
       exact ⟨rfl, HB2.out⟩
theorem opens_i64s : Opens Tryz.prog 28 (vL vI) := opens_int64.slice (by decide) Tryz.underlying28 (by kernel_rfl)
set_option maxRecDepth 100000 in
theorem ObserveRuns_lifted (os : Os) (started : os.Started) (H : Type) (enc : TypeId × Value → H) (F : Stop.Interp) :
  ReturnsInHanded {} Tryz.checked os 3 .any ((Rows.OpenSpec.upto Rows.observeRunsSpec).pre6 enc Tryz.prog Tryz.f3 Rows.observeRunsUptoRow.domain false) (((Rows.OpenSpec.upto Rows.observeRunsSpec).at F).post enc Tryz.prog Tryz.f3 false true false false) := by
 refine returnsInHanded_of_cond (C := Tryz.checked) (s := Rows.OpenSpec.upto Rows.observeRunsSpec) (k := Rows.uptoSmall) rfl own started (by kernel_rfl) Tryz.func3
  (OpenSpec.witness (enc := enc) (C := Tryz.checked) (s := Rows.OpenSpec.upto Rows.observeRunsSpec) (k := Rows.uptoSmall) rfl false ⟨#[], #[.agg #[.slice none 0 0, .slice none 0 0, .int .i64 0], .slice none 0 0], []⟩ 8 (by kernel_rfl) (by kernel_rfl) (by kernel_rfl)
   (x := ([.agg [.agg [.nil], .nil, .lit (.int .i64 0)], .nil], [], [])) (by kernel_rfl) rfl (by kernel_rfl)) ?_
 intro W base args ds gs before hval0 hW _ hk _
 have hval : ∀ (j : Nat) t v, Tryz.f3.params[j]? = some t → args[j]? = some v → Value.okWide Tryz.prog W .any base t v := hval0
 have hW' := hW
 obtain ⟨p, q, hA0, hV, rfl, hfz, hnd⟩ := hW
 have hA : DataW.TrodAll enc Tryz.prog W 0 (fun _ => true) true Tryz.f3.params.toList args.toList ds p := hA0
 rw [Tryz.params3] at hA hval
 obtain ⟨v0, vs0, d0, ds0, p0, q0, hargs, rfl, rfl, h0, r0⟩ := trodAll_cons hA
 obtain ⟨v1, vs1, d1, ds1, p1, q1, rfl, rfl, rfl, h1, r1⟩ := trodAll_cons r0
 obtain ⟨rfl, rfl, rfl⟩ := trodAll_nil r1
 obtain rfl : args = #[v0, v1] := by cases args; simp_all
 obtain ⟨rfl, rfl⟩ := trodVars_none hV
 obtain ⟨c0, rfl, sz0⟩ := okWide_struct Tryz.underlying27 (hval 0 27 v0 rfl rfl)
 have k0 := h0
 obtain ⟨x0, o0, u0⟩ := Opens.agg opens_unit h0
 have lt0 : ∀ x ∈ p0, x.block < W.heap.size := by obtain ⟨m, hm⟩ := k0; exact DataW.trod_lt m _ _ _ hm
 obtain ⟨a1, len1, cap1, rfl⟩ := okWide_slice Tryz.underlying28 (hval 1 28 v1 rfl rfl)
 have k1 := h1
 obtain ⟨x1, o1, u1⟩ := Opens.sl opens_i64s h1
 have lt1 : ∀ x ∈ p1, x.block < W.heap.size := by obtain ⟨m, hm⟩ := k1; exact DataW.trod_lt m _ _ _ hm
 have hb : Rows.uptoBulkAll ([_, _] ++ []) ≤ 1048576 := of_decide_eq_true hk
 simp only [List.append_nil, Rows.uptoBulkAll] at hb
 clear hA0 hval0
 refine (ObserveRuns_walk c0 x0 _ x1 W o0 o1 (by omega)).mono fun e W' ⟨he, bel⟩ => ?_
 subst he
 exact ⟨_, rfl, _, _, _, [], _, [], hW', trodAll_mk1 (shut_bool Tryz.underlying4 _), (trodAll_cons_mk (Below.trod laidOut (by kernel_rfl) (of_decide_eq_true (by kernel_rfl)) k0 bel lt0) (trodAll_cons_mk (Below.trod laidOut (by kernel_rfl) (of_decide_eq_true (by kernel_rfl)) k1 bel lt1) trodAll_mk0)), rfl, bel.frame _, fun h => by cases h⟩
theorem ObserveRuns_holds : Rows.ObserveRunsUptoSaid :=
 OpenClaim.holds_of_cond 3 Tryz.f3 rfl rfl rfl rfl rfl rfl rfl ⟨rfl, rfl, rfl, rfl, rfl⟩ rfl rfl rfl rfl rfl (by kernel_rfl) Tryz.func3 (by kernel_rfl)
  (of_decide_eq_true (by kernel_rfl)) (by unfold Func.isWrapper; first | (rw [if_pos (by decide +kernel)]; kernel_rfl) | (rw [if_neg (by decide +kernel)]; exact ⟨rfl, rfl⟩))
  (fun os started H enc _ F => ObserveRuns_lifted os started H enc F)
end Go.Proofs.YtnklnklkblgnfaaGreat
end
