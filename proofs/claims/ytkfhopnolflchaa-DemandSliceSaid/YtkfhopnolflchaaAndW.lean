/- Contract of solve. -/
import Derived.Test.YtkfhopnolflchaaAndL
import Derived.Laws.EntriesVeiled
import Derived.Deep.LoopGhost
namespace Go.Proofs.Ytkfhopnolflchaa
open Go.RowKit Go.Dfl Go.And Go.Maps


theorem laidOutP : laidOutB Try.prog = true := by kernel_rfl
theorem keyLaw : Keyed Try.prog 83 := Keyed.of_law (deep_law_laid laidOutP (m := 2) (by omega) (of_decide_eq_true (by kernel_rfl)) (by kernel_rfl) (by rw [Try.underlying83]))
def keyV (c : C) : Value := .agg #[.int .i64 c.k, .int .i64 c.a, .int .i64 c.b, .int .i64 c.f]
theorem keyV_inj {c d : C} (h : keyV c = keyV d) : c.k = d.k ∧ c.a = d.a ∧ c.b = d.b ∧ c.f = d.f := by
  simp [keyV] at h
  exact ⟨by omega, by omega, by omega, by omega⟩
def arrF : Array Value := #[.nilFunc, .func (.func 39) #[] #[], .func (.func 40) #[] #[], .func (.func 41) #[] #[], .func (.func 42) #[] #[], .func (.func 43) #[] #[]]
theorem zeroBool (w : World) : (zeroValue 4).run Try.prog w = .ok (.bool false) w := by kernel_rfl

/-- Between two constraints, in memory. -/
structure L1 (S : Syst) (w0 : World) (sv ab mb : Nat) (j : Nat) (rl : Nat → Nat) (V : Vals) (st : St) (l : List Value) (W : World) : Prop where
  mem : Mem S w0 sv rl V st W
  ra : rl ab = 0
  rm : rl mb = 11
  arr : W.heap[ab]? = some (.cells arrF 80)
  set : SetM Try.prog 83 4 W mb j l
  keys : ∀ key ∈ l, ∃ d ∈ S.cons.take j, key = keyV d
  plain : P1 S j st
theorem L1.start {S : Syst} {w0 : World} {sv : Nat} {rl : Nat → Nat} {V : Vals} {W : World} (h : Mem S w0 sv rl V st0 W) :
    ∃ rl', L1 S w0 sv W.heap.size (W.heap.size + 1) 0 rl' V st0 [] ((W.alloc (.cells arrF 80)).alloc (.map #[] 0)) := by
  have g := grownBy_trans (grownBy_alloc W (.cells arrF 80)) (grownBy_alloc _ (.map #[] 0))
  refine ⟨fun k => if k = W.heap.size + 1 then 11 else rl k, h.beside g (by simp) (fun k hk => by rw [if_neg (by omega)]) (fun k hk => ?_) (fun k hk => ?_), ?_, by simp, ?_, SetM.made _ _ _ _ (by simp), by simp, P1.start S⟩
  · simp at hk
    rw [if_neg (by omega)]; exact h.fr k (by omega)
  · have := h.bel.size
    by_cases e : k = W.heap.size + 1
    · omega
    · rw [if_neg e] at hk; exact h.low k hk
  · rw [if_neg (by omega)]; exact h.fr _ (Nat.le_refl _)
  · rw [(grownBy_alloc (W.alloc (.cells arrF 80)) (.map #[] 0)).block _ (by simp) (by simp)]
    exact heap_alloc_new _ _

/-- What solve returns. -/
def Solved (S : Syst) (W : World) (e : Ending) (W' : World) : Prop :=
  ∃ (a : Option Addr) (c : Nat) (xs : List Value) (p : Nat → Nat → Bool), e = .returned (.slice a S.N c) ∧ Lst (fun x : Value => x) W' (.slice a S.N c) xs ∧ xs.length = S.N ∧ (∀ i, i < S.N → IsS (fun _ => 0) W' (nth xs i) (p i)) ∧ (∀ i x, p i x = true ↔ Pts S i x) ∧ Below W.heap.size W W'

set_option maxHeartbeats 12800000 in
set_option maxRecDepth 100000 in
theorem solve_any (s : Sy) (cv : Value) (W : World) (hc : ConsIn W cv s.cons) (hg : Vld s) (hs : Sm s) : Calls Try.prog 29 #[SysV s cv] W (Solved s.S W) := by
  have hOk := hg.ok
  have hB : Bnd s.S := ⟨by have := hs.vars; show s.vars.toNat ≤ 40; omega, by have := hs.sites; show s.sites.toNat ≤ 12; omega, by have := hs.fields; show s.fields.toNat ≤ 5; omega, by show (s.cons.map R.C).length ≤ 101; rw [List.length_map]; exact hs.cons⟩
  have e1 : s.vars = (s.S.vars : Int) := (Int.toNat_of_nonneg hg.vars).symm
  have e2 : s.sites = (s.S.sites : Int) := (Int.toNat_of_nonneg hg.sites).symm
  have e3 : s.fields = (s.S.fields : Int) := (Int.toNat_of_nonneg hg.fields).symm
  unfold SysV
  rw [e1, e2, e3]
  obtain ⟨ca, cc, rfl, hlen, hci, hcc⟩ := hc.out
  have hlS : s.S.cons.length = s.cons.length := List.length_map ..
  obtain ⟨S, hS⟩ : ∃ S, S = s.S := ⟨_, rfl⟩
  rw [← hS] at hOk hB hlS
  rw [← hS]
  have HG := Lib.hid (And.intro hOk (And.intro hB (And.intro hg (And.intro hS (And.intro hcc hlS)))))
  have bv := hB.vars
  have bs' := hB.sites
  have bf := hB.fields
  have bn := hB.N
  have hm0 : 0 ≤ (S.sites : Int) * (S.fields : Int) := by
    have e : (S.sites : Int) * (S.fields : Int) = ((S.sites * S.fields : Nat) : Int) := by simp
    rw [e]; omega
  have hm : (S.sites : Int) * (S.fields : Int) ≤ 60 := by
    have := Nat.mul_le_mul hB.sites hB.fields
    have e : (S.sites : Int) * (S.fields : Int) = ((S.sites * S.fields : Nat) : Int) := by simp
    rw [e]; omega
  have hNi : (S.N : Int) = (S.vars : Int) + (S.sites : Int) * (S.fields : Int) := by
    unfold Syst.N; simp
  have HN := Lib.hid hNi
  have hlc : s.cons.length ≤ 101 := hs.cons
  clear hOk hB e1 e2 e3 hcc hlS hS hg hs hNi hc
  go_enter Try.func29, Try.ntmps29
  go_wp2_with fail
  have hS2 : s.S = S := HG.out.2.2.2.1.symm
  obtain ⟨Wb, hWb⟩ : ∃ Wb, Wb = W.alloc (.cells #[.int .i64 (S.vars : Int), .int .i64 (S.sites : Int), .int .i64 (S.fields : Int), .slice ca s.cons.length cc] 24) := ⟨_, rfl⟩
  have hcb := cells_new (W := W) (cs := [.int .i64 (S.vars : Int), .int .i64 (S.sites : Int), .int .i64 (S.fields : Int), .slice ca s.cons.length cc]) (t := 24) rfl
  have hbB : Below W.heap.size W Wb := by rw [hWb]; exact (Below.refl _ _).alloc (Nat.le_refl _) _
  rw [← hWb]
  have d0 : Wb.cell? ⟨W.heap.size, 0, none⟩ = some (.int .i64 (S.vars : Int)) := by rw [hWb]; exact hcb 0 _ rfl
  have d1 : Wb.cell? ⟨W.heap.size, 1, none⟩ = some (.int .i64 (S.sites : Int)) := by rw [hWb]; exact hcb 1 _ rfl
  have d2 : Wb.cell? ⟨W.heap.size, 2, none⟩ = some (.int .i64 (S.fields : Int)) := by rw [hWb]; exact hcb 2 _ rfl
  have d3 : Wb.cell? ⟨W.heap.size, 3, none⟩ = some (.slice ca s.cons.length cc) := by rw [hWb]; exact hcb 3 _ rfl
  have HBB := Lib.hid hbB
  have hNr : (S.vars : Int) + (S.sites : Int) * (S.fields : Int) = (S.N : Int) := HN.out.symm
  rw [hNr]
  clear hcb hWb hbB hm0 hm hNr hS2
  obtain ⟨bw, hbw⟩ : ∃ bw, bw = W.heap.size := ⟨_, rfl⟩
  rw [← hbw] at d0 d1 d2 d3 ⊢
  have Hbw := Lib.hid hbw
  clear hbw
  refine wp_region_makes [0, 1, 3, 5, 7, 8, 10, 11, 13, 14, 16] (mks S.N S.vars) [18, 19, 20] (fun w' => w'.cell? ⟨bw, 0, none⟩ = some (.int .i64 (S.vars : Int)) ∧ w'.cell? ⟨bw, 1, none⟩ = some (.int .i64 (S.sites : Int)) ∧ w'.cell? ⟨bw, 2, none⟩ = some (.int .i64 (S.fields : Int)) ∧ w'.cell? ⟨bw, 3, none⟩ = some (.slice ca s.cons.length cc)) W.heap.size HBB.out.size (by kernel_rfl) (by simp [mks]) (by simp [mks]) (by kernel_rfl) (by kernel_rfl) (fun w w' hg hh => ⟨hg.cell hh.1 (by simp), hg.cell hh.2.1 (by simp), hg.cell hh.2.2.1 (by simp), hg.cell hh.2.2.2 (by simp)⟩) ⟨d0, d1, d2, d3⟩ ?_
  repeat (
    refine wpHeads_cons (v := ?_) rfl (Or.inl ⟨by rfl, ?_⟩) ?_
    rotate_left
    · (intro W hW; go_simp; try with_reducible rfl)
    simp only [Act.put, List.setIfInBounds_toArray])
  refine wpHeads_nil ?_
  simp only [List.getElem_toArray, List.getElem_cons_zero, List.getElem_cons_succ, List.setIfInBounds_toArray, List.set_cons_zero, List.set_cons_succ]
  refine ⟨?_, ?_⟩
  · intro m hm
    simp only [mks, List.mem_cons, List.not_mem_nil, or_false] at hm
    rcases hm with rfl | rfl | rfl | rfl | rfl | rfl | rfl
    · exact ⟨sBits2, ⟨_, rfl, rfl, rfl, rfl⟩, by dsimp only; omega, by unfold maxLen; dsimp only; omega, rfl⟩
    · exact ⟨sBits2, ⟨_, rfl, rfl, rfl, rfl⟩, by dsimp only; omega, by unfold maxLen; dsimp only; omega, rfl⟩
    · exact ⟨sInt2, ⟨_, rfl, rfl, rfl, rfl⟩, by dsimp only; omega, by unfold maxLen; dsimp only; omega, rfl⟩
    · exact ⟨sPart2, ⟨_, rfl, rfl, rfl, rfl⟩, by dsimp only; omega, by unfold maxLen; dsimp only; omega, rfl⟩
    · exact ⟨sCon2, ⟨_, rfl, rfl, rfl, rfl⟩, by dsimp only; omega, by unfold maxLen; dsimp only; omega, rfl⟩
    · exact ⟨sCon2, ⟨_, rfl, rfl, rfl, rfl⟩, by dsimp only; omega, by unfold maxLen; dsimp only; omega, rfl⟩
    · exact ⟨sBool, ⟨_, rfl, rfl, rfl, rfl⟩, by dsimp only; omega, by unfold maxLen; dsimp only; omega, rfl⟩
  · intro bs W2 hE hS2
    simp only [mks, List.foldl_cons, List.foldl_nil, Mk.val, List.setIfInBounds_toArray, List.set_cons_zero, List.set_cons_succ]
    have hM := Mem.init (S := S) (.slice ca s.cons.length cc) (w0 := W) (W1 := Wb.drew) (below_drewN HBB.out 1) hE
    have HM := Lib.hid hM
    clear hM hE d0 d1 d2 d3
    obtain ⟨d0, d1, d2, d3⟩ := hS2
    refine wpTailsH_cons rfl ?_
    go_wp2_with fail
    refine tail_mk ⟨d0, d1, d2, d3⟩ ?_
    refine wpTailsH_cons rfl ?_
    go_wp2_with fail
    have g1 := grownBy_alloc W2 (.cells ((vals0 (.slice ca s.cons.length cc) S.N S.vars bs).cells S) 78)
    refine tail_mk ⟨g1.cell d0 (by simp), g1.cell d1 (by simp), g1.cell d2 (by simp), g1.cell d3 (by simp)⟩ ?_
    refine wpTailsH_cons rfl ?_
    go_wp2_with fail
    refine tail_mk ⟨g1.cell d0 (by simp), g1.cell d1 (by simp), g1.cell d2 (by simp), g1.cell d3 (by simp)⟩ ?_
    refine wpTailsH_nil ?_
    refine K_gen (fun Z => Mem S W W2.heap.size (rl0 bs W2.heap.size) (vals0 (.slice ca s.cons.length cc) S.N S.vars bs) st0 Z ∧ Z.cell? ⟨bw, 3, none⟩ = some (.slice ca s.cons.length cc)) ⟨HM.out, g1.cell d3 (by simp)⟩ ?_
    clear g1 d0 d1 d2 d3 HM
    rintro W3 ⟨m3, d3⟩
    obtain ⟨sv, hsv⟩ : ∃ sv, sv = W2.heap.size := ⟨_, rfl⟩
    rw [← hsv] at m3 ⊢
    clear hsv
    obtain ⟨V, hV⟩ : ∃ V, V = vals0 (.slice ca s.cons.length cc) S.N S.vars bs := ⟨_, rfl⟩
    obtain ⟨rl, hrl⟩ : ∃ rl, rl = rl0 bs sv := ⟨_, rfl⟩
    rw [← hV, ← hrl] at m3
    have H3 := Lib.hid m3
    clear m3 hV hrl
    have hmm := @run_makeMap Try.prog
    have hbl : bw < W3.heap.size := World.block_lt_of_cell? W3 _ d3
    obtain ⟨rl1, hL1⟩ := L1.start H3.out
    have hbl1 : bw ≠ W3.heap.size := by omega
    have hbl2 : bw ≠ W3.heap.size + 1 := by omega
    go_wp2_with fail
    refine wp_gen (fun Z => L1 S W sv W3.heap.size (W3.heap.size + 1) 0 rl1 V st0 [] Z) hL1 ?_
    clear hL1 hbl hbl1 hbl2 d3 hmm H3
    intro W5 h5
    obtain ⟨ab, hab⟩ : ∃ ab, ab = W3.heap.size := ⟨_, rfl⟩
    obtain ⟨mb, hmb⟩ : ∃ mb, mb = W3.heap.size + 1 := ⟨_, rfl⟩
    rw [← hmb, ← hab] at h5 ⊢
    have hne : ab ≠ mb := by omega
    have H5 := Lib.hid h5
    clear hab hmb h5
    go_loopw [8, 9, 46] (fun _ _ x wr => ∃ (j : Nat) (rl2 : Nat → Nat) (V2 : Vals) (st2 : St) (l : List Value), j ≤ s.cons.length ∧ x = .int .i64 j ∧ Hid (L1 S W sv ab mb j rl2 V2 st2 l wr)) (fun _ _ x _ => s.cons.length - (intOf x).toNat)
    case atStart => exact ⟨0, rl1, V, st0, [], by omega, rfl, H5.out⟩
    case round =>
      obtain ⟨j, rl2, V2, st2, l, hj, rfl, hh⟩ := hrel
      by_cases hlt : j < s.cons.length
      · obtain ⟨sa, sn, sc, c0, c1, c2, c3, c4, hset, hbl⟩ := HG.out.2.2.2.2.1 j hlt
        have hbel := hh.out.mem.bel
        rw [← hbel.cell (p := ⟨blk ca, ofs ca + j * 5, none⟩) hbl] at c0
        rw [← hbel.cell (p := ⟨blk ca, ofs ca + j * 5 + 1, none⟩) hbl] at c1
        rw [← hbel.cell (p := ⟨blk ca, ofs ca + j * 5 + 2, none⟩) hbl] at c2
        rw [← hbel.cell (p := ⟨blk ca, ofs ca + j * 5 + 3, none⟩) hbl] at c3
        rw [← hbel.cell (p := ⟨blk ca, ofs ca + j * 5 + 4, none⟩) hbl] at c4
        have hvc := HG.out.2.2.1.cons _ (nth_mem _ _ hlt)
        have hjS : j < S.cons.length := by rw [HG.out.2.2.2.2.2]; exact hlt
        have hcn : nth S.cons j = (nth s.cons j).C := by
          rw [HG.out.2.2.2.1]; exact nth_map' _ _ _ hlt
        have hok := HG.out.1 _ (nth_mem _ _ hjS)
        have k0 : (nth s.cons j).k = ((nth S.cons j).k : Int) := by rw [hcn]; have := hvc.kind; show _ = (((nth s.cons j).k.toNat : Nat) : Int); omega
        have k1 : (nth s.cons j).a = ((nth S.cons j).a : Int) := by rw [hcn]; have := hvc.a.1; show _ = (((nth s.cons j).a.toNat : Nat) : Int); omega
        have k2 : (nth s.cons j).b = ((nth S.cons j).b : Int) := by rw [hcn]; have := hvc.b.1; show _ = (((nth s.cons j).b.toNat : Nat) : Int); omega
        have k3 : (nth s.cons j).f = ((nth S.cons j).f : Int) := by rw [hcn]; have := hvc.f'; show _ = (((nth s.cons j).f.toNat : Nat) : Int); omega
        have k4 : (nth s.cons j).s = (nth S.cons j).s.map (fun x : Nat => (x : Int)) := by
          rw [hcn]; exact (cast_toNat fun x hx => (hvc.s x hx).1).symm
        rw [k0] at c0
        rw [k1] at c1
        rw [k2] at c2
        rw [k3] at c3
        rw [k4] at hset
        clear hbel hvc hcn k0 k1 k2 k3 k4
        have HC := Lib.hid (And.intro hok (And.intro hset (And.intro hbl hjS)))
        clear hok hset hbl hjS
        obtain ⟨c, hc⟩ : ∃ c, c = nth S.cons j := ⟨_, rfl⟩
        rw [← hc] at c0 c1 c2 c3 HC
        have Hc := Lib.hid hc
        clear hc
        have hck := HC.out.1.kind
        have hca : c.a ≤ 40 := by have h := HC.out.1.a; split at h <;> omega
        have hcb : c.b ≤ 40 := by have h := HC.out.1.b; omega
        have hcf : c.f ≤ 5 := by
          by_cases h3 : c.k = 3 ∨ c.k = 4
          · have h := HC.out.1.f h3; omega
          · have h := HC.out.1.f0 (by omega) (by omega); omega
        obtain ⟨kl, hkl⟩ := keyWf c.k c.a c.b c.f (by omega) (by omega) (by omega) (by omega)
        have HB := Lib.hid (And.intro hca (And.intro hcb (And.intro hcf hkl)))
        clear hca hcb hcf hkl
        have hset6 := ((hh.out.set.kept (grownBy_alloc wr (.cells #[.int .i64 (c.k : Int), .int .i64 c.a, .int .i64 c.b, .int .i64 c.f, .slice sa sn sc] 37)) (by simp)).kept (grownBy_alloc _ (.cells #[.int .i64 (c.k : Int), .int .i64 c.a, .int .i64 c.b, .int .i64 c.f] 83)) (by simp))
        obtain ⟨x, hlook, hx⟩ := hset6.look keyLaw Try.underlying81 Try.underlying4 (zeroBool _) HB.out.2.2.2
        have HX := Lib.hid (And.intro hset6 hx)
        clear hset6 hx
        obtain ⟨ck, c_a, c_b, c_f, c_s⟩ := c
        dsimp only at *
        have hk5 : ck = 1 ∨ ck = 2 ∨ ck = 3 ∨ ck = 4 ∨ ck = 5 := by omega
        clear hck
        rcases hk5 with rfl | rfl | rfl | rfl | rfl
        · rw [show ((1 : Nat) : Int) = 1 from rfl] at hlook c0
          cases x
          · go_wp2_with (at_mapUpdate; refine wp_mapPut (t := 81) HX.out.1 rfl _ _ _ rfl keyLaw Try.underlying81 Try.underlying4 rfl rfl (by unfold maxLen; omega) _ kl rfl HB.out.2.2.2 ?_; intro W7 set7 g7)
            have g6 : wr.grownBy _ none := grownBy_trans (grownBy_alloc wr (.cells #[.int .i64 1, .int .i64 c_a, .int .i64 c_b, .int .i64 c_f, .slice sa sn sc] 37)) (grownBy_alloc _ (.cells #[.int .i64 1, .int .i64 c_a, .int .i64 c_b, .int .i64 c_f] 83))
            have m6 := hh.out.mem.keep g6
            have m7 := m6.beside g7 (fun k hk => by simp at hk; rw [← hk]; exact hh.out.rm) (fun _ _ => rfl) (fun k hk => m6.fr k (Nat.le_trans g7.size hk)) m6.low
            have habl := (Array.getElem?_eq_some_iff.1 hh.out.arr).1
            have a7 : W7.heap[ab]? = some (.cells arrF 80) := by
              rw [g7.block ab (Nat.lt_of_lt_of_le habl g6.size) (by simp; exact hne), g6.block ab habl (by simp)]; exact hh.out.arr
            have hmbl := hh.out.set.lt
            have bx7 : BoxC W7 wr.heap.size 1 c_a c_b c_f (.slice sa sn sc) := ((BoxC.new wr 1 c_a c_b c_f (.slice sa sn sc) 37).grown (grownBy_alloc _ (.cells #[.int .i64 1, .int .i64 c_a, .int .i64 c_b, .int .i64 c_f] 83)) (by simp)).grown g7 (by simp; omega)
            have keys7 : ∀ key ∈ (keyV ⟨1, c_a, c_b, c_f, c_s⟩) :: l, ∃ d ∈ S.cons.take (j + 1), key = keyV d := by
              intro key hk
              rw [take_next HC.out.2.2.2, ← Hc.out]
              rcases List.mem_cons.1 hk with rfl | hk
              · exact ⟨_, List.mem_append.2 (.inr (by simp)), rfl⟩
              · obtain ⟨d, hd, e⟩ := hh.out.keys key hk
                exact ⟨d, List.mem_append.2 (.inl hd), e⟩
            have htd : st2.todo.length ≤ 1200 := by
              have h1 := hh.out.plain.todo
              have h2 := mass_le S st2
              have h3 := HG.out.2.1.NS
              omega
            have HT := Lib.hid (And.intro (show st2.todo.length ≤ 1000000 by omega) (And.intro htd (And.intro hh.out.plain (And.intro hh.out.ra (And.intro hh.out.rm (And.intro set7 keys7))))))
            refine wp_gen (fun Z => Mem S W sv rl2 V2 st2 Z ∧ Z.heap[ab]? = some (.cells arrF 80) ∧ BoxC Z wr.heap.size 1 c_a c_b c_f (.slice sa sn sc) ∧ SetM Try.prog 83 4 Z mb (j + 1) ((keyV ⟨1, c_a, c_b, c_f, c_s⟩) :: l)) ⟨m7, a7, bx7, set7⟩ ?_
            clear g6 m6 m7 a7 bx7 keys7 htd set7 g7 c0 c1 c2 c3 c4 hmbl habl
            rintro Z8 ⟨m8, a8, ⟨d0, d1, d2, d3, d4⟩, set8⟩
            obtain ⟨cb, hcb⟩ : ∃ cb, cb = wr.heap.size := ⟨_, rfl⟩
            rw [← hcb] at d0 d1 d2 d3 d4 ⊢
            clear hcb
            have af : Z8.cell? ⟨ab, 1, none⟩ = some (arrF[1]!) := by simp [World.cell?, a8, arrF]
            simp only [arrF] at af
            have H7 := Lib.hid (And.intro m8 (And.intro a8 set8))
            clear m8 a8 set8
            refine wp_region_mix [0, 1, 2, 3, 4, 5] [6] (fun w' => BoxC w' cb 1 c_a c_b c_f (.slice sa sn sc) ∧ w'.cell? ⟨ab, 1, none⟩ = some (arrF[1]!)) (by kernel_rfl) (by kernel_rfl) (by kernel_rfl) ⟨⟨d0, d1, d2, d3, d4⟩, af⟩ ?_
            repeat (
              refine wpHeads_cons (v := ?_) rfl (Or.inl ⟨by rfl, ?_⟩) ?_
              rotate_left
              · (intro W hW; obtain ⟨⟨q1, q2, q3, q4, q5⟩, q6⟩ := hW; simp only [arrF] at q6; go_simp; try with_reducible rfl)
              simp only [Act.put, List.setIfInBounds_toArray])
            refine wpHeads_nil ?_
            refine wpTails_one rfl ?_
            have H8 := Lib.hid (And.intro (H7.out.1.keep (grownBy_drew0 _)) trivial)
            clear d0 d1 d2 d3 d4 af
            go_wp2_with fail
            refine (addr_any H8.out.1 1 c_a c_b c_f sa sn sc (vN HC.out.1.b) (by have := HB.out.1; omega) (by omega) HT.out.1).mono ?_
            rintro e W9 ⟨v9, rl9, V9, st9, rfl, ⟨sset, hsset, hp⟩, m9, e9⟩
            have hP : P1 S (j + 1) st9 := HT.out.2.2.1.addr HG.out.1 HC.out.2.2.2 (by rw [← Hc.out]) (s := sset) (by rw [← Hc.out]; exact hsset) (by rw [← Hc.out]; exact hp)
            have ab9 := e9.same ab (by have := (Array.getElem?_eq_some_iff.1 H7.out.2.1).1; exact this) (.inl HT.out.2.2.2.1)
            have mb9 := e9.same mb (by have := H7.out.2.2.lt; exact this) (.inr (by rw [HT.out.2.2.2.2.1]; omega))
            have H9 := Lib.hid (show L1 S W sv ab mb (j + 1) rl9 V9 st9 _ W9 from ⟨m9, by rw [ab9.2]; exact HT.out.2.2.2.1, by rw [mb9.2]; exact HT.out.2.2.2.2.1, by rw [ab9.1]; exact H7.out.2.1, H7.out.2.2.block mb9.1, HT.out.2.2.2.2.2.2, hP⟩)
            clear hP hp m9 e9 ab9 mb9
            go_wp2_with fail
            refine thenQ_mk ?_
            go_wp2_with fail
            go_roundw
            case rel => exact ⟨j + 1, rl9, V9, st9, _, by omega, by go_num, H9.out⟩
            case measure => simp [intOf]; omega
          · have hmem := HX.out.2.1 rfl
            obtain ⟨d, hd, hdk⟩ := hh.out.keys _ hmem
            have hdk' := keyV_inj (c := ⟨1, c_a, c_b, c_f, c_s⟩) hdk
            have hP : P1 S (j + 1) st2 := hh.out.plain.again HC.out.2.2.2 hd (by rw [← Hc.out]; exact hdk'.1) (by rw [← Hc.out]; exact hdk'.2.1) (by rw [← Hc.out]; exact hdk'.2.2.1) (by rw [← Hc.out]; exact hdk'.2.2.2) (by rw [← Hc.out]; dsimp only; omega)
            have HP := Lib.hid hP
            clear hmem hdk hdk' hd hP
            go_wp2_with fail
            go_roundw
            case rel =>
              have g6 : wr.grownBy _ none := grownBy_trans (grownBy_alloc wr (.cells #[.int .i64 1, .int .i64 c_a, .int .i64 c_b, .int .i64 c_f, .slice sa sn sc] 37)) (grownBy_alloc _ (.cells #[.int .i64 1, .int .i64 c_a, .int .i64 c_b, .int .i64 c_f] 83))
              exact ⟨j + 1, rl2, V2, st2, l, by omega, by go_num, ⟨hh.out.mem.keep g6, hh.out.ra, hh.out.rm, by rw [g6.block ab (Array.getElem?_eq_some_iff.1 hh.out.arr).1 (by simp)]; exact hh.out.arr, HX.out.1.mono (by omega), fun key hk => by
                obtain ⟨d, hd, e⟩ := hh.out.keys key hk
                exact ⟨d, by rw [take_next HC.out.2.2.2]; exact List.mem_append.2 (.inl hd), e⟩, HP.out⟩⟩
            case measure => simp [intOf]; omega
        · rw [show ((2 : Nat) : Int) = 2 from rfl] at hlook c0
          cases x
          · go_wp2_with (at_mapUpdate; refine wp_mapPut (t := 81) HX.out.1 rfl _ _ _ rfl keyLaw Try.underlying81 Try.underlying4 rfl rfl (by unfold maxLen; omega) _ kl rfl HB.out.2.2.2 ?_; intro W7 set7 g7)
            have g6 : wr.grownBy _ none := grownBy_trans (grownBy_alloc wr (.cells #[.int .i64 2, .int .i64 c_a, .int .i64 c_b, .int .i64 c_f, .slice sa sn sc] 37)) (grownBy_alloc _ (.cells #[.int .i64 2, .int .i64 c_a, .int .i64 c_b, .int .i64 c_f] 83))
            have m6 := hh.out.mem.keep g6
            have m7 := m6.beside g7 (fun k hk => by simp at hk; rw [← hk]; exact hh.out.rm) (fun _ _ => rfl) (fun k hk => m6.fr k (Nat.le_trans g7.size hk)) m6.low
            have habl := (Array.getElem?_eq_some_iff.1 hh.out.arr).1
            have a7 : W7.heap[ab]? = some (.cells arrF 80) := by
              rw [g7.block ab (Nat.lt_of_lt_of_le habl g6.size) (by simp; exact hne), g6.block ab habl (by simp)]; exact hh.out.arr
            have hmbl := hh.out.set.lt
            have bx7 : BoxC W7 wr.heap.size 2 c_a c_b c_f (.slice sa sn sc) := ((BoxC.new wr 2 c_a c_b c_f (.slice sa sn sc) 37).grown (grownBy_alloc _ (.cells #[.int .i64 2, .int .i64 c_a, .int .i64 c_b, .int .i64 c_f] 83)) (by simp)).grown g7 (by simp; omega)
            have keys7 : ∀ key ∈ (keyV ⟨2, c_a, c_b, c_f, c_s⟩) :: l, ∃ d ∈ S.cons.take (j + 1), key = keyV d := by
              intro key hk
              rw [take_next HC.out.2.2.2, ← Hc.out]
              rcases List.mem_cons.1 hk with rfl | hk
              · exact ⟨_, List.mem_append.2 (.inr (by simp)), rfl⟩
              · obtain ⟨d, hd, e⟩ := hh.out.keys key hk
                exact ⟨d, List.mem_append.2 (.inl hd), e⟩
            have htd : st2.todo.length ≤ 1200 := by
              have h1 := hh.out.plain.todo
              have h2 := mass_le S st2
              have h3 := HG.out.2.1.NS
              omega
            have HT := Lib.hid (And.intro (show st2.todo.length ≤ 1000000 by omega) (And.intro htd (And.intro hh.out.plain (And.intro hh.out.ra (And.intro hh.out.rm (And.intro set7 keys7))))))
            refine wp_gen (fun Z => Mem S W sv rl2 V2 st2 Z ∧ Z.heap[ab]? = some (.cells arrF 80) ∧ BoxC Z wr.heap.size 2 c_a c_b c_f (.slice sa sn sc) ∧ SetM Try.prog 83 4 Z mb (j + 1) ((keyV ⟨2, c_a, c_b, c_f, c_s⟩) :: l)) ⟨m7, a7, bx7, set7⟩ ?_
            clear g6 m6 m7 a7 bx7 keys7 htd set7 g7 c0 c1 c2 c3 c4 hmbl habl
            rintro Z8 ⟨m8, a8, ⟨d0, d1, d2, d3, d4⟩, set8⟩
            obtain ⟨cb, hcb⟩ : ∃ cb, cb = wr.heap.size := ⟨_, rfl⟩
            rw [← hcb] at d0 d1 d2 d3 d4 ⊢
            clear hcb
            have af : Z8.cell? ⟨ab, 2, none⟩ = some (arrF[2]!) := by simp [World.cell?, a8, arrF]
            simp only [arrF] at af
            have H7 := Lib.hid (And.intro m8 (And.intro a8 set8))
            clear m8 a8 set8
            refine wp_region_mix [0, 1, 2, 3, 4, 5] [6] (fun w' => BoxC w' cb 2 c_a c_b c_f (.slice sa sn sc) ∧ w'.cell? ⟨ab, 2, none⟩ = some (arrF[2]!)) (by kernel_rfl) (by kernel_rfl) (by kernel_rfl) ⟨⟨d0, d1, d2, d3, d4⟩, af⟩ ?_
            repeat (
              refine wpHeads_cons (v := ?_) rfl (Or.inl ⟨by rfl, ?_⟩) ?_
              rotate_left
              · (intro W hW; obtain ⟨⟨q1, q2, q3, q4, q5⟩, q6⟩ := hW; simp only [arrF] at q6; go_simp; try with_reducible rfl)
              simp only [Act.put, List.setIfInBounds_toArray])
            refine wpHeads_nil ?_
            refine wpTails_one rfl ?_
            have H8 := Lib.hid (And.intro (H7.out.1.keep (grownBy_drew0 _)) trivial)
            clear d0 d1 d2 d3 d4 af
            go_wp2_with fail
            have haV : c_a < S.vars := by have h := HC.out.1.a; simpa using h
            refine (copy_any H8.out.1 2 c_a c_b c_f sa sn sc (vN haV) (vN HC.out.1.b) (by omega) HT.out.1 (by have := HT.out.2.2.1.cp c_a; omega)).mono ?_
            rintro e W9 ⟨v9, rl9, V9, st9, rfl, hp, m9, e9⟩
            have hP : P1 S (j + 1) st9 := HT.out.2.2.1.copy HG.out.1 HC.out.2.2.2 (by rw [← Hc.out]) (by rw [← Hc.out]; exact hp)
            clear haV
            have ab9 := e9.same ab (by have := (Array.getElem?_eq_some_iff.1 H7.out.2.1).1; exact this) (.inl HT.out.2.2.2.1)
            have mb9 := e9.same mb (by have := H7.out.2.2.lt; exact this) (.inr (by rw [HT.out.2.2.2.2.1]; omega))
            have H9 := Lib.hid (show L1 S W sv ab mb (j + 1) rl9 V9 st9 _ W9 from ⟨m9, by rw [ab9.2]; exact HT.out.2.2.2.1, by rw [mb9.2]; exact HT.out.2.2.2.2.1, by rw [ab9.1]; exact H7.out.2.1, H7.out.2.2.block mb9.1, HT.out.2.2.2.2.2.2, hP⟩)
            clear hP hp m9 e9 ab9 mb9
            go_wp2_with fail
            refine thenQ_mk ?_
            go_wp2_with fail
            go_roundw
            case rel => exact ⟨j + 1, rl9, V9, st9, _, by omega, by go_num, H9.out⟩
            case measure => simp [intOf]; omega
          · have hmem := HX.out.2.1 rfl
            obtain ⟨d, hd, hdk⟩ := hh.out.keys _ hmem
            have hdk' := keyV_inj (c := ⟨2, c_a, c_b, c_f, c_s⟩) hdk
            have hP : P1 S (j + 1) st2 := hh.out.plain.again HC.out.2.2.2 hd (by rw [← Hc.out]; exact hdk'.1) (by rw [← Hc.out]; exact hdk'.2.1) (by rw [← Hc.out]; exact hdk'.2.2.1) (by rw [← Hc.out]; exact hdk'.2.2.2) (by rw [← Hc.out]; dsimp only; omega)
            have HP := Lib.hid hP
            clear hmem hdk hdk' hd hP
            go_wp2_with fail
            go_roundw
            case rel =>
              have g6 : wr.grownBy _ none := grownBy_trans (grownBy_alloc wr (.cells #[.int .i64 2, .int .i64 c_a, .int .i64 c_b, .int .i64 c_f, .slice sa sn sc] 37)) (grownBy_alloc _ (.cells #[.int .i64 2, .int .i64 c_a, .int .i64 c_b, .int .i64 c_f] 83))
              exact ⟨j + 1, rl2, V2, st2, l, by omega, by go_num, ⟨hh.out.mem.keep g6, hh.out.ra, hh.out.rm, by rw [g6.block ab (Array.getElem?_eq_some_iff.1 hh.out.arr).1 (by simp)]; exact hh.out.arr, HX.out.1.mono (by omega), fun key hk => by
                obtain ⟨d, hd, e⟩ := hh.out.keys key hk
                exact ⟨d, by rw [take_next HC.out.2.2.2]; exact List.mem_append.2 (.inl hd), e⟩, HP.out⟩⟩
            case measure => simp [intOf]; omega
        · rw [show ((3 : Nat) : Int) = 3 from rfl] at hlook c0
          cases x
          · go_wp2_with (at_mapUpdate; refine wp_mapPut (t := 81) HX.out.1 rfl _ _ _ rfl keyLaw Try.underlying81 Try.underlying4 rfl rfl (by unfold maxLen; omega) _ kl rfl HB.out.2.2.2 ?_; intro W7 set7 g7)
            have g6 : wr.grownBy _ none := grownBy_trans (grownBy_alloc wr (.cells #[.int .i64 3, .int .i64 c_a, .int .i64 c_b, .int .i64 c_f, .slice sa sn sc] 37)) (grownBy_alloc _ (.cells #[.int .i64 3, .int .i64 c_a, .int .i64 c_b, .int .i64 c_f] 83))
            have m6 := hh.out.mem.keep g6
            have m7 := m6.beside g7 (fun k hk => by simp at hk; rw [← hk]; exact hh.out.rm) (fun _ _ => rfl) (fun k hk => m6.fr k (Nat.le_trans g7.size hk)) m6.low
            have habl := (Array.getElem?_eq_some_iff.1 hh.out.arr).1
            have a7 : W7.heap[ab]? = some (.cells arrF 80) := by
              rw [g7.block ab (Nat.lt_of_lt_of_le habl g6.size) (by simp; exact hne), g6.block ab habl (by simp)]; exact hh.out.arr
            have hmbl := hh.out.set.lt
            have bx7 : BoxC W7 wr.heap.size 3 c_a c_b c_f (.slice sa sn sc) := ((BoxC.new wr 3 c_a c_b c_f (.slice sa sn sc) 37).grown (grownBy_alloc _ (.cells #[.int .i64 3, .int .i64 c_a, .int .i64 c_b, .int .i64 c_f] 83)) (by simp)).grown g7 (by simp; omega)
            have keys7 : ∀ key ∈ (keyV ⟨3, c_a, c_b, c_f, c_s⟩) :: l, ∃ d ∈ S.cons.take (j + 1), key = keyV d := by
              intro key hk
              rw [take_next HC.out.2.2.2, ← Hc.out]
              rcases List.mem_cons.1 hk with rfl | hk
              · exact ⟨_, List.mem_append.2 (.inr (by simp)), rfl⟩
              · obtain ⟨d, hd, e⟩ := hh.out.keys key hk
                exact ⟨d, List.mem_append.2 (.inl hd), e⟩
            have htd : st2.todo.length ≤ 1200 := by
              have h1 := hh.out.plain.todo
              have h2 := mass_le S st2
              have h3 := HG.out.2.1.NS
              omega
            have HT := Lib.hid (And.intro (show st2.todo.length ≤ 1000000 by omega) (And.intro htd (And.intro hh.out.plain (And.intro hh.out.ra (And.intro hh.out.rm (And.intro set7 keys7))))))
            refine wp_gen (fun Z => Mem S W sv rl2 V2 st2 Z ∧ Z.heap[ab]? = some (.cells arrF 80) ∧ BoxC Z wr.heap.size 3 c_a c_b c_f (.slice sa sn sc) ∧ SetM Try.prog 83 4 Z mb (j + 1) ((keyV ⟨3, c_a, c_b, c_f, c_s⟩) :: l)) ⟨m7, a7, bx7, set7⟩ ?_
            clear g6 m6 m7 a7 bx7 keys7 htd set7 g7 c0 c1 c2 c3 c4 hmbl habl
            rintro Z8 ⟨m8, a8, ⟨d0, d1, d2, d3, d4⟩, set8⟩
            obtain ⟨cb, hcb⟩ : ∃ cb, cb = wr.heap.size := ⟨_, rfl⟩
            rw [← hcb] at d0 d1 d2 d3 d4 ⊢
            clear hcb
            have af : Z8.cell? ⟨ab, 3, none⟩ = some (arrF[3]!) := by simp [World.cell?, a8, arrF]
            simp only [arrF] at af
            have H7 := Lib.hid (And.intro m8 (And.intro a8 set8))
            clear m8 a8 set8
            refine wp_region_mix [0, 1, 2, 3, 4, 5] [6] (fun w' => BoxC w' cb 3 c_a c_b c_f (.slice sa sn sc) ∧ w'.cell? ⟨ab, 3, none⟩ = some (arrF[3]!)) (by kernel_rfl) (by kernel_rfl) (by kernel_rfl) ⟨⟨d0, d1, d2, d3, d4⟩, af⟩ ?_
            repeat (
              refine wpHeads_cons (v := ?_) rfl (Or.inl ⟨by rfl, ?_⟩) ?_
              rotate_left
              · (intro W hW; obtain ⟨⟨q1, q2, q3, q4, q5⟩, q6⟩ := hW; simp only [arrF] at q6; go_simp; try with_reducible rfl)
              simp only [Act.put, List.setIfInBounds_toArray])
            refine wpHeads_nil ?_
            refine wpTails_one rfl ?_
            have H8 := Lib.hid (And.intro (H7.out.1.keep (grownBy_drew0 _)) trivial)
            clear d0 d1 d2 d3 d4 af
            go_wp2_with fail
            have haV : c_a < S.vars := by have h := HC.out.1.a; simpa using h
            refine (load_any H8.out.1 ⟨3, c_a, c_b, c_f, c_s⟩ sa sn sc haV HC.out.1.b (HC.out.1.f (.inl rfl)) (by omega) (by omega) (by omega) (by omega) (by have := HT.out.2.1; omega) (fun i => by have := HT.out.2.2.1.cp i; omega) (by have := HT.out.2.2.1.ld c_a; dsimp only; omega) (HT.out.2.2.1.bnd HG.out.1)).mono ?_
            rintro e W9 ⟨v9, rl9, V9, st9, rfl, ⟨L, hPw, hL, hp⟩, m9, e9⟩
            have hP : P1 S (j + 1) st9 := HT.out.2.2.1.load HG.out.1 HG.out.2.1 HC.out.2.2.2 (by rw [← Hc.out]) hPw (by rw [← Hc.out]; exact hL) (by rw [← Hc.out]; exact hp)
            clear haV
            have ab9 := e9.same ab (by have := (Array.getElem?_eq_some_iff.1 H7.out.2.1).1; exact this) (.inl HT.out.2.2.2.1)
            have mb9 := e9.same mb (by have := H7.out.2.2.lt; exact this) (.inr (by rw [HT.out.2.2.2.2.1]; omega))
            have H9 := Lib.hid (show L1 S W sv ab mb (j + 1) rl9 V9 st9 _ W9 from ⟨m9, by rw [ab9.2]; exact HT.out.2.2.2.1, by rw [mb9.2]; exact HT.out.2.2.2.2.1, by rw [ab9.1]; exact H7.out.2.1, H7.out.2.2.block mb9.1, HT.out.2.2.2.2.2.2, hP⟩)
            clear hP hp m9 e9 ab9 mb9
            go_wp2_with fail
            refine thenQ_mk ?_
            go_wp2_with fail
            go_roundw
            case rel => exact ⟨j + 1, rl9, V9, st9, _, by omega, by go_num, H9.out⟩
            case measure => simp [intOf]; omega
          · have hmem := HX.out.2.1 rfl
            obtain ⟨d, hd, hdk⟩ := hh.out.keys _ hmem
            have hdk' := keyV_inj (c := ⟨3, c_a, c_b, c_f, c_s⟩) hdk
            have hP : P1 S (j + 1) st2 := hh.out.plain.again HC.out.2.2.2 hd (by rw [← Hc.out]; exact hdk'.1) (by rw [← Hc.out]; exact hdk'.2.1) (by rw [← Hc.out]; exact hdk'.2.2.1) (by rw [← Hc.out]; exact hdk'.2.2.2) (by rw [← Hc.out]; dsimp only; omega)
            have HP := Lib.hid hP
            clear hmem hdk hdk' hd hP
            go_wp2_with fail
            go_roundw
            case rel =>
              have g6 : wr.grownBy _ none := grownBy_trans (grownBy_alloc wr (.cells #[.int .i64 3, .int .i64 c_a, .int .i64 c_b, .int .i64 c_f, .slice sa sn sc] 37)) (grownBy_alloc _ (.cells #[.int .i64 3, .int .i64 c_a, .int .i64 c_b, .int .i64 c_f] 83))
              exact ⟨j + 1, rl2, V2, st2, l, by omega, by go_num, ⟨hh.out.mem.keep g6, hh.out.ra, hh.out.rm, by rw [g6.block ab (Array.getElem?_eq_some_iff.1 hh.out.arr).1 (by simp)]; exact hh.out.arr, HX.out.1.mono (by omega), fun key hk => by
                obtain ⟨d, hd, e⟩ := hh.out.keys key hk
                exact ⟨d, by rw [take_next HC.out.2.2.2]; exact List.mem_append.2 (.inl hd), e⟩, HP.out⟩⟩
            case measure => simp [intOf]; omega
        · rw [show ((4 : Nat) : Int) = 4 from rfl] at hlook c0
          cases x
          · go_wp2_with (at_mapUpdate; refine wp_mapPut (t := 81) HX.out.1 rfl _ _ _ rfl keyLaw Try.underlying81 Try.underlying4 rfl rfl (by unfold maxLen; omega) _ kl rfl HB.out.2.2.2 ?_; intro W7 set7 g7)
            have g6 : wr.grownBy _ none := grownBy_trans (grownBy_alloc wr (.cells #[.int .i64 4, .int .i64 c_a, .int .i64 c_b, .int .i64 c_f, .slice sa sn sc] 37)) (grownBy_alloc _ (.cells #[.int .i64 4, .int .i64 c_a, .int .i64 c_b, .int .i64 c_f] 83))
            have m6 := hh.out.mem.keep g6
            have m7 := m6.beside g7 (fun k hk => by simp at hk; rw [← hk]; exact hh.out.rm) (fun _ _ => rfl) (fun k hk => m6.fr k (Nat.le_trans g7.size hk)) m6.low
            have habl := (Array.getElem?_eq_some_iff.1 hh.out.arr).1
            have a7 : W7.heap[ab]? = some (.cells arrF 80) := by
              rw [g7.block ab (Nat.lt_of_lt_of_le habl g6.size) (by simp; exact hne), g6.block ab habl (by simp)]; exact hh.out.arr
            have hmbl := hh.out.set.lt
            have bx7 : BoxC W7 wr.heap.size 4 c_a c_b c_f (.slice sa sn sc) := ((BoxC.new wr 4 c_a c_b c_f (.slice sa sn sc) 37).grown (grownBy_alloc _ (.cells #[.int .i64 4, .int .i64 c_a, .int .i64 c_b, .int .i64 c_f] 83)) (by simp)).grown g7 (by simp; omega)
            have keys7 : ∀ key ∈ (keyV ⟨4, c_a, c_b, c_f, c_s⟩) :: l, ∃ d ∈ S.cons.take (j + 1), key = keyV d := by
              intro key hk
              rw [take_next HC.out.2.2.2, ← Hc.out]
              rcases List.mem_cons.1 hk with rfl | hk
              · exact ⟨_, List.mem_append.2 (.inr (by simp)), rfl⟩
              · obtain ⟨d, hd, e⟩ := hh.out.keys key hk
                exact ⟨d, List.mem_append.2 (.inl hd), e⟩
            have htd : st2.todo.length ≤ 1200 := by
              have h1 := hh.out.plain.todo
              have h2 := mass_le S st2
              have h3 := HG.out.2.1.NS
              omega
            have HT := Lib.hid (And.intro (show st2.todo.length ≤ 1000000 by omega) (And.intro htd (And.intro hh.out.plain (And.intro hh.out.ra (And.intro hh.out.rm (And.intro set7 keys7))))))
            refine wp_gen (fun Z => Mem S W sv rl2 V2 st2 Z ∧ Z.heap[ab]? = some (.cells arrF 80) ∧ BoxC Z wr.heap.size 4 c_a c_b c_f (.slice sa sn sc) ∧ SetM Try.prog 83 4 Z mb (j + 1) ((keyV ⟨4, c_a, c_b, c_f, c_s⟩) :: l)) ⟨m7, a7, bx7, set7⟩ ?_
            clear g6 m6 m7 a7 bx7 keys7 htd set7 g7 c0 c1 c2 c3 c4 hmbl habl
            rintro Z8 ⟨m8, a8, ⟨d0, d1, d2, d3, d4⟩, set8⟩
            obtain ⟨cb, hcb⟩ : ∃ cb, cb = wr.heap.size := ⟨_, rfl⟩
            rw [← hcb] at d0 d1 d2 d3 d4 ⊢
            clear hcb
            have af : Z8.cell? ⟨ab, 4, none⟩ = some (arrF[4]!) := by simp [World.cell?, a8, arrF]
            simp only [arrF] at af
            have H7 := Lib.hid (And.intro m8 (And.intro a8 set8))
            clear m8 a8 set8
            refine wp_region_mix [0, 1, 2, 3, 4, 5] [6] (fun w' => BoxC w' cb 4 c_a c_b c_f (.slice sa sn sc) ∧ w'.cell? ⟨ab, 4, none⟩ = some (arrF[4]!)) (by kernel_rfl) (by kernel_rfl) (by kernel_rfl) ⟨⟨d0, d1, d2, d3, d4⟩, af⟩ ?_
            repeat (
              refine wpHeads_cons (v := ?_) rfl (Or.inl ⟨by rfl, ?_⟩) ?_
              rotate_left
              · (intro W hW; obtain ⟨⟨q1, q2, q3, q4, q5⟩, q6⟩ := hW; simp only [arrF] at q6; go_simp; try with_reducible rfl)
              simp only [Act.put, List.setIfInBounds_toArray])
            refine wpHeads_nil ?_
            refine wpTails_one rfl ?_
            have H8 := Lib.hid (And.intro (H7.out.1.keep (grownBy_drew0 _)) trivial)
            clear d0 d1 d2 d3 d4 af
            go_wp2_with fail
            have haV : c_a < S.vars := by have h := HC.out.1.a; simpa using h
            refine (store_any H8.out.1 ⟨4, c_a, c_b, c_f, c_s⟩ sa sn sc HC.out.1.b haV (HC.out.1.f (.inr rfl)) (by omega) (by omega) (by omega) (by omega) (by have := HT.out.2.1; omega) (fun i => by have := HT.out.2.2.1.cp i; omega) (by have := HT.out.2.2.1.sr c_b; dsimp only; omega) (HT.out.2.2.1.bnd HG.out.1)).mono ?_
            rintro e W9 ⟨v9, rl9, V9, st9, rfl, ⟨L, hPw, hL, hp⟩, m9, e9⟩
            have hP : P1 S (j + 1) st9 := HT.out.2.2.1.store HG.out.1 HG.out.2.1 HC.out.2.2.2 (by rw [← Hc.out]) hPw (by rw [← Hc.out]; exact hL) (by rw [← Hc.out]; exact hp)
            clear haV
            have ab9 := e9.same ab (by have := (Array.getElem?_eq_some_iff.1 H7.out.2.1).1; exact this) (.inl HT.out.2.2.2.1)
            have mb9 := e9.same mb (by have := H7.out.2.2.lt; exact this) (.inr (by rw [HT.out.2.2.2.2.1]; omega))
            have H9 := Lib.hid (show L1 S W sv ab mb (j + 1) rl9 V9 st9 _ W9 from ⟨m9, by rw [ab9.2]; exact HT.out.2.2.2.1, by rw [mb9.2]; exact HT.out.2.2.2.2.1, by rw [ab9.1]; exact H7.out.2.1, H7.out.2.2.block mb9.1, HT.out.2.2.2.2.2.2, hP⟩)
            clear hP hp m9 e9 ab9 mb9
            go_wp2_with fail
            refine thenQ_mk ?_
            go_wp2_with fail
            go_roundw
            case rel => exact ⟨j + 1, rl9, V9, st9, _, by omega, by go_num, H9.out⟩
            case measure => simp [intOf]; omega
          · have hmem := HX.out.2.1 rfl
            obtain ⟨d, hd, hdk⟩ := hh.out.keys _ hmem
            have hdk' := keyV_inj (c := ⟨4, c_a, c_b, c_f, c_s⟩) hdk
            have hP : P1 S (j + 1) st2 := hh.out.plain.again HC.out.2.2.2 hd (by rw [← Hc.out]; exact hdk'.1) (by rw [← Hc.out]; exact hdk'.2.1) (by rw [← Hc.out]; exact hdk'.2.2.1) (by rw [← Hc.out]; exact hdk'.2.2.2) (by rw [← Hc.out]; dsimp only; omega)
            have HP := Lib.hid hP
            clear hmem hdk hdk' hd hP
            go_wp2_with fail
            go_roundw
            case rel =>
              have g6 : wr.grownBy _ none := grownBy_trans (grownBy_alloc wr (.cells #[.int .i64 4, .int .i64 c_a, .int .i64 c_b, .int .i64 c_f, .slice sa sn sc] 37)) (grownBy_alloc _ (.cells #[.int .i64 4, .int .i64 c_a, .int .i64 c_b, .int .i64 c_f] 83))
              exact ⟨j + 1, rl2, V2, st2, l, by omega, by go_num, ⟨hh.out.mem.keep g6, hh.out.ra, hh.out.rm, by rw [g6.block ab (Array.getElem?_eq_some_iff.1 hh.out.arr).1 (by simp)]; exact hh.out.arr, HX.out.1.mono (by omega), fun key hk => by
                obtain ⟨d, hd, e⟩ := hh.out.keys key hk
                exact ⟨d, by rw [take_next HC.out.2.2.2]; exact List.mem_append.2 (.inl hd), e⟩, HP.out⟩⟩
            case measure => simp [intOf]; omega
        · rw [show ((5 : Nat) : Int) = 5 from rfl] at c0
          clear hlook
          go_wp2_with (at_mapUpdate; refine wp_mapPut (t := 81) HX.out.1 rfl _ _ _ rfl keyLaw Try.underlying81 Try.underlying4 rfl rfl (by unfold maxLen; omega) _ kl rfl HB.out.2.2.2 ?_; intro W7 set7 g7)
          have g6 : wr.grownBy _ none := grownBy_trans (grownBy_alloc wr (.cells #[.int .i64 5, .int .i64 c_a, .int .i64 c_b, .int .i64 c_f, .slice sa sn sc] 37)) (grownBy_alloc _ (.cells #[.int .i64 5, .int .i64 c_a, .int .i64 c_b, .int .i64 c_f] 83))
          have m6 := hh.out.mem.keep g6
          have m7 := m6.beside g7 (fun k hk => by simp at hk; rw [← hk]; exact hh.out.rm) (fun _ _ => rfl) (fun k hk => m6.fr k (Nat.le_trans g7.size hk)) m6.low
          have habl := (Array.getElem?_eq_some_iff.1 hh.out.arr).1
          have a7 : W7.heap[ab]? = some (.cells arrF 80) := by
            rw [g7.block ab (Nat.lt_of_lt_of_le habl g6.size) (by simp; exact hne), g6.block ab habl (by simp)]; exact hh.out.arr
          have hmbl := hh.out.set.lt
          have bx7 : BoxC W7 wr.heap.size 5 c_a c_b c_f (.slice sa sn sc) := ((BoxC.new wr 5 c_a c_b c_f (.slice sa sn sc) 37).grown (grownBy_alloc _ (.cells #[.int .i64 5, .int .i64 c_a, .int .i64 c_b, .int .i64 c_f] 83)) (by simp)).grown g7 (by simp; omega)
          have keys7 : ∀ key ∈ (keyV ⟨5, c_a, c_b, c_f, c_s⟩) :: l, ∃ d ∈ S.cons.take (j + 1), key = keyV d := by
            intro key hk
            rw [take_next HC.out.2.2.2, ← Hc.out]
            rcases List.mem_cons.1 hk with rfl | hk
            · exact ⟨_, List.mem_append.2 (.inr (by simp)), rfl⟩
            · obtain ⟨d, hd, e⟩ := hh.out.keys key hk
              exact ⟨d, List.mem_append.2 (.inl hd), e⟩
          have htd : st2.todo.length ≤ 1200 := by
            have h1 := hh.out.plain.todo
            have h2 := mass_le S st2
            have h3 := HG.out.2.1.NS
            omega
          have HT := Lib.hid (And.intro (show st2.todo.length ≤ 1000000 by omega) (And.intro htd (And.intro hh.out.plain (And.intro hh.out.ra (And.intro hh.out.rm (And.intro set7 keys7))))))
          refine wp_gen (fun Z => Mem S W sv rl2 V2 st2 Z ∧ Z.heap[ab]? = some (.cells arrF 80) ∧ BoxC Z wr.heap.size 5 c_a c_b c_f (.slice sa sn sc) ∧ SetM Try.prog 83 4 Z mb (j + 1) ((keyV ⟨5, c_a, c_b, c_f, c_s⟩) :: l)) ⟨m7, a7, bx7, set7⟩ ?_
          clear g6 m6 m7 a7 bx7 keys7 htd set7 g7 c0 c1 c2 c3 c4 hmbl habl
          rintro Z8 ⟨m8, a8, ⟨d0, d1, d2, d3, d4⟩, set8⟩
          obtain ⟨cb, hcb⟩ : ∃ cb, cb = wr.heap.size := ⟨_, rfl⟩
          rw [← hcb] at d0 d1 d2 d3 d4 ⊢
          clear hcb
          have af : Z8.cell? ⟨ab, 5, none⟩ = some (arrF[5]!) := by simp [World.cell?, a8, arrF]
          simp only [arrF] at af
          have H7 := Lib.hid (And.intro m8 (And.intro a8 set8))
          clear m8 a8 set8
          refine wp_region_mix [0, 1, 2, 3, 4, 5] [6] (fun w' => BoxC w' cb 5 c_a c_b c_f (.slice sa sn sc) ∧ w'.cell? ⟨ab, 5, none⟩ = some (arrF[5]!)) (by kernel_rfl) (by kernel_rfl) (by kernel_rfl) ⟨⟨d0, d1, d2, d3, d4⟩, af⟩ ?_
          repeat (
            refine wpHeads_cons (v := ?_) rfl (Or.inl ⟨by rfl, ?_⟩) ?_
            rotate_left
            · (intro W hW; obtain ⟨⟨q1, q2, q3, q4, q5⟩, q6⟩ := hW; simp only [arrF] at q6; go_simp; try with_reducible rfl)
            simp only [Act.put, List.setIfInBounds_toArray])
          refine wpHeads_nil ?_
          refine wpTails_one rfl ?_
          have H8 := Lib.hid (And.intro (H7.out.1.keep (grownBy_drew0 _)) trivial)
          clear d0 d1 d2 d3 d4 af
          go_wp2_with fail
          have haV : c_a < S.vars := by have h := HC.out.1.a; simpa using h
          refine (filter_any H8.out.1 ⟨5, c_a, c_b, c_f, c_s⟩ sa sn sc haV HC.out.1.b (HC.out.2.1.below H8.out.1.bel) (fun x hx => by have := HC.out.1.s x hx; omega) (by omega) HT.out.1 (by have := HT.out.2.2.1.pt c_a; dsimp only; omega)).mono ?_
          rintro e W9 ⟨v9, rl9, V9, st9, rfl, ⟨sset, hsset, hp⟩, m9, e9⟩
          have hP : P1 S (j + 1) st9 := HT.out.2.2.1.filter HG.out.1 HC.out.2.2.2 (by rw [← Hc.out]) (s := sset) (by rw [← Hc.out]; exact hsset) (by rw [← Hc.out]; exact hp)
          clear haV
          have ab9 := e9.same ab (by have := (Array.getElem?_eq_some_iff.1 H7.out.2.1).1; exact this) (.inl HT.out.2.2.2.1)
          have mb9 := e9.same mb (by have := H7.out.2.2.lt; exact this) (.inr (by rw [HT.out.2.2.2.2.1]; omega))
          have H9 := Lib.hid (show L1 S W sv ab mb (j + 1) rl9 V9 st9 _ W9 from ⟨m9, by rw [ab9.2]; exact HT.out.2.2.2.1, by rw [mb9.2]; exact HT.out.2.2.2.2.1, by rw [ab9.1]; exact H7.out.2.1, H7.out.2.2.block mb9.1, HT.out.2.2.2.2.2.2, hP⟩)
          clear hP hp m9 e9 ab9 mb9
          go_wp2_with fail
          refine thenQ_mk ?_
          go_wp2_with fail
          go_roundw
          case rel => exact ⟨j + 1, rl9, V9, st9, _, by omega, by go_num, H9.out⟩
          case measure => simp [intOf]; omega
      · obtain rfl : j = s.cons.length := by omega
        have hP2 := hh.out.plain
        rw [← HG.out.2.2.2.2.2] at hP2
        have H6 := Lib.hid (And.intro hh.out.mem (hP2.two HG.out.2.1))
        clear hP2 hh hj hlt hci
        go_wp2_with fail
        go_loopg [10, 12] 1200 (fun g _ _ wr => ∃ (vis : Nat) (rl3 : Nat → Nat) (V3 : Vals) (st3 : St), vis + g = 1200 ∧ Hid (Mem S W sv rl3 V3 st3 wr ∧ P2 S vis [] st3))
        case atStart => exact ⟨0, rl2, V2, st2, by omega, H6.out⟩
        case round =>
          obtain ⟨vis, rl3, V3, st3, hg, hh⟩ := hrel
          obtain ⟨ta, tc, hta⟩ := (hh.out.1.todo (by omega)).own.shape (n := st3.todo.length) (by simp)
          obtain ⟨c11, f11⟩ := hh.out.1.fld 11 (v := .slice ta st3.todo.length tc) (by rw [← hta]; rfl)
          obtain ⟨xa, xc, hxa⟩ := hh.out.1.setsV
          have c4 := (hh.out.1.fld 4 (v := .slice xa S.N xc) (by rw [← hxa]; rfl)).1
          by_cases h0 : st3.todo.length = 0
          · have hfin := hh.out.2.fin (List.length_eq_zero_iff.1 h0)
            have hset := hh.out.1.sets (by omega)
            rw [hxa] at hset
            have H7 := Lib.hid (And.intro hfin (And.intro hset hh.out.1.bel))
            rw [h0] at c11
            clear hfin hset
            go_wp2_with fail
            go_ret
            refine ⟨xa, xc, V3.xs, st3.p, rfl, H7.out.2.1.own.lst, H7.out.2.1.len, fun i hi => ?_, H7.out.1, H7.out.2.2⟩
            obtain ⟨r, q1, q2, q3, q4, -⟩ := H7.out.2.1.mean i hi
            exact ⟨r, q1, q2, q3, q4, fun _ _ _ => rfl⟩
          · obtain ⟨rl4, m4, e4, hI4, hr4⟩ := hh.out.1.clearTodo
            rw [hta] at hI4 hr4
            have hp4 := hh.out.2.take
            obtain ⟨td, htd⟩ : ∃ td, td = st3.todo := ⟨_, rfl⟩
            rw [← htd] at hI4 hr4 hp4 c11 h0
            obtain ⟨n, hn⟩ : ∃ n, n = td.length := ⟨_, rfl⟩
            rw [← hn] at hI4 hr4 c11 h0
            have hnb : n ≤ 1200 := by have := hp4.vis HG.out.2.1; omega
            have hgt : decide ((n : Int) > 0) = true := by simp; omega
            have hgt2 : decide ((0 : Int) < (n : Int)) = true := by simp; omega
            have hgt3 : decide (0 < n) = true := by simp; omega
            have H8 := Lib.hid (And.intro m4 (And.intro hI4 (And.intro hr4 (And.intro hp4 hn))))
            clear m4 e4 hI4 hr4 hp4 hta htd hn hxa
            go_wp2_with fail
            refine wp_gen (fun Z => Mem S W sv rl4 { V3 with todo := .slice none 0 0 } { st3 with todo := [] } Z ∧ Ints Z (.slice ta n tc) (td.map fun x : Nat => (x : Int))) ⟨H8.out.1, H8.out.2.1⟩ ?_
            rintro W4 ⟨m4, hI4⟩
            obtain ⟨V4, hV4⟩ : ∃ V4, V4 = ({ V3 with todo := .slice none 0 0 } : Vals) := ⟨_, rfl⟩
            obtain ⟨st4, hst4⟩ : ∃ st4, st4 = ({ st3 with todo := [] } : St) := ⟨_, rfl⟩
            rw [← hV4, ← hst4] at m4
            have hp4 := H8.out.2.2.2.1
            rw [← hst4] at hp4
            have hix : ∀ (x : Int), 0 ≤ x → x < n → ∀ Z, (Instr.indexAt 27 (.slice ta n tc) (.int .i64 x)).run Try.prog Z = .ok (.pointer (some ⟨blk ta, ofs ta + x.toNat, none⟩)) Z := by
              obtain ⟨a6, c6, he6, -, hidx6, -⟩ := hI4.out1 sInt
              simp only [Value.slice.injEq] at he6
              obtain ⟨rfl, he6, rfl⟩ := he6
              intro x h0 h1
              have := hidx6 .i64 x h0 (by rw [← he6]; exact h1)
              rw [← he6] at this; exact this
            have H9 := Lib.hid (And.intro m4 (And.intro hI4 (And.intro H8.out.2.2.1 (And.intro hp4 H8.out.2.2.2.2))))
            clear m4 hI4 hp4 H8 hV4 hst4 c11 f11 c4 hh
            go_loopw [12, 92] (fun _ x wr5 => ∃ (j : Nat) (rl5 : Nat → Nat) (V5 : Vals) (st5 : St), j ≤ n ∧ x = .int .i64 j ∧ Hid (Mem S W sv rl5 V5 st5 wr5 ∧ Ext rl4 rl5 W4 wr5 ∧ P2 S (vis + j) (td.drop j) st5)) (fun _ x _ => n - (intOf x).toNat)
            case atStart => exact ⟨0, rl4, V4, st4, by omega, rfl, H9.out.1, Ext.refl _ _, by simpa using H9.out.2.2.2.1⟩
            case round =>
              obtain ⟨j, rl5, V5, st5, hj, rfl, hh⟩ := hrel
              by_cases hlt : j < n
              · have hjt : j < td.length := by rw [← H9.out.2.2.2.2]; exact hlt
                have hcl : wr.cell? ⟨blk ta, ofs ta + j, none⟩ = some (.int .i64 ((nth td j : Nat) : Int)) := by
                  have hlst := lst_ext H9.out.2.1 hh.out.2.1 (fun _ k hk => .inr (by rw [H9.out.2.2.1 k hk]; omega))
                  obtain ⟨a6, c6, he6, -, -, hcell6, -⟩ := hlst.out1 sInt
                  simp only [Value.slice.injEq] at he6
                  obtain ⟨rfl, -, rfl⟩ := he6
                  have := hcell6 j (by simpa using hjt)
                  rw [this]; simp [nth, hjt]
                have hdr : td.drop j = nth td j :: td.drop (j + 1) := by rw [nth_eq _ _ hjt]; exact List.drop_eq_getElem_cons hjt
                have hp5 := hh.out.2.2
                rw [hdr] at hp5
                have HY := Lib.hid (And.intro hp5 (hp5.inv.lt (nth td j) (by simp)))
                clear hp5 hdr hjt
                generalize nth td j = y at *
                go_wp2_with fail
                refine (visit_any hh.out.1 y HY.out.2 (by omega) (by omega) (by omega) (by omega) (HY.out.1.ok HG.out.1 HG.out.2.1)).mono ?_
                rintro e W8 ⟨v8, rl8, V8, st8, rfl, ⟨L, hPw, hL, hp⟩, m8, e8⟩
                have H10 := Lib.hid (And.intro m8 (And.intro (hh.out.2.1.trans e8) (HY.out.1.visit HG.out.1 HG.out.2.1 hPw hL hp)))
                clear hp m8 e8 hPw hL
                go_wp2_with fail
                go_roundw
                case rel => exact ⟨j + 1, rl8, V8, st8, by omega, by go_num, H10.out⟩
                case measure => simp [intOf]; omega
              · obtain rfl : j = n := by omega
                have hp6 := hh.out.2.2
                rw [H9.out.2.2.2.2, List.drop_length, ← H9.out.2.2.2.2] at hp6
                have hv6 := hp6.vis HG.out.2.1
                have H11 := Lib.hid (And.intro hh.out.1 hp6)
                clear hh hp6
                simp only [List.length_nil] at hv6
                go_wp2_with fail
                go_roundg (gk - j)
                case measure => omega
                case rel => exact ⟨vis + j, rl5, V5, st5, by omega, H11.out⟩
end Go.Proofs.Ytkfhopnolflchaa
