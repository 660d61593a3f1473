/- Contract of the reference's Solve. -/
import Derived.Test.YtkfhopnolflchaaRfs
namespace Go.Proofs.Ytkfhopnolflchaa
open Go.RowKit Go.Dfl Go.And

theorem tg_empty (N n i x : Nat) : tg (List.replicate N (List.replicate n false)) i x = false := by
  cases h : tg (List.replicate N (List.replicate n false)) i x
  · rfl
  · have hl := tg_lt (N := N) (n := n) ⟨by simp, fun i hi => by rw [nth_replicate _ _ _ hi]; simp⟩ h
    unfold tg at h
    rw [nth_replicate _ _ _ hl.1, nth_replicate _ _ _ hl.2] at h
    cases h

theorem gas_lt {S : Syst} {F : (Nat → Nat → Prop) → Prop} {M M' : List (List Bool)} {b' : Bool} (hm : Shp S.N S.sites M) (h : TStp S.N S.sites F M M' false b') : gas S M' b' < gas S M true := by
  have h1 := h.cnt
  have h2 := h.sh.cnt
  have h3 := hm.cnt
  unfold gas
  cases b'
  · simp; omega
  · rcases h.up rfl with h4 | h4
    · cases h4
    · simp; omega
theorem _root_.Go.And.VldC.slen {s : Sy} {c : R} (h : VldC s c) (hs : s.sites ≤ 12) : c.C.s.length ≤ 12 := by
  have hp : (c.s.map Int.toNat).Pairwise (· < ·) := by
    rw [List.pairwise_map]
    exact h.asc.imp_of_mem fun {a b} ha hb hab => by have h1 := h.s a ha; have h2 := h.s b hb; omega
  exact sorted_len' (n := 12) hp fun x hx => by obtain ⟨y, hy, rfl⟩ := List.mem_map.1 hx; have := h.s y hy; omega

set_option maxHeartbeats 12800000 in
set_option maxRecDepth 100000 in
theorem rSolve_any (s : Sy) (cv : Value) (W : World) (hc : ConsIn W cv s.cons) (hs : Sm s) : Calls Try.prog 26 #[SysV s cv] W (SolveR s W) := by
  have HC := Lib.hid (And.intro hc hs)
  obtain ⟨ca, cc, rfl, hlen, hci, hcc⟩ := hc.out
  have hcn := hs.cons
  have HCC := Lib.hid hcc
  have g0 := grownBy_trans (grownBy_alloc W (.cells #[.int .i64 s.vars, .int .i64 s.sites, .int .i64 s.fields, .slice ca s.cons.length cc] 24)) (grownBy_alloc _ (.cells #[.slice none 0 0, .slice none 0 0] 41))
  have b0 : Below W.heap.size W _ := ((Below.refl W.heap.size W).alloc (Nat.le_refl _) (.cells #[.int .i64 s.vars, .int .i64 s.sites, .int .i64 s.fields, .slice ca s.cons.length cc] 24)).alloc (by simp) (.cells #[.slice none 0 0, .slice none 0 0] 41)
  have HG0 := Lib.hid (And.intro g0 b0)
  have hbs := (BoxS.new W s (.slice ca s.cons.length cc) 24).grown (grownBy_alloc _ (.cells #[.slice none 0 0, .slice none 0 0] 41)) (by simp)
  have HBS := Lib.hid hbs
  clear g0 b0 hbs hc hs hcc
  unfold SysV
  go_enter Try.func26, Try.ntmps26
  go_wp2_with fail
  refine (rCheck_any s (.slice ca s.cons.length cc) _ (HC.out.1.below (HG0.out.2)) HC.out.2).mono ?_
  rintro e W1 ⟨rfl, q1⟩
  have be1 : Below W.heap.size W W1 := HG0.out.2.grown (grownBy_below q1) (by simp; omega) (by simp)
  obtain ⟨d0, d1, d2, d3⟩ := HBS.out.grown (grownBy_below q1) (by simp)
  have hp0 : W1.cell? ⟨W.heap.size + 1, 0, none⟩ = some (.slice none 0 0) ∧ W1.cell? ⟨W.heap.size + 1, 1, none⟩ = some (.slice none 0 0) ∧ W1.frozen? ⟨W.heap.size + 1, 0, none⟩ = false ∧ W1.frozen? ⟨W.heap.size + 1, 1, none⟩ = false := by
    have hb : W1.heap[W.heap.size + 1]? = some (.cells #[.slice none 0 0, .slice none 0 0] 41) := by
      rw [(grownBy_below q1).block (W.heap.size + 1) (by simp) (by simp)]
      have := heap_alloc_new (W.alloc (.cells #[.int .i64 s.vars, .int .i64 s.sites, .int .i64 s.fields, .slice ca s.cons.length cc] 24)) (.cells #[.slice none 0 0, .slice none 0 0] 41)
      simpa using this
    refine ⟨by simp [World.cell?, hb], by simp [World.cell?, hb], by simp [World.frozen?, hb], by simp [World.frozen?, hb]⟩
  have H1 := Lib.hid be1
  clear be1 q1
  obtain ⟨p0, p1, f0, f1⟩ := hp0
  have bsz : W.heap.size + 1 < W1.heap.size := World.block_lt_of_cell? W1 ⟨W.heap.size + 1, 0, none⟩ p0
  by_cases h0 : chkCode s = 0
  · have hv := chkCode_ok.1 h0
    rw [h0]
    have HV := Lib.hid (And.intro h0 hv)
    clear h0
    obtain ⟨S, hS⟩ : ∃ S, S = s.S := ⟨_, rfl⟩
    have hB := HC.out.2.bnd
    have hbN : S.N ≤ 100 := by rw [hS]; exact hB.N
    have bv : S.vars ≤ 40 := by rw [hS]; exact hB.vars
    have bsi : S.sites ≤ 12 := by rw [hS]; exact hB.sites
    have bfi : S.fields ≤ 5 := by rw [hS]; exact hB.fields
    have e1 : s.vars = (S.vars : Int) := by rw [hS]; exact (Int.toNat_of_nonneg HV.out.2.vars).symm
    have e2 : s.sites = (S.sites : Int) := by rw [hS]; exact (Int.toNat_of_nonneg HV.out.2.sites).symm
    have e3 : s.fields = (S.fields : Int) := by rw [hS]; exact (Int.toNat_of_nonneg HV.out.2.fields).symm
    have hOk : S.Ok := by rw [hS]; exact HV.out.2.ok
    have hcons : S.cons = s.cons.map R.C := by rw [hS]; rfl
    have HS := Lib.hid (And.intro hS (And.intro hOk hcons))
    rw [e1] at d0
    rw [e2] at d1
    rw [e3] at d2
    have hN0 : (S.sites : Int) * (S.fields : Int) = ((S.sites * S.fields : Nat) : Int) := by simp
    have hNd : S.N = S.vars + S.sites * S.fields := rfl
    have hm0 : 0 ≤ (S.sites : Int) * (S.fields : Int) := by rw [hN0]; omega
    have hm1 : (S.sites : Int) * (S.fields : Int) ≤ 100 := by rw [hN0]; omega
    have hNN : Hid ((S.vars : Int) + (S.sites : Int) * (S.fields : Int) = (S.N : Int)) := Lib.hid (by rw [hN0, hNd]; simp)
    have HE := Lib.hid (And.intro e1 (And.intro e2 e3))
    rw [e1, e2, e3]
    obtain ⟨bs, hbs⟩ : ∃ bs, bs = W.heap.size := ⟨_, rfl⟩
    obtain ⟨br, hbr⟩ : ∃ br, br = W.heap.size + 1 := ⟨_, rfl⟩
    rw [← hbr] at p0 p1 f0 f1 bsz ⊢
    rw [← hbs] at d0 d1 d2 d3 ⊢
    have HBB := Lib.hid (And.intro hbs hbr)
    clear hbs hbr e1 e2 e3 hS hOk hcons hB hv HBS HG0 hNd hN0
    have hgt := grownBy_alloc W1 (.cells #[.int .i64 (S.vars : Int), .int .i64 (S.sites : Int), .int .i64 (S.fields : Int), .slice ca s.cons.length cc, .slice none 0 0, .bool true] 71)
    have x0 := hgt.cell d0 (by simp)
    have x1 := hgt.cell d1 (by simp)
    have x2 := hgt.cell d2 (by simp)
    clear hgt
    go_wp2_with fail
    refine wp_gen (fun Z => TbK S (.slice ca s.cons.length cc) W1.heap.size 0 none 0 [] Z ∧ Below W1.heap.size W1 Z) ⟨TbK.new S _ W1 _, (Below.refl _ _).alloc (Nat.le_refl _) _⟩ ?_
    rintro W2 h2
    have hbt : bs < W1.heap.size ∧ br < W1.heap.size := ⟨World.block_lt_of_cell? W1 _ d0, bsz⟩
    obtain ⟨tb, htb⟩ : ∃ tb, tb = W1.heap.size := ⟨_, rfl⟩
    rw [← htb] at h2 hbt
    have H2 := Lib.hid h2
    have HTW := Lib.hid htb
    have HR := Lib.hid (And.intro p0 (And.intro p1 (And.intro f0 f1)))
    have HD := Lib.hid (And.intro d0 (And.intro d1 (And.intro d2 d3)))
    rw [← htb]
    rw [hNN.out]
    clear hm0 hm1 hNN
    clear x0 x1 x2 h2 htb p0 p1 f0 f1 d0 d1 d2 d3 bsz
    obtain ⟨hbs, hbr⟩ := hbt
    go_loopw [7] (fun x wr => ∃ (k : Nat) (ha : Option Addr) (hc : Nat) (vs : List Value), k ≤ S.N ∧ x = .int .i64 k ∧ Hid (TbK S (.slice ca s.cons.length cc) tb k ha hc vs wr ∧ Below tb W1 wr)) (fun x _ => S.N - (intOf x).toNat)
    case atStart => exact ⟨0, none, 0, [], by omega, rfl, H2.out.1, H2.out.2⟩
    case round =>
      obtain ⟨k, ha, hc, vs, hk, rfl, hh⟩ := hrel
      by_cases hlt : k < S.N
      · have hs1 : wr.cell? ⟨bs, 1, none⟩ = some (.int .i64 (S.sites : Int)) := by rw [hh.out.2.cell (p := ⟨bs, 1, none⟩) hbs]; exact HD.out.2.1
        have hhas := hh.out.1.has
        have HQ := Lib.hid (And.intro hhas hs1)
        clear hs1 hhas
        go_wp2_with fail
        refine wp_region_mix [0, 1, 2, 3, 4, 5, 6] [7, 8, 9, 10, 11, 12] (fun w' => w'.cell? ⟨tb, 4, none⟩ = some (.slice ha k hc) ∧ w'.cell? ⟨bs, 1, none⟩ = some (.int .i64 (S.sites : Int))) (by kernel_rfl) (by kernel_rfl) (by kernel_rfl) ⟨(grownBy_drew0 _).cell HQ.out.1 (by simp), (grownBy_drew0 _).cell HQ.out.2 (by simp)⟩ ?_
        repeat (
          refine wpHeads_cons (v := ?_) rfl (Or.inl ⟨by rfl, ?_⟩) ?_
          rotate_left
          · (intro W hW; obtain ⟨q1, q2⟩ := hW; go_simp; try with_reducible rfl)
          simp only [Act.put, List.setIfInBounds_toArray])
        refine wpHeads_nil ?_
        refine wpTails_cons rfl ?_
        refine wp_make (f := Value.bool) false sBool rfl _ rfl _ _ rfl .i64 .i64 _ _ S.sites rfl rfl rfl rfl (by omega) (by unfold maxLen; omega) ?_
        intro ra rc W7 o7 q7
        have g7 : wr.grownBy W7 none := grownBy_trans (grownBy_drew0 _) (grownBy_below q7)
        have g8 : wr.grownBy (W7.alloc (.cells #[.slice ra S.sites rc] 49)) none := grownBy_trans g7 (grownBy_alloc _ _)
        have H7 := Lib.hid (And.intro o7 (And.intro g7 g8))
        refine tail_mk ⟨g7.cell HQ.out.1 (by simp), g7.cell HQ.out.2 (by simp)⟩ ?_
        clear o7 q7 g7 g8
        refine wpTails_cons rfl ?_
        go_wp2_with fail
        refine tail_mk ⟨H7.out.2.2.cell HQ.out.1 (by simp), H7.out.2.2.cell HQ.out.2 (by simp)⟩ ?_
        refine wpTails_cons rfl ?_
        have hvl : vs.length = k := by have := hh.out.1.own.len; simpa using this
        have htw : tb < wr.heap.size := World.block_lt_of_cell? wr _ hh.out.1.s0
        refine wp_appendS (f := fun x : Value => x) sBool2 rfl rfl _ _ rfl (tb + 1) (.slice ha k hc) vs rfl (.slice (some ⟨W7.heap.size, 0, none⟩) 1 1) [.slice ra S.sites rc] rfl (hh.out.1.own.out.grown H7.out.2.2 (by cases (Value.slice ha k hc).ownBlock <;> simp)) (src_one _ (cell_at1 rfl)) (by simp [Value.oneCell']) (by simp; omega) (by omega) (by have h1 := H7.out.2.2.size; omega) ?_
        intro v9 W9 o9 g9 l9
        obtain ⟨s9, c9, rfl⟩ := o9.shape (n := k + 1) (by simp; omega)
        obtain ⟨hf9, hc9, hK9⟩ := hh.out.1.push H7.out.2.2 (Own.alloc H7.out.1 _) o9 g9 l9
        have hob : ∀ m, (Value.slice ha k hc).ownBlock = some m → tb + 1 ≤ m := fun m hm => (hh.out.1.own.out.lt m hm).1
        have hs9 : W9.cell? ⟨bs, 1, none⟩ = some (.int .i64 (S.sites : Int)) := g9.cell (H7.out.2.2.cell HQ.out.2 (by simp)) (fun e => by have := hob bs e.symm; omega)
        have hsz : tb ≤ W1.heap.size := by rw [HTW.out]; exact Nat.le_refl _
        have b1 : Below tb W1 (W7.alloc (.cells #[.slice ra S.sites rc] 49)) := hh.out.2.grown H7.out.2.2 (Nat.le_trans hsz hh.out.2.size) (by simp)
        have b2 : Below tb W1 W9 := b1.grown g9 (Nat.le_trans hsz b1.size) (fun m hm => by have := hob m hm; omega)
        have b3 := b2.setCell (show tb ≤ (⟨tb, 4, none⟩ : Addr).block from Nat.le_refl _) (.slice s9 (k + 1) c9)
        have H9 := Lib.hid (And.intro hK9 b3)
        have hSS := And.intro hc9 hs9
        have HSS := Lib.hid hSS
        clear hK9 b1 b2 b3 o9 g9 l9 hob hs9 hvl htw hsz hSS
        refine tail_mk HSS.out ?_
        refine wpTails_cons rfl ?_
        go_wp2_with fail
        refine tail_mk HSS.out ?_
        refine wpTails_cons rfl ?_
        go_wp2_with fail
        refine tail_mk HSS.out ?_
        refine wpTails_one rfl ?_
        go_wp2_with fail
        refine thenQ_mk ?_
        clear hc9 hf9
        go_wp2_with fail
        go_roundw
        case rel => exact ⟨k + 1, s9, c9, _, by omega, by go_num, H9.out.1, H9.out.2⟩
        case measure => simp [intOf]; omega
      · obtain rfl : k = S.N := by omega
        have HM := Lib.hid (And.intro hh.out.1.done hh.out.2)
        clear hh hlt hk
        go_wp2_with fail
        go_loopg [8] (gas S (List.replicate S.N (List.replicate S.sites false)) true) (fun g x wr => ∃ M b, g = gas S M b ∧ Hid (TbL S (.slice ca s.cons.length cc) tb ha hc vs M b W1 wr))
        case atStart => exact ⟨_, _, rfl, HM.out.1, (fun i x hx => by rw [tp, tg_empty] at hx; cases hx), (fun h => by cases h), HM.out.2⟩
        case round =>
          obtain ⟨M, b, rfl, hh⟩ := hrel
          have hm := hh.out.mem.more
          have hfz := hh.out.mem.frz 5
          cases b
          · have HL := Lib.hid hh.out
            have hft : ∀ m, Foot (.slice ha S.N hc) vs m → m < wr.heap.size := fun m hm => (HL.out.mem.foot m hm).2
            have htp : tb < wr.heap.size := World.block_lt_of_cell? wr _ HL.out.mem.s0
            have HFT0 := Lib.hid hft
            clear hh hft
            go_wp2_with fail
            refine wp_gen (fun Z => TbM S (.slice ca s.cons.length cc) tb ha hc vs M false Z ∧ Gat S M wr.heap.size 0 0 none 0 [] none 0 [] Z ∧ Below tb W1 Z ∧ wr.heap.size < Z.heap.size) ⟨HL.out.mem.keep (grownBy_alloc _ _), Gat.new S M wr _, HL.out.bel.alloc (Nat.le_of_lt htp) _, by simp⟩ ?_
            rintro W6 h6
            obtain ⟨pb, hpb⟩ : ∃ pb, pb = wr.heap.size := ⟨_, rfl⟩
            have hft := HFT0.out
            rw [← hpb] at h6 hft htp ⊢
            have H6 := Lib.hid h6
            have HFT := Lib.hid hft
            have HTB := Lib.hid htp
            have HPB := Lib.hid h6.2.2.2
            clear h6 hft htp hpb HFT0 hm hfz
            go_loopw [10] (fun x w4 => ∃ (k n1 n2 : Nat) (a1 : Option Addr) (c1 : Nat) (vs1 : List Value) (a2 : Option Addr) (c2 : Nat) (vs2 : List Value), k ≤ S.N ∧ x = .int .i64 k ∧ Hid (n1 + n2 = k ∧ n1 ≤ S.vars ∧ (n2 = 0 ∨ n1 = S.vars)) ∧ Hid (TbM S (.slice ca s.cons.length cc) tb ha hc vs M false w4 ∧ Gat S M pb n1 n2 a1 c1 vs1 a2 c2 vs2 w4 ∧ Below pb W6 w4)) (fun x _ => S.N - (intOf x).toNat)
            case atStart => exact ⟨0, 0, 0, none, 0, [], none, 0, [], by omega, rfl, ⟨rfl, by omega, .inl rfl⟩, H6.out.1, H6.out.2.1, Below.refl _ _⟩
            case round =>
              obtain ⟨k, n1, n2, a1, c1, vs1, a2, c2, vs2, hk, rfl, hn, hh⟩ := hrel
              have HH := Lib.hid hh.out
              clear hh
              have hB6 : Below tb W1 wr := H6.out.2.2.1.trans (HH.out.2.2.mono (Nat.le_of_lt HTB.out))
              have d0 : wr.cell? ⟨bs, 0, none⟩ = some (.int .i64 (S.vars : Int)) := by rw [hB6.cell (p := ⟨bs, 0, none⟩) hbs]; exact HD.out.1
              have HB6 := Lib.hid hB6
              clear hB6
              by_cases hlt : k < S.N
              · by_cases hv : k < S.vars
                · obtain rfl : k = n1 := by have := hn.out; omega
                  obtain rfl : 0 = n2 := by have := hn.out; omega
                  go_wp2_with fail
                  have hp := HH.out.2.1.p0
                  refine wp_region_mix [0, 1, 2, 3] [4, 5, 6, 7, 8] (fun w' => w'.cell? ⟨pb, 0, none⟩ = some (.slice a1 k c1)) (by kernel_rfl) (by kernel_rfl) (by kernel_rfl) ((grownBy_drew0 _).cell hp (by simp)) ?_
                  repeat (
                    refine wpHeads_cons (v := ?_) rfl (Or.inl ⟨by rfl, ?_⟩) ?_
                    rotate_left
                    · (intro W q1; go_simp; try with_reducible rfl)
                    simp only [Act.put, List.setIfInBounds_toArray])
                  refine wpHeads_nil ?_
                  refine wpTails_cons rfl ?_
                  go_wp2_with fail
                  refine (tlist_any (HH.out.1.keep (grownBy_drew0 _)) k hlt (by omega)).mono ?_
                  rintro e W7 ⟨ra, rn, rc, rfl, o7, q7⟩
                  have g7 : wr.grownBy W7 none := grownBy_trans (grownBy_drew0 _) (grownBy_below q7)
                  have g8 : wr.grownBy (W7.alloc (.cells #[.slice ra rn rc] 27)) none := grownBy_trans g7 (grownBy_alloc _ _)
                  have H7 := Lib.hid (And.intro o7 (And.intro g7 g8))
                  have c7 := g7.cell hp (by simp)
                  clear hp o7 q7 g7 g8
                  go_wp2_with fail
                  refine tail_mk c7 ?_
                  refine wpTails_cons rfl ?_
                  go_wp2_with fail
                  refine tail_mk ((grownBy_alloc _ _).cell c7 (by simp)) ?_
                  refine wpTails_cons rfl ?_
                  refine wp_appendS (f := fun x : Value => x) sInt2 rfl rfl _ _ rfl (pb + 1) (.slice a1 k c1) vs1 rfl (.slice (some ⟨W7.heap.size, 0, none⟩) 1 1) [.slice ra rn rc] rfl (HH.out.2.1.o1.out.grown (H7.out.2.2) (by cases (Value.slice a1 k c1).ownBlock <;> simp)) (src_one _ (cell_at1 rfl)) (by simp [Value.oneCell']) (by have := HH.out.2.1.o1.len; rw [rowsOf_len] at this; simp; omega) (by omega) (by have h1 := H7.out.2.2.size; have h2 : pb < wr.heap.size := World.block_lt_of_cell? wr _ HH.out.2.1.p0; omega) ?_
                  intro v9 W9 o9 g9 l9
                  obtain ⟨s9, c9, rfl⟩ := o9.shape (n := k + 1) (by have := HH.out.2.1.o1.len; rw [rowsOf_len] at this; simp; omega)
                  have hpu := HH.out.2.1.push1 (H7.out.2.2) (by have h := H7.out.1.alloc (.cells #[.slice ra rn rc] 27); skip; exact h.mono (Nat.le_refl _)) o9 g9 l9
                  obtain ⟨e0, e1, ef⟩ := HH.out.2.1.cells H7.out.2.2 (v := .slice a1 k c1) (.inl rfl) g9
                  have ef0 := ef 0
                  have hTM : TbM S (.slice ca s.cons.length cc) tb ha hc vs M false (W9.setCell ⟨pb, 0, none⟩ (.slice s9 (k + 1) c9)) := by
                    have hpbf : ∀ m, (Value.slice a1 k c1).ownBlock = some m → pb < m := fun m hm => (HH.out.2.1.o1.out.lt m hm).1
                    have hfo : ∀ m, Foot (.slice ha S.N hc) vs m → m < pb := HFT.out
                    have htbp := HTB.out
                    refine ((HH.out.1.keep H7.out.2.2).grown g9 fun m hm => ?_).grown (grownBy_setCell _ _ _) fun m hm => ?_
                    · have := hpbf m hm
                      exact ⟨by omega, fun hf => by have := hfo m hf; omega⟩
                    · simp at hm
                      exact ⟨by omega, fun hf => by have := hfo m hf; omega⟩
                  have hBL : Below pb W6 (W9.setCell ⟨pb, 0, none⟩ (.slice s9 (k + 1) c9)) := by
                    have hsz : pb ≤ W6.heap.size := Nat.le_of_lt HPB.out
                    have b1 : Below pb W6 (W7.alloc (.cells #[.slice ra rn rc] 27)) := HH.out.2.2.grown H7.out.2.2 (Nat.le_trans hsz HH.out.2.2.size) (by simp)
                    have b2 : Below pb W6 W9 := b1.grown g9 (Nat.le_trans hsz b1.size) (fun m hm => by have := (HH.out.2.1.o1.out.lt m hm).1; omega)
                    exact b2.setCell (show pb ≤ (⟨pb, 0, none⟩ : Addr).block from Nat.le_refl _) _
                  have H9 := Lib.hid (And.intro hTM (And.intro hpu hBL))
                  clear hTM hpu hBL ef o9 g9 l9
                  refine tail_mk e0 ?_
                  refine wpTails_cons rfl ?_
                  go_wp2_with fail
                  refine tail_mk e0 ?_
                  refine wpTails_one rfl ?_
                  go_wp2_with fail
                  refine thenQ_mk ?_
                  clear e0 e1 ef0 c7
                  go_wp2_with fail
                  go_roundw
                  case rel => exact ⟨k + 1, k + 1, 0, s9, c9, _, a2, c2, vs2, by omega, by go_num, ⟨rfl, by omega, .inl rfl⟩, H9.out.1, H9.out.2.1, H9.out.2.2⟩
                  case measure => simp [intOf]; omega
                · obtain rfl : S.vars = n1 := by have := hn.out; omega
                  have hkn : k = S.vars + n2 := by have := hn.out; omega
                  have HKN := Lib.hid hkn
                  have hn2b : n2 ≤ 100 := by omega
                  clear hkn
                  go_wp2_with fail
                  have hp := HH.out.2.1.p1
                  refine wp_region_mix [0, 1, 2, 3] [4, 5, 6, 7, 8] (fun w' => w'.cell? ⟨pb, 1, none⟩ = some (.slice a2 n2 c2)) (by kernel_rfl) (by kernel_rfl) (by kernel_rfl) ((grownBy_drew0 _).cell hp (by simp)) ?_
                  repeat (
                    refine wpHeads_cons (v := ?_) rfl (Or.inl ⟨by rfl, ?_⟩) ?_
                    rotate_left
                    · (intro W q1; go_simp; try with_reducible rfl)
                    simp only [Act.put, List.setIfInBounds_toArray])
                  refine wpHeads_nil ?_
                  refine wpTails_cons rfl ?_
                  go_wp2_with fail
                  refine (tlist_any (HH.out.1.keep (grownBy_drew0 _)) k hlt (by omega)).mono ?_
                  rintro e W7 ⟨ra, rn, rc, rfl, o7, q7⟩
                  have g7 : wr.grownBy W7 none := grownBy_trans (grownBy_drew0 _) (grownBy_below q7)
                  have g8 : wr.grownBy (W7.alloc (.cells #[.slice ra rn rc] 27)) none := grownBy_trans g7 (grownBy_alloc _ _)
                  have H7 := Lib.hid (And.intro o7 (And.intro g7 g8))
                  have c7 := g7.cell hp (by simp)
                  clear hp o7 q7 g7 g8
                  go_wp2_with fail
                  refine tail_mk c7 ?_
                  refine wpTails_cons rfl ?_
                  go_wp2_with fail
                  refine tail_mk ((grownBy_alloc _ _).cell c7 (by simp)) ?_
                  refine wpTails_cons rfl ?_
                  refine wp_appendS (f := fun x : Value => x) sInt2 rfl rfl _ _ rfl (pb + 1) (.slice a2 n2 c2) vs2 rfl (.slice (some ⟨W7.heap.size, 0, none⟩) 1 1) [.slice ra rn rc] rfl (HH.out.2.1.o2.out.grown (H7.out.2.2) (by cases (Value.slice a2 n2 c2).ownBlock <;> simp)) (src_one _ (cell_at1 rfl)) (by simp [Value.oneCell']) (by have := HH.out.2.1.o2.len; rw [rowsOf_len] at this; simp; omega) (by omega) (by have h1 := H7.out.2.2.size; have h2 : pb < wr.heap.size := World.block_lt_of_cell? wr _ HH.out.2.1.p0; omega) ?_
                  intro v9 W9 o9 g9 l9
                  obtain ⟨s9, c9, rfl⟩ := o9.shape (n := n2 + 1) (by have := HH.out.2.1.o2.len; rw [rowsOf_len] at this; simp; omega)
                  have hpu := HH.out.2.1.push2 (H7.out.2.2) (by have h := H7.out.1.alloc (.cells #[.slice ra rn rc] 27); rw [HKN.out] at h; exact h.mono (Nat.le_refl _)) o9 g9 l9
                  obtain ⟨e0, e1, ef⟩ := HH.out.2.1.cells H7.out.2.2 (v := .slice a2 n2 c2) (.inr rfl) g9
                  have ef0 := ef 1
                  have hTM : TbM S (.slice ca s.cons.length cc) tb ha hc vs M false (W9.setCell ⟨pb, 1, none⟩ (.slice s9 (n2 + 1) c9)) := by
                    have hpbf : ∀ m, (Value.slice a2 n2 c2).ownBlock = some m → pb < m := fun m hm => (HH.out.2.1.o2.out.lt m hm).1
                    have hfo : ∀ m, Foot (.slice ha S.N hc) vs m → m < pb := HFT.out
                    have htbp := HTB.out
                    refine ((HH.out.1.keep H7.out.2.2).grown g9 fun m hm => ?_).grown (grownBy_setCell _ _ _) fun m hm => ?_
                    · have := hpbf m hm
                      exact ⟨by omega, fun hf => by have := hfo m hf; omega⟩
                    · simp at hm
                      exact ⟨by omega, fun hf => by have := hfo m hf; omega⟩
                  have hBL : Below pb W6 (W9.setCell ⟨pb, 1, none⟩ (.slice s9 (n2 + 1) c9)) := by
                    have hsz : pb ≤ W6.heap.size := Nat.le_of_lt HPB.out
                    have b1 : Below pb W6 (W7.alloc (.cells #[.slice ra rn rc] 27)) := HH.out.2.2.grown H7.out.2.2 (Nat.le_trans hsz HH.out.2.2.size) (by simp)
                    have b2 : Below pb W6 W9 := b1.grown g9 (Nat.le_trans hsz b1.size) (fun m hm => by have := (HH.out.2.1.o2.out.lt m hm).1; omega)
                    exact b2.setCell (show pb ≤ (⟨pb, 1, none⟩ : Addr).block from Nat.le_refl _) _
                  have H9 := Lib.hid (And.intro hTM (And.intro hpu hBL))
                  clear hTM hpu hBL ef o9 g9 l9
                  refine tail_mk e1 ?_
                  refine wpTails_cons rfl ?_
                  go_wp2_with fail
                  refine tail_mk e1 ?_
                  refine wpTails_one rfl ?_
                  go_wp2_with fail
                  refine thenQ_mk ?_
                  clear e0 e1 ef0 c7
                  go_wp2_with fail
                  go_roundw
                  case rel => exact ⟨k + 1, S.vars, n2 + 1, a1, c1, vs1, s9, c9, _, by omega, by go_num, ⟨by have := HKN.out; omega, by omega, .inr rfl⟩, H9.out.1, H9.out.2.1, H9.out.2.2⟩
                  case measure => simp [intOf]; omega
              · obtain rfl : k = S.N := by omega
                obtain ⟨rfl, hn2⟩ : S.vars = n1 ∧ S.sites * S.fields = n2 := by
                  have := hn.out
                  have hNd : S.N = S.vars + S.sites * S.fields := rfl
                  omega
                obtain ⟨q0, q1, -⟩ := HH.out.2.1
                have r0 : wr.cell? ⟨br, 0, none⟩ = some (.slice none 0 0) := by rw [HB6.out.cell (p := ⟨br, 0, none⟩) hbr]; exact HR.out.1
                have r1 : wr.cell? ⟨br, 1, none⟩ = some (.slice none 0 0) := by rw [HB6.out.cell (p := ⟨br, 1, none⟩) hbr]; exact HR.out.2.1
                have f0 : wr.frozen? ⟨br, 0, none⟩ = false := by rw [HB6.out.frozen (p := ⟨br, 0, none⟩) hbr]; exact HR.out.2.2.1
                have f1 : wr.frozen? ⟨br, 1, none⟩ = false := by rw [HB6.out.frozen (p := ⟨br, 1, none⟩) hbr]; exact HR.out.2.2.2
                have HN2 := Lib.hid hn2
                clear hn2 hlt hk
                go_wp2_with fail
                (try simp only [Exit.inBlock, Exit.then])
                refine bodyPost_ret (v := .tuple #[.agg #[.slice a1 S.vars c1, .slice a2 n2 c2], .int .i64 0]) (by rw [results_cell_tmp rfl]; go_simp; try rfl) rfl ?_
                have gf := grownBy_trans (grownBy_setCell wr ⟨br, 0, none⟩ (.slice a1 S.vars c1)) (grownBy_setCell (wr.setCell ⟨br, 0, none⟩ (.slice a1 S.vars c1)) ⟨br, 1, none⟩ (.slice a2 n2 c2))
                have htb := HTB.out
                have G1 := (HH.out.2.1.o1.grown kInt gf fun k e hf => by simp at e; have := (HH.out.2.1.o1.foot kInt k hf).1; omega).grid
                have G2 := (HH.out.2.1.o2.grown kInt gf fun k e hf => by simp at e; have := (HH.out.2.1.o2.foot kInt k hf).1; omega).grid
                have hsol := sol_of_table HS.out.2.1 HL.out.sub (HL.out.shut rfl)
                rw [← HN2.out] at G1 G2 ⊢
                refine .inr ⟨HV.out.1, a1, c1, a2, c2, rowsOf S M 0 S.vars, rowsOf S M S.vars (S.sites * S.fields), by rw [← HS.out.1], by rw [← HS.out.1]; exact ⟨⟨_, G1⟩, ⟨_, G2⟩⟩, by rw [← HS.out.1]; exact ⟨rowsOf_len _ _ _ _, rowsOf_len _ _ _ _, fun i hi => by rw [rowsOf_nth _ _ _ _ _ hi, Nat.zero_add]; exact hsol i, fun i hi => by rw [rowsOf_nth _ _ _ _ _ hi]; exact hsol _⟩, ?_⟩
                have hbb := HBB.out
                have hb6 : Below W.heap.size W wr := H1.out.trans (HB6.out.mono (by omega))
                exact (hb6.setCell (show W.heap.size ≤ (⟨br, 0, none⟩ : Addr).block by show W.heap.size ≤ br; omega) _).setCell (show W.heap.size ≤ (⟨br, 1, none⟩ : Addr).block by show W.heap.size ≤ br; omega) _
          · have HL := Lib.hid hh.out
            clear hh
            go_wp2_with fail
            refine wp_gen (fun Z => TbM S (.slice ca s.cons.length cc) tb ha hc vs M false Z ∧ Below tb W1 Z) ⟨HL.out.mem.mark false, HL.out.bel.setCell (show tb ≤ (⟨tb, 5, none⟩ : Addr).block from Nat.le_refl _) _⟩ ?_
            rintro W3 h3
            have H3 := Lib.hid h3
            clear h3 hm hfz
            go_loopw [8] (fun x w4 => ∃ (k : Nat) (M' : List (List Bool)) (b' : Bool), k ≤ s.cons.length ∧ x = .int .i64 k ∧ Hid (TbM S (.slice ca s.cons.length cc) tb ha hc vs M' b' w4 ∧ TStp S.N S.sites (fun p => ∀ i, i < k → Holds S p (nth S.cons i)) M M' false b' ∧ Kpt tb (.slice ha S.N hc) vs W3 w4)) (fun x _ => s.cons.length - (intOf x).toNat)
            case atStart => exact ⟨0, M, false, by omega, rfl, H3.out.1, TStp.refl H3.out.1.shp fun _ i hi => by omega, Kpt.refl _⟩
            case round =>
              obtain ⟨k, M', b', hk, rfl, hh⟩ := hrel
              have hB4 : Below tb W1 wr := H3.out.2.trans (Kpt.below H3.out.1 hh.out.2.2)
              have d3 : wr.cell? ⟨bs, 3, none⟩ = some (.slice ca s.cons.length cc) := by rw [hB4.cell (p := ⟨bs, 3, none⟩) hbs]; exact HD.out.2.2.2
              have HB4 := Lib.hid hB4
              clear hB4
              by_cases hlt : k < s.cons.length
              · have hBW : Below W.heap.size W wr := H1.out.trans (HB4.out.mono (by have := HBB.out; omega))
                obtain ⟨sa, sn, sc, q0, q1, q2, q3, q4, hI, hblk⟩ := HCC.out k hlt
                have hvc := HV.out.2.cons _ (nth_mem _ _ hlt)
                obtain ⟨c, hcd⟩ : ∃ c, c = (nth s.cons k).C := ⟨_, rfl⟩
                have e0 : (nth s.cons k).k = (c.k : Int) := by rw [hcd]; have := hvc.kind; show _ = ((nth s.cons k).k.toNat : Int); omega
                have e1 : (nth s.cons k).a = (c.a : Int) := by rw [hcd]; have := hvc.a.1; show _ = ((nth s.cons k).a.toNat : Int); omega
                have e2 : (nth s.cons k).b = (c.b : Int) := by rw [hcd]; have := hvc.b.1; show _ = ((nth s.cons k).b.toNat : Int); omega
                have e3 : (nth s.cons k).f = (c.f : Int) := by rw [hcd]; have := hvc.f'; show _ = ((nth s.cons k).f.toNat : Int); omega
                have e4 : (nth s.cons k).s = c.s.map fun x : Nat => (x : Int) := by rw [hcd]; exact (cast_toNat fun x hx => (hvc.s x hx).1).symm
                have hsl : c.s.length ≤ 12 := by rw [hcd]; exact hvc.slen HC.out.2.sites
                have hcS : nth S.cons k = c := by rw [HS.out.2.2, nth_map' _ _ _ hlt, hcd]
                have hOkc : c.Ok S := HS.out.2.1 c (by rw [← hcS]; exact nth_mem _ _ (by rw [HS.out.2.2]; simpa using hlt))
                rw [e4] at hI
                obtain ⟨a8, c8, e8, -⟩ := id hI
                simp only [Value.slice.injEq, List.length_map] at e8
                obtain ⟨rfl, rfl, rfl⟩ := e8
                have p0 : wr.cell? ⟨blk ca, ofs ca + k * 5, none⟩ = some (.int .i64 (c.k : Int)) := by rw [hBW.cell (p := ⟨blk ca, ofs ca + k * 5, none⟩) hblk, q0, e0]
                have p1 : wr.cell? ⟨blk ca, ofs ca + k * 5 + 1, none⟩ = some (.int .i64 (c.a : Int)) := by rw [hBW.cell (p := ⟨blk ca, ofs ca + k * 5 + 1, none⟩) hblk, q1, e1]
                have p2 : wr.cell? ⟨blk ca, ofs ca + k * 5 + 2, none⟩ = some (.int .i64 (c.b : Int)) := by rw [hBW.cell (p := ⟨blk ca, ofs ca + k * 5 + 2, none⟩) hblk, q2, e2]
                have p3 : wr.cell? ⟨blk ca, ofs ca + k * 5 + 3, none⟩ = some (.int .i64 (c.f : Int)) := by rw [hBW.cell (p := ⟨blk ca, ofs ca + k * 5 + 3, none⟩) hblk, q3, e3]
                have p4 : wr.cell? ⟨blk ca, ofs ca + k * 5 + 4, none⟩ = some (.slice sa c.s.length sc) := by rw [hBW.cell (p := ⟨blk ca, ofs ca + k * 5 + 4, none⟩) hblk, q4]
                have hset : ∀ Z, Below tb wr Z → Ints Z (.slice sa c.s.length sc) (c.s.map fun x : Nat => (x : Int)) := fun Z hZ => hI.below (hBW.trans (hZ.mono (by have := HBB.out; omega)))
                have H4 := Lib.hid (And.intro hset (And.intro hOkc hcS))
                clear hset hOkc hcS e0 e1 e2 e3 e4 q0 q1 q2 q3 q4 hI hblk hvc hcd hBW
                go_wp2_with fail
                refine (tapply_any hh.out.1 c H4.out.2.1 ⟨bv, bsi, bfi, hbN⟩ sa sc H4.out.1 (by omega)).mono ?_
                rintro e W8 ⟨⟨v2, rfl⟩, M2, b2, hT2, hS2, hK2⟩
                have H8 := Lib.hid (And.intro hT2 (And.intro hS2 hK2))
                clear hT2 hS2 hK2
                go_wp2_with fail
                go_roundw
                case rel => exact ⟨k + 1, M2, b2, by omega, by go_num, H8.out.1, hh.out.2.1.thenW H8.out.2.1 _ (fun p hp i hi => hp i (by omega)) (fun p hs hp => by have := hp k (by omega); rw [H4.out.2.2] at this; exact this) (fun hF hG i hi => by
                  by_cases e : i = k
                  · subst e; rw [H4.out.2.2]; exact hG
                  · exact hF i (by omega)), hh.out.2.2.trans H8.out.2.2⟩
                case measure => simp [intOf]; omega
              · obtain rfl : k = s.cons.length := by omega
                have HH := Lib.hid hh.out
                clear hh
                go_wp2_with fail
                go_roundg (gas S M' b')
                case measure => exact gas_lt HL.out.mem.shp HH.out.2.1
                case rel =>
                  have hSc : S.cons.length = s.cons.length := by rw [HS.out.2.2, List.length_map]
                  refine ⟨M', b', rfl, HH.out.1, HH.out.2.1.snd _ HL.out.sub (fun i hi => pts_shut S _ (nth_mem _ _ (by omega))), fun hb c hc => ?_, HB4.out⟩
                  obtain ⟨-, h2, h3⟩ := HH.out.2.1.same hb
                  subst h2
                  obtain ⟨i, hi, rfl⟩ := mem_nth hc
                  exact h3 i (by omega)
  · have hz : (chkCode s != 0) = true := by simpa using h0
    have HZ := Lib.hid h0
    generalize hcd : chkCode s = code at *
    have HCD := Lib.hid hcd
    clear hcd h0
    go_wp2_with fail
    (try simp only [Exit.inBlock, Exit.then])
    refine bodyPost_ret (v := .tuple #[.agg #[.slice none 0 0, .slice none 0 0], .int .i64 code]) (by rw [results_cell_tmp rfl]; go_simp; try rfl) rfl ?_
    refine .inl ⟨by rw [HCD.out]; exact HZ.out, by rw [HCD.out], ?_⟩
    exact (H1.out.setCell (show W.heap.size ≤ (⟨W.heap.size + 1, 0, none⟩ : Addr).block by simp) _).setCell (show W.heap.size ≤ (⟨W.heap.size + 1, 1, none⟩ : Addr).block by simp) _
end Go.Proofs.Ytkfhopnolflchaa
