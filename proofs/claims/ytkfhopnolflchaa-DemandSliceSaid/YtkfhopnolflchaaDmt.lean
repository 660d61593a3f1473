/- Contract of a demand query's slice. -/
import Derived.Test.YtkfhopnolflchaaDms
namespace Go.Proofs.Ytkfhopnolflchaa
open Go.RowKit Go.Dfl Go.And

def CutR (s : Sy) (vl fl : List Bool) (W : World) (e : Ending) (W' : World) : Prop := ∃ ra rc, e = .returned (SysV (s.cut vl fl) (.slice ra (s.cut vl fl).cons.length rc)) ∧ (∀ Z row, W'.grownBy Z row → (∀ k, row = some k → k < W.heap.size) → ConsIn Z (.slice ra (s.cut vl fl).cons.length rc) (s.cut vl fl).cons) ∧ Below W.heap.size W W'

theorem VldC.slen' {s : Sy} {c : R} (h : VldC s c) (hs : s.sites ≤ 12) : c.C.s.length ≤ 12 := by
  have hp : (c.s.map Int.toNat).Pairwise (· < ·) := by
    rw [List.pairwise_map]
    exact h.asc.imp_of_mem fun {a b} ha hb hab => by have h1 := h.s a ha; have h2 := h.s b hb; omega
  exact sorted_len' (n := 12) hp fun x hx => by obtain ⟨y, hy, rfl⟩ := List.mem_map.1 hx; have := h.s y hy; omega
theorem lst_rd {W : World} {va : Option Addr} {n vc : Nat} {vl : List Bool} (h : Lst Value.bool W (.slice va n vc) vl) (hl : vl.length = n) : n ≤ 9223372036854775807 ∧ (∀ (k : IntKind) (x : Int), 0 ≤ x → x < n → ∀ Z, (Instr.indexAt 49 (.slice va n vc) (.int k x)).run Try.prog Z = .ok (.pointer (some ⟨blk va, ofs va + x.toNat, none⟩)) Z) ∧
    ∀ Z, Below W.heap.size W Z → ∀ x, x < n → Z.cell? ⟨blk va, ofs va + x, none⟩ = some (.bool (nth vl x)) := by
  obtain ⟨a, c, e, hm, i1, d1, lt1⟩ := h.out1 sBoolD
  simp only [Value.slice.injEq] at e
  obtain ⟨rfl, -, rfl⟩ := e
  rw [hl] at i1 d1 hm lt1
  exact ⟨hm, i1, fun Z hb x hx => by rw [hb.cell (p := ⟨blk va, ofs va + x, none⟩) (lt1 x hx)]; exact d1 x hx⟩
theorem blk_keep {w : World} {o x : Obj} {k : Nat} (h : w.heap[k]? = some x) : (w.alloc o).heap[k]? = some x := by
  rw [Below.heap_alloc w o k (Array.getElem?_eq_some_iff.1 h).1]; exact h
theorem frozen_new (W : World) (cs : Array Value) (t : TypeId) (j : Nat) : (W.alloc (.cells cs t)).frozen? ⟨W.heap.size, j, none⟩ = false := by
  have hb := heap_alloc_new W (.cells cs t)
  simp only [World.frozen?, hb]
  first | rfl | simp
theorem take_filter {s : Sy} {vl fl : List Bool} {k : Nat} (h : k < s.cons.length) : (s.cons.take (k + 1)).filter (keepB vl fl) = (s.cons.take k).filter (keepB vl fl) ++ (if keepB vl fl (nth s.cons k) = true then [nth s.cons k] else []) := by
  rw [take_snoc _ _ h, List.filter_append]
  congr 1
  by_cases hk : keepB vl fl (nth s.cons k) = true <;> simp [hk]

set_option maxHeartbeats 6400000 in
set_option maxRecDepth 100000 in
theorem slice_any (s : Sy) (cv : Value) (va : Option Addr) (vc : Nat) (fa : Option Addr) (fc : Nat) (cnt : Int) (vl fl : List Bool) (W : World) (hc : ConsIn W cv s.cons) (hs : Sm s) (hv : Vld s) (hl1 : Lst Value.bool W (.slice va s.S.vars vc) vl) (hl2 : Lst Value.bool W (.slice fa s.S.fields fc) fl) (lv : vl.length = s.S.vars) (lf : fl.length = s.S.fields) :
    Calls Try.prog 24 #[SysV s cv, .agg #[.slice va s.S.vars vc, .slice fa s.S.fields fc, .int .i64 cnt]] W (CutR s vl fl W) := by
  obtain ⟨ca, cc, rfl, hlen, hci, hcc⟩ := hc.out
  have HC := Lib.hid (And.intro hc (And.intro hs hv))
  have hcn := hs.cons
  obtain ⟨mv, vi, vcell⟩ := lst_rd hl1 lv
  obtain ⟨mf, fi, fcell⟩ := lst_rd hl2 lf
  have HV := Lib.hid (And.intro vcell fcell)
  have hOk := hv.ok
  generalize hSS : s.S = S at *
  have HS := Lib.hid (And.intro hSS hOk)
  clear hc hcc hs hv hl1 hl2 lv lf vcell fcell hSS hOk
  unfold SysV
  have h0 : SlM s (W.heap.size + 1 + 1 + 1) none 0 [] [] ((((W.alloc (.cells #[.int .i64 s.vars, .int .i64 s.sites, .int .i64 s.fields, .slice ca s.cons.length cc] 24)).alloc (.cells #[.slice va S.vars vc, .slice fa S.fields fc, .int .i64 cnt] 51)).alloc (.cells #[.int .i64 0, .int .i64 0, .int .i64 0, .slice none 0 0] 24)).alloc (.cells #[.int .i64 s.vars, .int .i64 s.sites, .int .i64 s.fields, .slice none 0 0] 24)) := by
    have := SlM.new s (((W.alloc (.cells #[.int .i64 s.vars, .int .i64 s.sites, .int .i64 s.fields, .slice ca s.cons.length cc] 24)).alloc (.cells #[.slice va S.vars vc, .slice fa S.fields fc, .int .i64 cnt] 51)).alloc (.cells #[.int .i64 0, .int .i64 0, .int .i64 0, .slice none 0 0] 24)) 24
    simpa using this
  have hq : ((((W.alloc (.cells #[.int .i64 s.vars, .int .i64 s.sites, .int .i64 s.fields, .slice ca s.cons.length cc] 24)).alloc (.cells #[.slice va S.vars vc, .slice fa S.fields fc, .int .i64 cnt] 51)).alloc (.cells #[.int .i64 0, .int .i64 0, .int .i64 0, .slice none 0 0] 24)).alloc (.cells #[.int .i64 s.vars, .int .i64 s.sites, .int .i64 s.fields, .slice none 0 0] 24)).heap[W.heap.size + 1]? = some (.cells #[.slice va S.vars vc, .slice fa S.fields fc, .int .i64 cnt] 51) := by
    refine blk_keep (blk_keep ?_)
    have := heap_alloc_new (W.alloc (.cells #[.int .i64 s.vars, .int .i64 s.sites, .int .i64 s.fields, .slice ca s.cons.length cc] 24)) (.cells #[.slice va S.vars vc, .slice fa S.fields fc, .int .i64 cnt] 51)
    rwa [World.size_alloc] at this
  have hr : ((((W.alloc (.cells #[.int .i64 s.vars, .int .i64 s.sites, .int .i64 s.fields, .slice ca s.cons.length cc] 24)).alloc (.cells #[.slice va S.vars vc, .slice fa S.fields fc, .int .i64 cnt] 51)).alloc (.cells #[.int .i64 0, .int .i64 0, .int .i64 0, .slice none 0 0] 24)).alloc (.cells #[.int .i64 s.vars, .int .i64 s.sites, .int .i64 s.fields, .slice none 0 0] 24)).heap[W.heap.size + 1 + 1]? = some (.cells #[.int .i64 0, .int .i64 0, .int .i64 0, .slice none 0 0] 24) := by
    refine blk_keep ?_
    have := heap_alloc_new ((W.alloc (.cells #[.int .i64 s.vars, .int .i64 s.sites, .int .i64 s.fields, .slice ca s.cons.length cc] 24)).alloc (.cells #[.slice va S.vars vc, .slice fa S.fields fc, .int .i64 cnt] 51)) (.cells #[.int .i64 0, .int .i64 0, .int .i64 0, .slice none 0 0] 24)
    rwa [World.size_alloc, World.size_alloc] at this
  have hbl : Below W.heap.size W ((((W.alloc (.cells #[.int .i64 s.vars, .int .i64 s.sites, .int .i64 s.fields, .slice ca s.cons.length cc] 24)).alloc (.cells #[.slice va S.vars vc, .slice fa S.fields fc, .int .i64 cnt] 51)).alloc (.cells #[.int .i64 0, .int .i64 0, .int .i64 0, .slice none 0 0] 24)).alloc (.cells #[.int .i64 s.vars, .int .i64 s.sites, .int .i64 s.fields, .slice none 0 0] 24)) := ((((Below.refl W.heap.size W).alloc (Nat.le_refl _) _).alloc (by simp) _).alloc (by simp; omega) _).alloc (by simp; omega) _
  have H0 := Lib.hid (And.intro h0 (And.intro hq (And.intro hr hbl)))
  clear h0 hq hr hbl
  go_enter Try.func24, Try.ntmps24
  go_wp2_with fail
  refine wp_gen (fun Z => SlM s (W.heap.size + 1 + 1 + 1) none 0 [] [] Z ∧ Z.heap[W.heap.size + 1]? = some (.cells #[.slice va S.vars vc, .slice fa S.fields fc, .int .i64 cnt] 51) ∧ Z.heap[W.heap.size + 1 + 1]? = some (.cells #[.int .i64 0, .int .i64 0, .int .i64 0, .slice none 0 0] 24) ∧ Below W.heap.size W Z) H0.out ?_
  rintro Z0 hZ0
  obtain ⟨bs, hbs⟩ : ∃ b, b = W.heap.size := ⟨_, rfl⟩
  obtain ⟨bq, hbq⟩ : ∃ b, b = W.heap.size + 1 := ⟨_, rfl⟩
  obtain ⟨br, hbr⟩ : ∃ b, b = W.heap.size + 1 + 1 := ⟨_, rfl⟩
  obtain ⟨bo, hbo⟩ : ∃ b, b = W.heap.size + 1 + 1 + 1 := ⟨_, rfl⟩
  rw [← hbo, ← hbr, ← hbq] at hZ0
  rw [← hbo, ← hbr, ← hbq, ← hbs]
  have HB0 := Lib.hid (show bo ≤ bo ∧ W.heap.size ≤ bo ∧ bq < bo ∧ br < bo ∧ W.heap.size ≤ br from ⟨by omega, by omega, by omega, by omega, by omega⟩)
  have HZ0 := Lib.hid hZ0
  have HW0 := Lib.hid hZ0.2.2.2
  have HBO : Hid (bo ≤ bo) := Lib.hid (Nat.le_refl _)
  clear hbs hbq hbr hbo hZ0 H0
  go_loopw [7, 18] (fun _ x wr => ∃ (k : Nat) (ra : Option Addr) (rc : Nat) (rs : List RC), k ≤ s.cons.length ∧ x = .int .i64 k ∧ Hid (SlM s bo ra rc rs ((s.cons.take k).filter (keepB vl fl)) wr ∧ Below bo Z0 wr)) (fun _ x _ => s.cons.length - (intOf x).toNat)
  case atStart => exact ⟨0, none, 0, [], by omega, rfl, HZ0.out.1, Below.refl _ _⟩
  case round =>
    obtain ⟨k, ra, rc, rs, hk, rfl, hh⟩ := hrel
    have hszb : bo ≤ wr.heap.size := Nat.le_of_lt (World.block_lt_of_cell? wr _ hh.out.1.o0)
    have HBO := Lib.hid hszb
    clear hszb
    have hWw : Below W.heap.size W wr := HW0.out.trans (hh.out.2.mono HB0.out.2.1)
    have hqb : wr.heap[bq]? = some (.cells #[.slice va S.vars vc, .slice fa S.fields fc, .int .i64 cnt] 51) := (hh.out.2.block bq HB0.out.2.2.1).trans HZ0.out.2.1
    have z0 : wr.cell? ⟨bq, 0, none⟩ = some (.slice va S.vars vc) := by simp [World.cell?, hqb]
    have z1 : wr.cell? ⟨bq, 1, none⟩ = some (.slice fa S.fields fc) := by simp [World.cell?, hqb]
    have HWW := Lib.hid hWw
    have n0 : bq < wr.heap.size := World.block_lt_of_cell? wr _ z0
    have n1 : bq ≠ wr.heap.size := by omega
    clear hqb hWw
    by_cases hlt : k < s.cons.length
    · obtain ⟨sa, sc, hcell⟩ := cons_cells HC.out.1 HC.out.2.2 hlt
      rw [HS.out.1] at hcell
      obtain ⟨p0, p1, p2, p3, p4, -⟩ := hcell wr HWW.out
      have hcS : nth s.S.cons k = (nth s.cons k).C := nth_map' _ _ _ hlt
      rw [HS.out.1] at hcS
      have hjS : k < S.cons.length := by rw [← HS.out.1]; show k < (s.cons.map R.C).length; rw [List.length_map]; exact hlt
      have hOkc := HS.out.2 _ (nth_mem _ _ hjS)
      have hvc := HC.out.2.2.cons _ (nth_mem _ _ hlt)
      have hkpe : keepB vl fl (nth s.cons k) = keepC vl fl (nth S.cons k) := by unfold keepB; rw [hcS]
      have hI : ∀ Z, Below W.heap.size W Z → Ints Z (.slice sa (nth S.cons k).s.length sc) ((nth S.cons k).s.map fun x : Nat => (x : Int)) := fun Z hb => (hcell Z hb).2.2.2.2.2
      have hsl : (nth S.cons k).s.length ≤ 12 := by rw [hcS]; exact VldC.slen' hvc HC.out.2.1.sites
      have hre : (nth s.cons k).k = ((nth S.cons k).k : Int) ∧ (nth s.cons k).a = ((nth S.cons k).a : Int) ∧ (nth s.cons k).b = ((nth S.cons k).b : Int) ∧ (nth s.cons k).f = ((nth S.cons k).f : Int) ∧ (nth s.cons k).s = (nth S.cons k).s.map fun x : Nat => (x : Int) := by
        rw [hcS]
        have h1 := hvc.kind
        have h2 := hvc.a.1
        have h3 := hvc.b.1
        have h4 := hvc.f'
        refine ⟨?_, ?_, ?_, ?_, (cast_toNat fun x hx => (hvc.s x hx).1).symm⟩
        · show _ = ((nth s.cons k).k.toNat : Int); omega
        · show _ = ((nth s.cons k).a.toNat : Int); omega
        · show _ = ((nth s.cons k).b.toNat : Int); omega
        · show _ = ((nth s.cons k).f.toNat : Int); omega
      obtain ⟨c, hc⟩ : ∃ c, c = nth S.cons k := ⟨_, rfl⟩
      rw [← hc] at p0 p1 p2 p3 p4 hOkc hkpe hI hsl hre
      have HI := Lib.hid (And.intro hI (And.intro hkpe (And.intro hre hsl)))
      have hbv := hOkc.b
      have hff : c.k = 4 → c.f < S.fields := fun h => hOkc.f (.inr h)
      clear hcell hcS hjS hOkc hvc hkpe hI hc hsl hre
      obtain ⟨ck, c_a, c_b, c_f, c_s⟩ := c
      dsimp only at *
      by_cases h4 : ck = 4
      · subst h4
        rw [show ((4 : Nat) : Int) = 4 from rfl] at p0
        have hfv := hff rfl
        have hx := HV.out.2 wr HWW.out c_f hfv
        obtain ⟨t, ht⟩ : ∃ t, t = nth fl c_f := ⟨_, rfl⟩
        rw [← ht] at hx
        have hkp : keepB vl fl (nth s.cons k) = t := by rw [HI.out.2.1, ht]; simp [keepC]
        have HKP := Lib.hid hkp
        have n2 := World.block_lt_of_cell? wr _ hx
        dsimp only at n2
        have n3 := Nat.ne_of_lt n2
        clear ht hkp hff
        cases t
        · go_wp2_with fail
          go_roundw
          case rel => exact ⟨k + 1, ra, rc, rs, by omega, by go_num, by rw [take_filter hlt, if_neg (by rw [HKP.out]; simp), List.append_nil]; exact hh.out.1.grown (grownBy_alloc _ _) (by simp), hh.out.2.grown (grownBy_alloc _ _) HBO.out (by simp)⟩
          case measure => simp [intOf]; omega
        · go_wp2_with fail
          refine calls_genD (fun Z => SlM s bo ra rc rs ((s.cons.take k).filter (keepB vl fl)) Z ∧ BoxC Z wr.heap.size 4 c_a c_b c_f (.slice sa c_s.length sc) ∧ (∀ j, Z.frozen? ⟨wr.heap.size, j, none⟩ = false) ∧ Below bo Z0 Z ∧ wr.heap.size < Z.heap.size ∧ wr.grownBy Z none) ⟨hh.out.1.grown (grownBy_alloc _ _) (by simp), BoxC.new wr 4 c_a c_b c_f _ _, fun j => frozen_new _ _ _ _, hh.out.2.grown (grownBy_alloc _ _) HBO.out (by simp), by simp, grownBy_alloc _ _⟩ ?_
          rintro Z1 h1
          obtain ⟨bc, hbc⟩ : ∃ bc, bc = wr.heap.size := ⟨_, rfl⟩
          have hbo : bo < wr.heap.size := World.block_lt_of_cell? wr _ hh.out.1.o0
          have hwl : ∀ m, (Value.slice ra rs.length rc).ownBlock = some m → m < wr.heap.size := fun m hm => (OwnE.lt hh.out.1.own m hm).2
          have hbw : wr.heap.size ≤ bc := by omega
          rw [← hbc] at h1 hbo hwl ⊢
          clear hbc
          have hZW : Below W.heap.size W Z1 := HW0.out.trans (h1.2.2.2.1.mono HB0.out.2.1)
          refine (CloneI_any _ _ _ (HI.out.1 Z1 hZW) (by rw [List.length_map]; have := HI.out.2.2.2; omega)).mono ?_
          rintro e Z2 ⟨a2, c2, rfl, o2, q2⟩
          rw [List.length_map] at o2 ⊢
          have g2 := grownBy_below q2
          have hbx2 := h1.2.1.grown g2 (by simp)
          obtain ⟨x0, x1, x2, x3, x4⟩ := hbx2
          have lbc : bc < Z2.heap.size := Nat.lt_of_lt_of_le h1.2.2.2.2.1 q2.size
          have fz : ∀ j, Z2.frozen? ⟨bc, j, none⟩ = false := fun j => by
            rw [World.frozen?_of_block (a := ⟨bc, j, none⟩) (g2.block bc h1.2.2.2.2.1 (by simp))]; exact h1.2.2.1 j
          have fz4 := fz 4
          have gs3 := grownBy_setCell Z2 ⟨bc, 4, none⟩ (.slice a2 c_s.length c2)
          have y0 : (Z2.setCell ⟨bc, 4, none⟩ (.slice a2 c_s.length c2)).cell? ⟨bc, 0, none⟩ = some (.int .i64 (4 : Int)) := by rw [World.cell?_setCell_other _ _ _ _ (by intro e; simp at e)]; exact x0
          have y1 : (Z2.setCell ⟨bc, 4, none⟩ (.slice a2 c_s.length c2)).cell? ⟨bc, 1, none⟩ = some (.int .i64 (c_a : Int)) := by rw [World.cell?_setCell_other _ _ _ _ (by intro e; simp at e)]; exact x1
          have y2 : (Z2.setCell ⟨bc, 4, none⟩ (.slice a2 c_s.length c2)).cell? ⟨bc, 2, none⟩ = some (.int .i64 (c_b : Int)) := by rw [World.cell?_setCell_other _ _ _ _ (by intro e; simp at e)]; exact x2
          have y3 : (Z2.setCell ⟨bc, 4, none⟩ (.slice a2 c_s.length c2)).cell? ⟨bc, 3, none⟩ = some (.int .i64 (c_f : Int)) := by rw [World.cell?_setCell_other _ _ _ _ (by intro e; simp at e)]; exact x3
          have y4 : (Z2.setCell ⟨bc, 4, none⟩ (.slice a2 c_s.length c2)).cell? ⟨bc, 4, none⟩ = some (.slice a2 c_s.length c2) := World.cell?_setCell_same _ _ _ x4
          have gw3 : wr.grownBy (Z2.setCell ⟨bc, 4, none⟩ (.slice a2 c_s.length c2)) (some bc) := grownBy_trans (grownBy_trans (grownBy_widen h1.2.2.2.2.2) (grownBy_widen g2)) gs3
          have hM3 := hh.out.1.grown gw3 (fun m e => by simp at e; subst e; exact .inl (by omega))
          have hB3 : Below bo Z0 (Z2.setCell ⟨bc, 4, none⟩ (.slice a2 c_s.length c2)) := hh.out.2.grown gw3 HBO.out (fun m e => by simp at e; subst e; omega)
          have ho3 : OwnI (Z2.setCell ⟨bc, 4, none⟩ (.slice a2 c_s.length c2)) (bo + 1) 3 (.slice a2 c_s.length c2) (c_s.map fun x : Nat => (x : Int)) := by
            have h1z := h1.2.2.2.2.1
            refine (o2.mono (by omega)).grown gs3 (.inr fun e => ?_)
            have := (o2.lt _ e).1
            have h2 : bc = (⟨bc, 4, none⟩ : Addr).block := rfl
            omega
          have hn3 : ∀ m, (Value.slice a2 c_s.length c2).ownBlock = some m → (Value.slice ra rs.length rc).ownBlock ≠ some m := fun m hm e => by
            have h1z := h1.2.2.2.2.1
            have := (o2.lt m hm).1
            have := hwl m e
            omega
          have oc3 := hM3.o3
          have H3 := Lib.hid (And.intro hM3 (And.intro hB3 (And.intro ho3 hn3)))
          have lz3 : bo + 1 ≤ Z2.heap.size := by have h1z := h1.2.2.2.2.1; omega
          have hrl : rs.length ≤ 101 := by have := hh.out.1.len; rw [this]; exact Nat.le_trans (List.length_filter_le _ _) (by simp; omega)
          clear hM3 hB3 ho3 hn3 gw3 gs3 o2 q2 g2 h1 hwl hZW fz x1 x2 x3
          go_wp2_with (at_builtin; refine wp_appendE (E := elC) sCon rfl rfl _ _ rfl (v := .slice ra rs.length rc) (l := rs) (base := bo + 1) rfl Z2.heap.size rfl (OwnE.grown H3.out.1.own (grownBy_alloc _ _) (by cases (Value.slice ra rs.length rc).ownBlock <;> simp)) (⟨4, c_a, c_b, c_f, a2, c_s.length, c2⟩ : RC) (cells_new (W := Z2.setCell ⟨bc, 4, none⟩ (.slice a2 c_s.length c2)) (cs := [.int .i64 (4 : Int), .int .i64 (c_a : Int), .int .i64 (c_b : Int), .int .i64 (c_f : Int), .slice a2 c_s.length c2]) (t := 37) (by simp)) (by omega) (by omega) (by simp; omega) ?_; intro v9 W9 o9 g9 l9; obtain ⟨s9, c9, rfl⟩ := OwnE.shape o9 (n := rs.length + 1) (by simp); obtain ⟨t1, t2, hP⟩ := H3.out.1.push (c := nth s.cons k) (x := (⟨4, c_a, c_b, c_f, a2, c_s.length, c2⟩ : RC)) ⟨HI.out.2.2.1.1.symm, HI.out.2.2.1.2.1.symm, HI.out.2.2.1.2.2.1.symm, HI.out.2.2.1.2.2.2.1.symm⟩ (by rw [HI.out.2.2.1.2.2.2.2]; exact H3.out.2.2.1) H3.out.2.2.2 (grownBy_alloc _ _) o9 g9 l9; have HP := Lib.hid (And.intro hP (And.intro o9 g9)); clear hP o9 g9 l9)
          go_roundw
          case rel => exact ⟨k + 1, s9, c9, _, by omega, by go_num, by rw [take_filter hlt, if_pos HKP.out]; exact HP.out.1, by
            have b1 := H3.out.2.1.alloc (by simp; omega) (.cells #[.int .i64 (4 : Int), .int .i64 (c_a : Int), .int .i64 (c_b : Int), .int .i64 (c_f : Int), .slice a2 c_s.length c2] 37)
            have b2 := b1.grown HP.out.2.2 (by simp; omega) (fun m hm => by have := (OwnE.lt H3.out.1.own m hm).1; omega)
            exact b2.setCell (show bo ≤ (⟨bo, 3, none⟩ : Addr).block from Nat.le_refl _) _⟩
          case measure => simp [intOf]; omega
      · have hne : ((ck : Int) == 4) = false := by simp; omega
        have hne2 : ((ck : Int) != 4) = true := by simp; omega
        have hx := HV.out.1 wr HWW.out c_b hbv
        obtain ⟨t, ht⟩ : ∃ t, t = nth vl c_b := ⟨_, rfl⟩
        rw [← ht] at hx
        have hkp : keepB vl fl (nth s.cons k) = t := by rw [HI.out.2.1, ht]; simp [keepC, h4]
        have HKP := Lib.hid hkp
        have n2 := World.block_lt_of_cell? wr _ hx
        dsimp only at n2
        have n3 := Nat.ne_of_lt n2
        clear ht hkp hff
        cases t
        · go_wp2_with fail
          go_roundw
          case rel => exact ⟨k + 1, ra, rc, rs, by omega, by go_num, by rw [take_filter hlt, if_neg (by rw [HKP.out]; simp), List.append_nil]; exact hh.out.1.grown (grownBy_alloc _ _) (by simp), hh.out.2.grown (grownBy_alloc _ _) HBO.out (by simp)⟩
          case measure => simp [intOf]; omega
        · go_wp2_with fail
          refine calls_genD (fun Z => SlM s bo ra rc rs ((s.cons.take k).filter (keepB vl fl)) Z ∧ BoxC Z wr.heap.size ck c_a c_b c_f (.slice sa c_s.length sc) ∧ (∀ j, Z.frozen? ⟨wr.heap.size, j, none⟩ = false) ∧ Below bo Z0 Z ∧ wr.heap.size < Z.heap.size ∧ wr.grownBy Z none) ⟨hh.out.1.grown (grownBy_alloc _ _) (by simp), BoxC.new wr ck c_a c_b c_f _ _, fun j => frozen_new _ _ _ _, hh.out.2.grown (grownBy_alloc _ _) HBO.out (by simp), by simp, grownBy_alloc _ _⟩ ?_
          rintro Z1 h1
          obtain ⟨bc, hbc⟩ : ∃ bc, bc = wr.heap.size := ⟨_, rfl⟩
          have hbo : bo < wr.heap.size := World.block_lt_of_cell? wr _ hh.out.1.o0
          have hwl : ∀ m, (Value.slice ra rs.length rc).ownBlock = some m → m < wr.heap.size := fun m hm => (OwnE.lt hh.out.1.own m hm).2
          have hbw : wr.heap.size ≤ bc := by omega
          rw [← hbc] at h1 hbo hwl ⊢
          clear hbc
          have hZW : Below W.heap.size W Z1 := HW0.out.trans (h1.2.2.2.1.mono HB0.out.2.1)
          refine (CloneI_any _ _ _ (HI.out.1 Z1 hZW) (by rw [List.length_map]; have := HI.out.2.2.2; omega)).mono ?_
          rintro e Z2 ⟨a2, c2, rfl, o2, q2⟩
          rw [List.length_map] at o2 ⊢
          have g2 := grownBy_below q2
          have hbx2 := h1.2.1.grown g2 (by simp)
          obtain ⟨x0, x1, x2, x3, x4⟩ := hbx2
          have lbc : bc < Z2.heap.size := Nat.lt_of_lt_of_le h1.2.2.2.2.1 q2.size
          have fz : ∀ j, Z2.frozen? ⟨bc, j, none⟩ = false := fun j => by
            rw [World.frozen?_of_block (a := ⟨bc, j, none⟩) (g2.block bc h1.2.2.2.2.1 (by simp))]; exact h1.2.2.1 j
          have fz4 := fz 4
          have gs3 := grownBy_setCell Z2 ⟨bc, 4, none⟩ (.slice a2 c_s.length c2)
          have y0 : (Z2.setCell ⟨bc, 4, none⟩ (.slice a2 c_s.length c2)).cell? ⟨bc, 0, none⟩ = some (.int .i64 (ck : Int)) := by rw [World.cell?_setCell_other _ _ _ _ (by intro e; simp at e)]; exact x0
          have y1 : (Z2.setCell ⟨bc, 4, none⟩ (.slice a2 c_s.length c2)).cell? ⟨bc, 1, none⟩ = some (.int .i64 (c_a : Int)) := by rw [World.cell?_setCell_other _ _ _ _ (by intro e; simp at e)]; exact x1
          have y2 : (Z2.setCell ⟨bc, 4, none⟩ (.slice a2 c_s.length c2)).cell? ⟨bc, 2, none⟩ = some (.int .i64 (c_b : Int)) := by rw [World.cell?_setCell_other _ _ _ _ (by intro e; simp at e)]; exact x2
          have y3 : (Z2.setCell ⟨bc, 4, none⟩ (.slice a2 c_s.length c2)).cell? ⟨bc, 3, none⟩ = some (.int .i64 (c_f : Int)) := by rw [World.cell?_setCell_other _ _ _ _ (by intro e; simp at e)]; exact x3
          have y4 : (Z2.setCell ⟨bc, 4, none⟩ (.slice a2 c_s.length c2)).cell? ⟨bc, 4, none⟩ = some (.slice a2 c_s.length c2) := World.cell?_setCell_same _ _ _ x4
          have gw3 : wr.grownBy (Z2.setCell ⟨bc, 4, none⟩ (.slice a2 c_s.length c2)) (some bc) := grownBy_trans (grownBy_trans (grownBy_widen h1.2.2.2.2.2) (grownBy_widen g2)) gs3
          have hM3 := hh.out.1.grown gw3 (fun m e => by simp at e; subst e; exact .inl (by omega))
          have hB3 : Below bo Z0 (Z2.setCell ⟨bc, 4, none⟩ (.slice a2 c_s.length c2)) := hh.out.2.grown gw3 HBO.out (fun m e => by simp at e; subst e; omega)
          have ho3 : OwnI (Z2.setCell ⟨bc, 4, none⟩ (.slice a2 c_s.length c2)) (bo + 1) 3 (.slice a2 c_s.length c2) (c_s.map fun x : Nat => (x : Int)) := by
            have h1z := h1.2.2.2.2.1
            refine (o2.mono (by omega)).grown gs3 (.inr fun e => ?_)
            have := (o2.lt _ e).1
            have h2 : bc = (⟨bc, 4, none⟩ : Addr).block := rfl
            omega
          have hn3 : ∀ m, (Value.slice a2 c_s.length c2).ownBlock = some m → (Value.slice ra rs.length rc).ownBlock ≠ some m := fun m hm e => by
            have h1z := h1.2.2.2.2.1
            have := (o2.lt m hm).1
            have := hwl m e
            omega
          have oc3 := hM3.o3
          have H3 := Lib.hid (And.intro hM3 (And.intro hB3 (And.intro ho3 hn3)))
          have lz3 : bo + 1 ≤ Z2.heap.size := by have h1z := h1.2.2.2.2.1; omega
          have hrl : rs.length ≤ 101 := by have := hh.out.1.len; rw [this]; exact Nat.le_trans (List.length_filter_le _ _) (by simp; omega)
          clear hM3 hB3 ho3 hn3 gw3 gs3 o2 q2 g2 h1 hwl hZW fz x1 x2 x3
          go_wp2_with (at_builtin; refine wp_appendE (E := elC) sCon rfl rfl _ _ rfl (v := .slice ra rs.length rc) (l := rs) (base := bo + 1) rfl Z2.heap.size rfl (OwnE.grown H3.out.1.own (grownBy_alloc _ _) (by cases (Value.slice ra rs.length rc).ownBlock <;> simp)) (⟨ck, c_a, c_b, c_f, a2, c_s.length, c2⟩ : RC) (cells_new (W := Z2.setCell ⟨bc, 4, none⟩ (.slice a2 c_s.length c2)) (cs := [.int .i64 (ck : Int), .int .i64 (c_a : Int), .int .i64 (c_b : Int), .int .i64 (c_f : Int), .slice a2 c_s.length c2]) (t := 37) (by simp)) (by omega) (by omega) (by simp; omega) ?_; intro v9 W9 o9 g9 l9; obtain ⟨s9, c9, rfl⟩ := OwnE.shape o9 (n := rs.length + 1) (by simp); obtain ⟨t1, t2, hP⟩ := H3.out.1.push (c := nth s.cons k) (x := (⟨ck, c_a, c_b, c_f, a2, c_s.length, c2⟩ : RC)) ⟨HI.out.2.2.1.1.symm, HI.out.2.2.1.2.1.symm, HI.out.2.2.1.2.2.1.symm, HI.out.2.2.1.2.2.2.1.symm⟩ (by rw [HI.out.2.2.1.2.2.2.2]; exact H3.out.2.2.1) H3.out.2.2.2 (grownBy_alloc _ _) o9 g9 l9; have HP := Lib.hid (And.intro hP (And.intro o9 g9)); clear hP o9 g9 l9)
          go_roundw
          case rel => exact ⟨k + 1, s9, c9, _, by omega, by go_num, by rw [take_filter hlt, if_pos HKP.out]; exact HP.out.1, by
            have b1 := H3.out.2.1.alloc (by simp; omega) (.cells #[.int .i64 (ck : Int), .int .i64 (c_a : Int), .int .i64 (c_b : Int), .int .i64 (c_f : Int), .slice a2 c_s.length c2] 37)
            have b2 := b1.grown HP.out.2.2 (by simp; omega) (fun m hm => by have := (OwnE.lt H3.out.1.own m hm).1; omega)
            exact b2.setCell (show bo ≤ (⟨bo, 3, none⟩ : Addr).block from Nat.le_refl _) _⟩
          case measure => simp [intOf]; omega
    · obtain rfl : k = s.cons.length := by omega
      have htk : (s.cons.take s.cons.length).filter (keepB vl fl) = (s.cut vl fl).cons := by rw [List.take_length]; rfl
      have hM := hh.out.1
      rw [htk] at hM
      have hl := hM.len
      obtain ⟨o0, o1, o2, o3, -⟩ := id hM
      rw [hl] at o3
      have hrb : wr.heap[br]? = some (.cells #[.int .i64 0, .int .i64 0, .int .i64 0, .slice none 0 0] 24) := (hh.out.2.block br HB0.out.2.2.2.1).trans HZ0.out.2.2.1
      have w0 : wr.cell? ⟨br, 0, none⟩ = some (.int .i64 0) := by simp [World.cell?, hrb]
      have w1 : wr.cell? ⟨br, 1, none⟩ = some (.int .i64 0) := by simp [World.cell?, hrb]
      have w2 : wr.cell? ⟨br, 2, none⟩ = some (.int .i64 0) := by simp [World.cell?, hrb]
      have w3 : wr.cell? ⟨br, 3, none⟩ = some (.slice none 0 0) := by simp [World.cell?, hrb]
      have w4 : ∀ j, wr.frozen? ⟨br, j, none⟩ = false := fun j => by simp [World.frozen?, hrb]
      have w5 := w4 0
      have w6 := w4 1
      have w7 := w4 2
      have w8 := w4 3
      obtain ⟨N, hN⟩ : ∃ N, N = (s.cut vl fl).cons.length := ⟨_, rfl⟩
      rw [← hN] at o3
      have HM := Lib.hid (And.intro hM (And.intro hh.out.2 hN))
      clear hM hl hrb w4 htk hh z0 z1 hN hlt hk
      go_wp2_with fail
      refine bodyPost_ret (v := .agg #[.int .i64 s.vars, .int .i64 s.sites, .int .i64 s.fields, .slice ra N rc]) (by rw [results_cell1 rfl]; go_simp; try rfl) rfl ?_
      have gf := grownBy_trans (grownBy_trans (grownBy_trans (grownBy_setCell wr ⟨br, 0, none⟩ (.int .i64 s.vars)) (grownBy_setCell _ ⟨br, 1, none⟩ (.int .i64 s.sites))) (grownBy_setCell _ ⟨br, 2, none⟩ (.int .i64 s.fields))) (grownBy_setCell _ ⟨br, 3, none⟩ (.slice ra N rc))
      refine ⟨ra, rc, by rw [← HM.out.2.2]; rfl, ?_, ?_⟩
      · intro Z row hg hr
        rw [← HM.out.2.2]
        have h9 := ((HM.out.1.grown gf (fun m e => by have h := HB0.out.2.2.2.1; simp at e; subst e; exact .inr h)).grown hg (fun m e => by have h1 := hr m e; have h2 := HB0.out.2.1; exact .inr (by omega))).cons
        rw [← HM.out.2.2] at h9
        exact h9
      · have hle := HB0.out.2.2.2.2
        exact (((HWW.out.setCell (show W.heap.size ≤ (⟨br, 0, none⟩ : Addr).block from hle) _).setCell (show W.heap.size ≤ (⟨br, 1, none⟩ : Addr).block from hle) _).setCell (show W.heap.size ≤ (⟨br, 2, none⟩ : Addr).block from hle) _).setCell (show W.heap.size ≤ (⟨br, 3, none⟩ : Addr).block from hle) _
end Go.Proofs.Ytkfhopnolflchaa
