/- Contract of distances. -/
import Derived.Test.YtjapnkhgijhakaaGdm
namespace Go.Proofs.Ytjapnkhgijhakaa
open Go.RowKit Go.Dfl Go.Gra Go.Shelf
attribute [local go_sem] Oper.semAt_some

def DistR (g : G) (r : Nat) (W : World) (e : Ending) (W' : World) : Prop := ∃ a c, e = .returned (.slice a g.n.toNat c) ∧ OwnI W' W.heap.size 3 (.slice a g.n.toNat c) (distL g [(r : Int)]) ∧ Below W.heap.size W W'
set_option maxHeartbeats 3200000 in
set_option maxRecDepth 100000 in
theorem distances_any (g : G) (cv : Value) (r : Nat) (W : World) (h : Pairs W cv g.es) (hvg : VG g) (hr : (r : Int) < g.n) : Calls Try.prog 42 #[GV g cv, .int .i64 (r : Int)] W (DistR g r W) := by
  obtain ⟨ca, cc, rfl, -, -, -⟩ := pairs_rd h
  have hal := (Below.refl W.heap.size W).alloc (Nat.le_refl _) (.cells #[.int .i64 g.n, .slice ca g.es.length cc] 25)
  have H1 := Lib.hid (And.intro (h.below hal) (And.intro hal (BoxG.new W g.n (.slice ca g.es.length cc) 25)))
  clear h hal
  obtain ⟨n, hn⟩ : ∃ n : Nat, g.n = n := ⟨g.n.toNat, by have := hvg.n0; omega⟩
  have hn8 : n ≤ 8192 := by have := hvg.n1; omega
  have hrn : r < n := by omega
  have HV := Lib.hid (And.intro hvg hn)
  unfold GV
  rw [hn] at H1 ⊢
  clear hvg hn hr
  refine (callsIn_wide (n := 5)).1 ?_
  refine callsIn_of_wp_marks Try.func42 rfl trivial ?_ rfl
  simp only [Try.ntmps42, List.size_toArray, List.length_cons, List.length_nil, Nat.reduceAdd, Nat.reduceSub, Array.replicate_succ, Array.replicate_zero, List.push_toArray, List.append_toArray, List.nil_append, List.cons_append]
  refine wpIn_wide.2 ?_
  obtain ⟨c0, c1⟩ := H1.out.2.2
  have n1 : W.heap.size < (W.alloc (.cells #[.int .i64 (n : Int), .slice ca g.es.length cc] 25)).heap.size := H1.out.2.2.lt
  go_wp2_with (at_make; refine wp_make (f := Value.int .i64) 0 sIntG rfl _ rfl _ _ rfl .i64 .i64 _ _ n rfl rfl rfl rfl (by omega) (by unfold maxLen; omega) ?_)
  intro s cap W2 hrow hb2
  rw [← World.size_alloc W (.cells #[.int .i64 (n : Int), .slice ca g.es.length cc] 25)] at hrow hb2
  generalize W.alloc (.cells #[.int .i64 (n : Int), .slice ca g.es.length cc] 25) = W1 at *
  have hz2 := hb2.size
  have hd1 : D1 W1 W2.heap.size n cap s (List.replicate n 0) (W2.alloc (.cells #[.slice s n cap] 33)) := ⟨cell_alloc1 _ _ _, hrow.alloc _, hb2.alloc hz2 _, hz2, fun k e => by have := (hrow.lt k e).2; omega, by simp⟩
  have HD1 := Lib.hid hd1
  clear hd1 hrow hb2
  go_wp2_with fail
  refine gen_code (fun Z => D1 W1 W2.heap.size n cap s (List.replicate n 0) Z) HD1.out ?_
  intro Z0 hz0
  generalize hbf : W2.heap.size = bf at *
  clear hbf
  generalize hbs : W.heap.size = bs at *
  have HBS := Lib.hid hbs
  clear hbs
  have HZ0 := Lib.hid hz0
  have hbx0 := hz0.bx
  clear hz0 HD1
  go_wp2_with fail
  go_loopw [15] (fun x wr => ∃ k : Nat, k ≤ n ∧ x = .int .i64 k ∧ Hid (∃ l, D1 W1 bf n cap s l wr ∧ ∀ j, j < k → nth l j = -1)) (fun x _ => n - (intOf x).toNat)
  case atStart => exact ⟨0, by omega, rfl, _, HZ0.out, fun j hj => by omega⟩
  case round =>
    clear hbx0
    obtain ⟨k, hk, rfl, hh⟩ := hrel
    obtain ⟨l, hrs, hneg⟩ := hh.out
    have HRS := Lib.hid (And.intro hrs hneg)
    have hbx := hrs.bx
    clear hh hneg
    by_cases hlt : k < n
    · obtain ⟨a9, c9, he, hm9, hidx, hcell, -⟩ := hrs.row.lst.out1 sIntG
      rw [hrs.len] at he hm9 hidx hcell
      simp only [Value.slice.injEq] at he
      obtain ⟨rfl, -, rfl⟩ := he
      have hci := hcell k hlt
      have hii := hidx .i64 (k : Int) (by omega) (by omega)
      have hf0 := hrs.row.frozen (by rw [hrs.len]; omega) (ofs s + k)
      rw [Int.toNat_natCast] at hii
      have hkl : (k : Int) < (n : Int) := by omega
      clear hrs hidx hcell
      go_wp2_with fail
      go_roundw
      case rel => exact ⟨k + 1, by omega, by go_num, _, HRS.out.1.set hlt (-1), fun j hj => by
        rw [nth_set]
        split
        · rfl
        · rename_i hne
          by_cases e : k = j
          · exact absurd ⟨e, by rw [HRS.out.1.len]; exact hlt⟩ hne
          · exact HRS.out.2 j (by omega)⟩
      case measure => simp [intOf]; omega
    · obtain rfl : k = n := by omega
      have hl : l = List.replicate k (-1) := nth_ext (by rw [hrs.len, List.length_replicate]) fun i hi => by
        rw [hrs.len] at hi
        rw [HRS.out.2 i hi, nth_eq _ _ (by simpa using hi), List.getElem_replicate]
      subst hl
      obtain ⟨a9, c9, he, hm9, hidx, hcell, -⟩ := hrs.row.lst.out1 sIntG
      rw [hrs.len] at he hm9 hidx hcell
      simp only [Value.slice.injEq] at he
      obtain ⟨rfl, -, rfl⟩ := he
      have hci := hcell r hrn
      have hii := hidx .i64 (r : Int) (by omega) (by omega)
      have hf0 := hrs.row.frozen (by rw [hrs.len]; omega) (ofs s + r)
      rw [Int.toNat_natCast] at hii
      clear hrs hidx hcell hlt hk
      go_wp2_with fail
      refine gen_code (fun Z => DsW bf (wr.heap.size + 1) (wr.heap.size + 1 + 1) W1.heap.size k cap s (root0 k r) (.slice (some ⟨wr.heap.size, 0, none⟩) 1 1) 0 Z ∧ Below W1.heap.size W1 Z) (HRS.out.1.start hrn) ?_
      intro Z0' hz0
      have HZ := Lib.hid hz0
      clear hz0 hci hii hf0 hbx HRS HZ0 hm9
      generalize wr.heap.size = bo at *
      refine wp_loop_marks [false, false, false, false, false, false, false, false, true, true, false, false, false, false, false, false, false, false, false, false, false, false, false, false, false, false, false, true, true, true, true, true, true, true, true, true, true, true, true, true, true, true, true, true, true, true, true, true, true, true, true, true, true, true, true, true, true, true, true, true, true, false] (k + 1) (fun m l Ds wr => ∃ (i : Nat) (t : List Int × List Nat) (bi : Nat), slot l 8 = .pointer (some ⟨bi, 0, none⟩) ∧ i ≤ t.2.length ∧ m + i = k + 1 ∧ Hid (dG g.es m i t = dG g.es (k + 1) 0 (root0 k r) ∧ OpenM W1.heap.size Ds wr ∧ Below W1.heap.size W1 wr ∧ ∃ ov, DsW bf (bo + 1) bi W1.heap.size k cap s t ov i wr)) ?atStart ?round
      case atStart => exact ⟨0, root0 k r, bo + 1 + 1, rfl, by omega, by omega, rfl, OpenM.nil _ _, HZ.out.2, _, HZ.out.1⟩
      case round =>
        (intro gk wr Ds; dsimp only [FrA, slot]; intros; rename_i hrel Jm Km hJm hKm)
        obtain ⟨i, t, bi, rfl, hi, hki, hh⟩ := hrel
        obtain ⟨hdg, hop, hbel, ov, hds⟩ := hh.out
        obtain ⟨os, oc, rfl⟩ := hds.lst.shape (n := t.2.length) (by rw [List.length_map])
        have b1 := hds.bx
        have l1 := hds.lx
        have i1 := hds.ix
        have iz := hds.ifr
        obtain ⟨d0, d1⟩ := H1.out.2.2.below hbel
        have hql := hds.coh.qlen
        have HR2 := Lib.hid (And.intro hdg (And.intro hop (And.intro hbel hds)))
        clear hdg hop hh
        by_cases hlt : i < t.2.length
        · obtain ⟨a9, c9, he, hm9, hidx, hcell, -⟩ := hds.lst.lst.out1 sIntG
          rw [List.length_map] at he hm9 hidx hcell
          simp only [Value.slice.injEq] at he
          obtain ⟨rfl, -, rfl⟩ := he
          have hci := hcell i hlt
          obtain ⟨v, hv⟩ : ∃ v, v = nth t.2 i := ⟨_, rfl⟩
          rw [show nth (t.2.map fun x : Nat => (x : Int)) i = (v : Int) by rw [nth_eq _ _ (by rw [List.length_map]; exact hlt), List.getElem_map, hv, nth_eq _ _ hlt]] at hci
          have hii := hidx .i64 (i : Int) (by omega) (by omega)
          rw [Int.toNat_natCast] at hii
          have hil : (i : Int) < (t.2.length : Int) := by omega
          have hvm : v ∈ t.2 := by rw [hv]; exact nth_mem _ _ hlt
          have hvk : v < k := hds.coh.coh.mem v hvm
          have h0v : 0 ≤ nth t.1 v := (hds.coh.coh.iff v hvk).2 hvm
          have hdt : nth t.1 v ≤ t.2.length := hds.coh.top v hvk
          have HVV := Lib.hid (And.intro hv (And.intro hvm (And.intro h0v hdt)))
          clear hds hidx hcell hbel hv hvm h0v hdt
          go_upto_region 12 with fail
          refine wp_region_tail 5 (by kernel_rfl) (by kernel_rfl) ?_
          intro w2 hw2
          subst hw2
          simp only [List.take_succ_cons, List.take_zero, List.drop_succ_cons, List.drop_zero]
          repeat still_step
          refine wpStill_nil ?_
          have hsu : ∀ Z, Calls Try.prog 37 #[.agg #[.int .i64 k, .slice ca g.es.length cc], .int .i64 (v : Int)] Z fun e W' => e = .returned (.func (.func 51) #[] #[.pointer (some ⟨Z.heap.size, 0, none⟩), .pointer (some ⟨Z.heap.size + 1, 0, none⟩)]) ∧ W' = (Z.alloc (.cells #[.int .i64 k, .slice ca g.es.length cc] 25)).alloc (.cells #[.int .i64 (v : Int)] 3) := fun Z => by have h1 := succ_any g (.slice ca g.es.length cc) v Z; unfold GV at h1; rw [HV.out.2] at h1; exact h1
          have HSU := Lib.hid hsu
          clear hsu
          go_wp2_with (go_at_call 37; refine (HSU.out _).mono ?_; rintro e w' ⟨rfl, hw⟩; rw [hw]; clear hw w')
          have hbz : Below wr.heap.size wr ((wr.alloc (.cells #[.int .i64 (k : Int), .slice ca g.es.length cc] 25)).alloc (.cells #[.int .i64 (v : Int)] 3)).drew := (((Below.refl wr.heap.size wr).alloc (Nat.le_refl _) _).alloc (by rw [World.size_alloc]; omega) _).drew
          have hpw := H1.out.1.below HR2.out.2.2.1
          have hrd := (RdS.new (v := v) hpw).below ((Below.refl _ _).drew)
          rw [HV.out.2] at hrd
          have hsz3 : (((wr.alloc (.cells #[.int .i64 (k : Int), .slice ca g.es.length cc] 25)).alloc (.cells #[.int .i64 (v : Int)] 3)).drew).heap.size = wr.heap.size + 2 := by
            show ((wr.alloc (.cells #[.int .i64 (k : Int), .slice ca g.es.length cc] 25)).alloc (.cells #[.int .i64 (v : Int)] 3)).heap.size = _
            rw [World.size_alloc, World.size_alloc]
          have hlts := HR2.out.2.2.2.lts
          have hBz := HR2.out.2.2.2.ne
          have hDs : ∀ D ∈ Ds, D < wr.heap.size := fun D hD => (Array.getElem?_eq_some_iff.1 (HR2.out.2.1.op D hD).2).1
          have hrz : ∀ q, (Value.slice s k cap).ownBlock = some q → q < wr.heap.size := fun q e => (HR2.out.2.2.2.row.lt q e).2
          have hovz : ∀ q, (Value.slice os t.2.length oc).ownBlock = some q → q < wr.heap.size := fun q e => (HR2.out.2.2.2.lst.lt q e).2
          have hP := And.intro (HR2.out.2.2.2.grown (grownBy_below hbz) (by simp)) (And.intro (HR2.out.2.1.grown (grownBy_below hbz) (by simp)) (And.intro (hpw.below hbz) (And.intro hrd (And.intro hsz3 (HR2.out.2.2.1.trans (hbz.mono HR2.out.2.2.1.size))))))
          refine gen_code (fun Z => DsW bf (bo + 1) bi W1.heap.size k cap s t (.slice os t.2.length oc) i Z ∧ OpenM W1.heap.size Ds Z ∧ Pairs Z (.slice ca g.es.length cc) g.es ∧ RdS g v wr.heap.size (wr.heap.size + 1) ca cc Z ∧ Z.heap.size = wr.heap.size + 2 ∧ Below W1.heap.size W1 Z) hP ?_
          intro Z3 hz3
          have H3 := Lib.hid (And.intro hz3 (And.intro hlts (And.intro hBz (And.intro hDs (And.intro hrz hovz)))))
          have HBF := Lib.hid HR2.out.1
          clear hP hz3 hbz hpw hrd hsz3 hlts hBz hDs hrz hovz b1 l1 i1 iz d0 d1 HR2 hci hii HSU
          generalize wr.heap.size = z at *
          refine (wpIn_wide (n := 5)).1 ?_
          refine wpIn_rangeFunc_ownG rfl (by omega) (gf := 51) (lb := #[.pointer (some ⟨z, 0, none⟩), .pointer (some ⟨z + 1, 0, none⟩)]) rfl trivial (enters_of Try.func51 (by kernel_rfl) rfl)
            (suc_stops g HV.out.1 v z (z + 1) ca cc _ 4 (by omega) H3.out.1.2.2.1 H3.out.1.2.2.2.1) (fun h k => h.trans k) ?hKb (Below.refl _ _) (fun _ => rfl)
            (fun pre Z => ∃ ov', DsW bf (bo + 1) bi W1.heap.size k cap s ((vals pre).foldl (dvs (nth t.1 v + 1)) t) ov' i Z ∧ OpenM W1.heap.size Ds Z ∧ (∀ q, ov'.ownBlock = some q → q ≠ z ∧ q ≠ z + 1) ∧ z + 2 ≤ Z.heap.size ∧ Below W1.heap.size W1 Z) (fun _ _ _ => False)
            ?own (fun _ _ _ _ _ hs _ _ => hs) ⟨_, H3.out.1.1, H3.out.1.2.1, fun q e => by have := H3.out.2.2.2.2.2 q e; omega, by have := H3.out.1.2.2.2.2.1; omega, H3.out.1.2.2.2.2.2⟩ ?a1 ?assign ?body ?done ?stop
          case hKb =>
            intro Z l' o' o'' hlz hlo ho hwk
            have hbc : bcOf g ca z < z + 1 := bcOf_lt (H1.out.1) (by have := H3.out.2.2.1; omega) (by omega)
            rw [H3.out.1.2.2.2.2.1] at hlz
            exact KpS.grown (grownBy_putObj' Z l' o'') (fun k e => by have e2 := Option.some.inj e; omega)
          case own =>
            rintro pre A B row ⟨ov', h1, h2, h3, h4, h5⟩ hg hr
            rw [H3.out.1.2.2.2.2.1] at hr
            obtain ⟨z1, z2, z3⟩ := H3.out.2.1
            have hBz := H3.out.2.2.1
            refine ⟨ov', h1.grown hg (fun q e => ⟨by have := (hr q e).1; omega, by have := (hr q e).1; omega, by have := (hr q e).1; omega, fun e2 => ?_, fun e2 => ?_⟩), h2.grown hg (fun q e hm => by have := (hr q e).1; have := H3.out.2.2.2.1 q hm; omega), h3, Nat.le_trans h4 hg.size, h5.grown hg h5.size (fun q e => by have := (hr q e).1; omega)⟩
            · have := (hr q e).1; have := H3.out.2.2.2.2.1 q e2; omega
            · obtain ⟨-, ob, ho1, ho2⟩ := hr q e
              rw [own_isCells h1.lst e2 ho1] at ho2
              cases ho2
          case assign =>
            intro l' x Z K hK
            gi_wp2
            exact hK
          case body =>
            rintro l' pre x Z ⟨ov', h1, h2, h3, h4, h5⟩ hlt'
            have e9 := HV.out.2
            have hx : x.1 < k := by have h9 := x.2; omega
            have hpre : ∀ w ∈ vals pre, w < k := fun w hw => by
              obtain ⟨y, -, rfl⟩ := List.mem_map.1 hw
              have h9 := y.2; omega
            have h0d : 0 ≤ nth t.1 v + 1 := by have := HVV.out.2.2.1; omega
            obtain ⟨t', ht'⟩ : ∃ t', t' = (vals pre).foldl (dvs (nth t.1 v + 1)) t := ⟨_, rfl⟩
            have hct := H3.out.1.1.coh
            have hpx : t.2 <+: t'.2 := by rw [ht']; exact dvsl_prefix _ _ _
            have hq2 : nth t'.2 i = v := by rw [HVV.out.1]; exact nth_prefix hpx hlt
            have hq3 : nth t'.1 v = nth t.1 v := by rw [ht']; exact dvsl_old h0d hct.coh HVV.out.2.1 hpre
            have hil' : i < t'.2.length := Nat.lt_of_lt_of_le hlt hpx.length_le
            have hd2 : nth t.1 v + 1 ≤ t'.2.length + 1 := by have := HVV.out.2.2.2; have := hpx.length_le; omega
            rw [← ht'] at h1
            have HT := Lib.hid (And.intro ht' (And.intro h0d hd2))
            clear ht' hct hpre hpx h0d hd2 e9 hlt'
            obtain ⟨os', oc', rfl⟩ := h1.lst.shape (n := t'.2.length) (by rw [List.length_map])
            obtain ⟨hos, -⟩ := own_at h1.row (by rw [h1.coh.coh.len]; omega)
            obtain ⟨s1, s2, s3, s4⟩ := h1.sep _ hos
            have hvk : v < k := by rw [← hq2]; exact h1.coh.coh.mem _ (nth_mem _ _ hil')
            have hql' := h1.coh.qlen
            have HI := Lib.hid (And.intro h1 (And.intro h2 (And.intro h3 (And.intro h4 h5))))
            clear h2 h3 h4 h5
            have hrd : ∀ Y, OwnI Y W1.heap.size 3 (.slice s k cap) t'.1 → ∀ j, j < k → Y.cell? ⟨blk s, ofs s + j, none⟩ = some (.int .i64 (nth t'.1 j)) ∧ (∀ Y', (Instr.indexAt 33 (.slice s k cap) (.int .i64 (j : Int))).run Try.prog Y' = .ok (.pointer (some ⟨blk s, ofs s + j, none⟩)) Y') ∧ Y.frozen? ⟨blk s, ofs s + j, none⟩ = false := fun Y hY j hj => by
              obtain ⟨a9, c9, he, hm9, hidx, hcell, -⟩ := hY.lst.out1 sIntG
              rw [h1.coh.coh.len] at he hm9 hidx hcell
              simp only [Value.slice.injEq] at he
              obtain ⟨rfl, -, rfl⟩ := he
              exact ⟨hcell j hj, fun Y' => by have := hidx .i64 (j : Int) (by omega) (by omega) Y'; rw [Int.toNat_natCast] at this; exact this, hY.frozen (by rw [h1.coh.coh.len]; omega) _⟩
            have HRD := Lib.hid hrd
            clear hrd
            have b1 := h1.bx
            obtain ⟨cx, ixx, -⟩ := HRD.out Z h1.row x.1 hx
            obtain ⟨y, hy⟩ : ∃ y, y = nth t'.1 x.1 := ⟨_, rfl⟩
            rw [← hy] at cx
            have HY := Lib.hid hy
            clear hy
            by_cases hneg : y < 0
            · have qd : decide (y < 0) = true := by simpa using hneg
              have HN := Lib.hid hneg
              clear hneg h1
              gi_upto_region 15 with fail
              refine wpIn_region_tail 11 (by kernel_rfl) (by kernel_rfl) (by kernel_rfl) ?_
              intro w2 hw2
              have g2 : Z.grownBy w2 none := by rw [hw2]; exact grownBy_below ((Below.refl _ _).drew)
              have ko2 : KeepsOthers Z w2 := by rw [hw2]; exact KeepsOthers.drew Z
              have k2 := HI.out.1.grown g2 (by simp)
              have hz2' : w2.heap.size = Z.heap.size := by rw [hw2]; rfl
              have HG := Lib.hid (And.intro g2 (And.intro ko2 (And.intro k2 hz2')))
              clear hw2 g2 ko2 hz2' cx ixx b1
              obtain ⟨cx, ixx, fxx⟩ := HRD.out w2 k2.row x.1 hx
              obtain ⟨cv, ivv, -⟩ := HRD.out w2 k2.row v hvk
              rw [hq3] at cv
              rw [← HY.out] at cx
              have b1 := k2.bx
              have l1 := k2.lx
              have lf := k2.lfr
              have i1 := k2.ix
              obtain ⟨a9, c9, he, hm9, hidx, hcell, -⟩ := k2.lst.lst.out1 sIntG
              rw [List.length_map] at he hm9 hidx hcell
              simp only [Value.slice.injEq] at he
              obtain ⟨rfl, -, rfl⟩ := he
              have hci := hcell i hil'
              rw [show nth (t'.2.map fun x : Nat => (x : Int)) i = (v : Int) by rw [nth_eq _ _ (by rw [List.length_map]; exact hil'), List.getElem_map, ← hq2, nth_eq _ _ hil']] at hci
              have hii := hidx .i64 (i : Int) (by omega) (by omega)
              rw [Int.toNat_natCast] at hii
              obtain ⟨dv, hdv⟩ : ∃ dv, dv = nth t.1 v := ⟨_, rfl⟩
              rw [← hdv] at cv
              have hwr : IntKind.i64.wrap (dv + 1) = dv + 1 := IntWalk.i64_in _ (by have := HVV.out.2.2.1; have := HVV.out.2.2.2; omega)
              have HD := Lib.hid hdv
              clear hdv hidx hcell k2 hq2 hq3
              simp only [List.take_succ_cons, List.take_zero, List.drop_succ_cons, List.drop_zero]
              repeat still_step
              refine wpStill_nil ?_
              have hll : (t'.2.map fun x : Nat => (x : Int)).length < 17592186044416 := by rw [List.length_map]; omega
              have hB2 : W1.heap.size ≤ w2.heap.size := HG.out.2.2.1.ne.2.2.2.2.2.2
              have HX := Lib.hid (And.intro (HG.out.2.2.1.lstSet hx (dv + 1)) (And.intro hll hB2))
              have hbw : bo + 1 ≠ w2.heap.size := by have := HG.out.2.2.1.lts; omega
              have hsw : blk s ≠ w2.heap.size := by have := (HG.out.2.2.1.row.lt _ hos).2; omega
              clear hll hB2
              gi_wp2_with (gi_at_builtin; refine wpIn_append1at (f := Value.int .i64) sIntG rfl _ rfl _ _ rfl W1.heap.size _ (t'.2.map fun x : Nat => (x : Int)) rfl (HX.out.1.alloc _) (x.1 : Int) ⟨w2.heap.size, 0, none⟩ rfl (by have h9 := cell_alloc1 (w2.setCell ⟨blk s, ofs s + x.1, none⟩ (.int .i64 (dv + 1))) (.int .i64 (x.1 : Int)) 3; rw [World.size_setCell] at h9; exact h9) rfl HX.out.2.1 (by omega) (le_alloc _ (by rw [World.size_setCell]; exact HX.out.2.2)) ?_; intro v' w3 hown hgr hat; obtain ⟨s9, c9, rfl⟩ := hown.shape (n := t'.2.length + 1) (by rw [List.length_append, List.length_map]; rfl); obtain ⟨e1, f1⟩ := HG.out.2.2.1.box hx hgr; have HO := Lib.hid (And.intro hown (And.intro hgr hat)); clear hown hgr hat)
              obtain ⟨m1, m2⟩ := HG.out.2.2.1.add hx (by rw [← HY.out]; exact HN.out) (d := dv + 1) (by rw [HD.out]; exact HT.out.2.1) (by rw [HD.out]; exact HT.out.2.2) HO.out.1 HO.out.2.1 HO.out.2.2
              obtain ⟨-, j2, j3, j4, j5⟩ := HI.out
              have hz9 := HG.out.2.2.2
              have hB9 := H3.out.2.2.1
              obtain ⟨y1, y2, y3⟩ := H3.out.2.1
              have hbo := bcOf_or (bg := z) H1.out.1
              refine ⟨(HG.out.2.1.trans m2.oth).from _, fun q hq hql => ?_, .slice s9 (t'.2.length + 1) c9, ?_, ?_, fun q e => ?_, ?_, ?_⟩
              · rw [m2.blk q (by omega) ?_ (fun e => ?_) (fun e => ?_), HG.out.1.block q hql (by simp)]
                · omega
                · have := H3.out.2.2.2.2.1 q e; have := HI.out.1.row.lt q e; omega
                · have := j3 q e; have := HI.out.1.lst.lt q e; omega
              · rw [vals_snoc, List.foldl_append, ← HT.out.1]
                rw [HD.out] at m1
                exact m1
              · exact (j2.kept fun D hD => by rw [HG.out.2.1.same D _ (j2.op D hD).2 rfl, (j2.op D hD).2]).kept fun D hD => by
                  have h9 := HG.out.2.1.same D _ (j2.op D hD).2 rfl
                  rw [m2.oth.same D _ h9 rfl, h9]
              · rcases m2.at_ with e2 | e2
                · rw [e2] at e; exact j3 q e
                · have := e2 q e; omega
              · have := m2.below.size; omega
              · exact (j5.grown HG.out.1 j5.size (by simp)).trans m2.below
            · have qd : decide (y < 0) = false := by simpa using hneg
              have hdn : dvs (nth t.1 v + 1) t' x.1 = t' := by unfold dvs; rw [if_neg (by rw [← HY.out]; exact hneg)]
              have HN := Lib.hid hdn
              clear hneg h1 hdn
              gi_wp2
              obtain ⟨j1, j2, j3, j4, j5⟩ := HI.out
              refine ⟨(KeepsOthers.refl _).from _, fun q hq hql => rfl, _, ?_, j2, j3, j4, j5⟩
              rw [vals_snoc, List.foldl_append, ← HT.out.1]
              show DsW _ _ _ _ _ _ _ (dvs (nth t.1 v + 1) t' x.1) _ _ _
              rw [HN.out]
              exact j1
          case done =>
            rintro D ys Z hD hys ⟨ov', h1, h2, h3, h4, h5⟩ hK
            rw [hys] at h1
            rw [H3.out.1.2.2.2.2.1] at hD
            have hBz := H3.out.2.2.1
            have hop : OpenM W1.heap.size (D :: Ds) Z := h2.cons (by omega) (fun hm => by have := H3.out.2.2.2.1 D hm; omega) hK
            have hle := (dvsl_prefix (nth t.1 v + 1) (suc g.es v) t).length_le
            obtain ⟨kk, rfl⟩ : ∃ kk, gk = kk + 1 := ⟨gk - 1, by omega⟩
            have hb2 : dG g.es kk (i + 1) ((suc g.es v).foldl (dvs (nth t.1 v + 1)) t) = dG g.es (k + 1) 0 (root0 k r) := by
              rw [← HBF.out]
              conv => rhs; unfold dG
              rw [if_pos hlt, ← HVV.out.1]
            have HE := Lib.hid (And.intro hb2 (And.intro hop (And.intro h1 h5)))
            have i1 := h1.ix
            clear hb2 hop h1 h2 h3 h4 h5 hK hys
            go_wp2_with fail
            (refine Handed.intro (kk) ?measure ?_; rotate_left; go_step; refine InvD.intro (D :: Ds) ?_; dsimp only [FrE, slot]; (repeat apply Exists.intro); refine ⟨?rel, rfl⟩; try dsimp only)
            case rel =>
              have hz9 := HE.out.2.2.2
              have c3 := cell_alloc1 Z (.int .i64 ((i : Int) + 1)) 3
              exact ⟨i + 1, _, Z.heap.size, rfl, by omega, by omega, HE.out.1, HE.out.2.1.grown (grownBy_alloc _ _) (by simp), hz9.alloc hz9.size _, _, HE.out.2.2.1.move (grownBy_alloc _ _) (Nat.le_refl _) (by rw [c3]; rfl) (frozen_alloc1 _ _ _)⟩
            case measure => omega
          case stop =>
            rintro D c pre Z _ _ h _
            exact h.elim
        · obtain rfl : i = t.2.length := by omega
          have hL : t.1 = distL g [(r : Int)] := by
            unfold distL
            rw [HV.out.2, Int.toNat_natCast, root0_dS hrn, ← HR2.out.1]
            cases gk with
            | zero => rfl
            | succ kk => unfold dG; rw [if_neg (Nat.lt_irrefl _)]
          have HL := Lib.hid hL
          clear hL hds d0 d1 hlt hi
          go_wp2_with fail
          have ho4 := HR2.out.2.1
          have hBW : bs + 1 ≤ W1.heap.size := n1
          obtain ⟨f1, f2⟩ := shut_inv (B := W1.heap.size) (p := fun X => OwnI X bs 3 (.slice s k cap) (distL g [(r : Int)]) ∧ Below bs W X) (fun X D hD hX hp => ⟨hp.1.grown (grownBy_putObj' X D (.deferred none)) (own_ne_obj hp.1 hX rfl), hp.2.grown (grownBy_putObj' X D (.deferred none)) (by rw [← HBS.out]; exact hp.2.size) (fun k e => by have e2 := Option.some.inj e; omega)⟩) ho4 ⟨by rw [← HL.out]; exact HR2.out.2.2.2.row.mono (Nat.le_of_lt n1), H1.out.2.1.trans (HR2.out.2.2.1.mono (Nat.le_of_lt n1))⟩
          refine leaves_marks ho4 ⟨_, results_tmp rfl _ _ _, s, cap, ?_, ?_, ?_⟩
          · rw [HV.out.2]; rfl
          · rw [HV.out.2, HBS.out, Int.toNat_natCast]; exact f1
          · rw [HBS.out]; exact f2
end Go.Proofs.Ytjapnkhgijhakaa
