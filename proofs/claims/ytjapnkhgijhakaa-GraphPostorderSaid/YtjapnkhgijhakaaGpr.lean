/- Contract of the reference's Postorder. -/
import Derived.Test.YtjapnkhgijhakaaGpq
import Derived.Test.YtjapnkhgijhakaaGdr
namespace Go.Proofs.Ytjapnkhgijhakaa
open Go.RowKit Go.Dfl Go.Gra
theorem PsW.start {n cap v : Nat} {s : Option Addr} {W2 W3 : World} (h : Go.Dfl.Own Value.bool W3 W2.heap.size 4 (.slice s n cap) (List.replicate n false)) (hb : Below W2.heap.size W2 W3) (hv : v < n) :
    PsW W2.heap.size n cap s W2 ([v], []) [v] [0] (.slice none 0 0) (.slice (some ⟨W3.heap.size, 0, none⟩) 1 1) (.slice (some ⟨W3.heap.size + 1, 0, none⟩) 1 1) (((W3.setCell ⟨blk s, ofs s + v, none⟩ (.bool true)).alloc (.cells #[.int .i64 (v : Int)] 3)).alloc (.cells #[.int .i64 0] 3)) := by
  have hv0 : List.replicate n false = visB n [] := by
    unfold visB
    rw [eq_comm, List.eq_replicate_iff]
    exact ⟨by simp, fun b hb => by simp at hb; exact hb.2⟩
  rw [hv0] at h
  have h0 : PsW W2.heap.size n cap s W2 ([], []) [] [] (.slice none 0 0) (.slice none 0 0) (.slice none 0 0) W3 := ⟨h, Go.Dfl.Own.nil _ _ _ _, Go.Dfl.Own.nil _ _ _ _, Go.Dfl.Own.nil _ _ _ _, Ap.nil _ _ _, Ap.nil _ _ _, Ap.nil _ _ _, Ap.nil _ _ _, Ap.nil _ _ _, Ap.nil _ _ _, hb, hb.size⟩
  have h1 := h0.mark (v := v) hv
  have z1 : (W3.setCell ⟨blk s, ofs s + v, none⟩ (.bool true)).heap.size = W3.heap.size := World.size_setCell _ _ _
  have g1 := grownBy_alloc (W3.setCell ⟨blk s, ofs s + v, none⟩ (.bool true)) (.cells #[.int .i64 (v : Int)] 3)
  have h2 := h1.push (sv' := .slice (some ⟨W3.heap.size, 0, none⟩) 1 1) (v := v) (by
    have h3 := own_one' (Value.int .i64) (w := W3.setCell ⟨blk s, ofs s + v, none⟩ (.bool true)) (base := W2.heap.size) (e := 3) (B := W3.heap.size) (v : Int) z1.symm (by rw [z1]; exact hb.size)
    exact h3) (grownBy_widen g1) (.inr (by rw [z1]; rfl))
  have z2 : ((W3.setCell ⟨blk s, ofs s + v, none⟩ (.bool true)).alloc (.cells #[.int .i64 (v : Int)] 3)).heap.size = W3.heap.size + 1 := by rw [World.size_alloc, z1]
  have g2 := grownBy_alloc ((W3.setCell ⟨blk s, ofs s + v, none⟩ (.bool true)).alloc (.cells #[.int .i64 (v : Int)] 3)) (.cells #[.int .i64 (0 : Int)] 3)
  exact h2.pushD (dv' := .slice (some ⟨W3.heap.size + 1, 0, none⟩) 1 1) (v := 0) (by
    have h3 := own_one' (Value.int .i64) (w := (W3.setCell ⟨blk s, ofs s + v, none⟩ (.bool true)).alloc (.cells #[.int .i64 (v : Int)] 3)) (base := W2.heap.size) (e := 3) (B := W3.heap.size + 1) (0 : Int) z2.symm (by rw [z2]; have := hb.size; omega)
    exact h3) (grownBy_widen g2) (.inr (by rw [z2]; rfl))
theorem PsW.rdS {z1 n cap : Nat} {s : Option Addr} {WL : World} {t : List Nat × List Nat} {ls ld : List Nat} {ov sv dv : Value} {W : World} (h : PsW z1 n cap s WL t ls ld ov sv dv W) {x : Nat} (hx : x < n) : W.cell? ⟨blk s, ofs s + x, none⟩ = some (.bool (decide (x ∈ t.1))) ∧ (∀ Y', (Instr.indexAt 52 (.slice s n cap) (.int .i64 (x : Int))).run Try.prog Y' = .ok (.pointer (some ⟨blk s, ofs s + x, none⟩)) Y') ∧ W.frozen? ⟨blk s, ofs s + x, none⟩ = false := by
  obtain ⟨a9, c9, he, hm9, hidx, hcell, -⟩ := h.se.lst.out1 sBoolG
  rw [visB_len] at he hm9 hidx hcell
  simp only [Value.slice.injEq] at he
  obtain ⟨rfl, -, rfl⟩ := he
  have h1 := hcell x hx
  rw [visB_nth hx] at h1
  exact ⟨h1, fun Y' => by have := hidx .i64 (x : Int) (by omega) (by omega) Y'; rw [Int.toNat_natCast] at this; exact this, h.se.frozen (by rw [visB_len]; omega) _⟩
/-- The rows of the successors, in a later world. -/
theorem lists_rd {n gc : Nat} {ga : Option Addr} {g : G} {vs : List Value} {L0 : Nat} {WL W : World} (h : OwnN IIg WL L0 33 (.slice ga n gc) vs (listsTo g.es n g.es.length)) (hvg : VG g) (hn : g.n = n) (hb : Below WL.heap.size WL W) {v : Nat} (hv : v < n) :
    ∃ rs rc, W.cell? ⟨blk ga, ofs ga + v, none⟩ = some (.slice rs (suc g.es v).length rc) ∧ (∀ Y', (Instr.indexAt 63 (.slice ga n gc) (.int .i64 (v : Int))).run Try.prog Y' = .ok (.pointer (some ⟨blk ga, ofs ga + v, none⟩)) Y') ∧ ∀ k, k < (suc g.es v).length → W.cell? ⟨blk rs, ofs rs + k, none⟩ = some (.int .i64 ((nth (suc g.es v) k : Nat) : Int)) ∧ (∀ Y', (Instr.indexAt 33 (.slice rs (suc g.es v).length rc) (.int .i64 (k : Int))).run Try.prog Y' = .ok (.pointer (some ⟨blk rs, ofs rs + k, none⟩)) Y') ∧ nth (suc g.es v) k < n := by
  have hgl : (listsTo g.es n g.es.length).length = n := listsTo_len _ _ _
  have h' := h.grown kIIg (grownBy_below hb) (by simp)
  obtain ⟨a4, c4, he, hm4, hidx4, hcell4, -⟩ := h'.out.lst.out1 sRowsG
  rw [h'.len, hgl] at he hm4 hidx4 hcell4
  simp only [Value.slice.injEq] at he
  obtain ⟨rfl, -, rfl⟩ := he
  have cg := hcell4 v hv
  have hrow : nth (listsTo g.es n g.es.length) v = (suc g.es v).map fun x : Nat => (x : Int) := by
    rw [listsTo_nth hv, succK_suc hvg (by omega)]; rfl
  have hinn := h'.inn v (by rw [hgl]; exact hv)
  rw [hrow] at hinn
  obtain ⟨rs, rc, hvs⟩ := hinn.shape (n := (suc g.es v).length) (by rw [List.length_map])
  rw [hvs] at cg hinn
  obtain ⟨a5, c5, he, hm5, hidx5, hcell5, -⟩ := hinn.lst.out1 sIntG
  rw [List.length_map] at he hm5 hidx5 hcell5
  simp only [Value.slice.injEq] at he
  obtain ⟨rfl, -, rfl⟩ := he
  refine ⟨rs, rc, cg, fun Y' => by have := hidx4 .i64 (v : Int) (by omega) (by omega) Y'; rw [Int.toNat_natCast] at this; exact this, fun k hk => ⟨?_, fun Y' => by have := hidx5 .i64 (k : Int) (by omega) (by omega) Y'; rw [Int.toNat_natCast] at this; exact this, ?_⟩⟩
  · rw [hcell5 k hk, nth_eq _ _ (by rw [List.length_map]; exact hk), List.getElem_map, nth_eq _ _ hk]
  · have := suc_node hvg (nth_mem (suc g.es v) k hk); omega
set_option maxHeartbeats 3200000 in
set_option maxRecDepth 100000 in
theorem rPostorder_any (g : G) (cv : Value) (r : Int) (W : World) (h : Pairs W cv g.es) : Calls Try.prog 25 #[GV g cv, .int .i64 r] W (PostR g r W) := by
  obtain ⟨ca, cc, rfl, -, -, -⟩ := pairs_rd h
  have hal := (Below.refl W.heap.size W).alloc (Nat.le_refl _) (.cells #[.int .i64 g.n, .slice ca g.es.length cc] 25)
  have H0 := Lib.hid (And.intro (h.below hal) (And.intro hal (BoxG.new W g.n (.slice ca g.es.length cc) 25)))
  clear h hal
  obtain ⟨c0, c1⟩ := H0.out.2.2
  unfold GV
  go_enter Try.func25, Try.ntmps25
  go_wp2_with fail
  have hck := rNode_any g (.slice ca g.es.length cc) r _ H0.out.1
  unfold GV at hck
  refine hck.mono ?_
  rintro e W1 ⟨rfl, r1⟩
  have H1 := Lib.hid (And.intro (H0.out.1.below r1) (And.intro (H0.out.2.1.trans (r1.mono H0.out.2.1.size)) (H0.out.2.2.below r1)))
  clear r1 hck c0 c1
  obtain ⟨c0, c1⟩ := H1.out.2.2
  have n1 : W.heap.size < W1.heap.size := H1.out.2.2.lt
  generalize hbs : W.heap.size = bs at *
  have HBS := Lib.hid hbs
  clear hbs
  cases hnd : nodeG g r
  · have HN : Hid (postZ g r = []) := Lib.hid (by unfold postZ; rw [hnd]; rfl)
    go_wp2_with fail
    go_ret
    exact ⟨none, 0, by rw [HN.out]; rfl, by rw [HN.out]; exact Lst.nil _ _, by rw [HBS.out]; exact H1.out.2.1⟩
  · obtain ⟨hvg, hv0, hv1⟩ := nodeG_iff.1 hnd
    obtain ⟨v, rfl⟩ : ∃ v : Nat, r = v := ⟨r.toNat, by omega⟩
    obtain ⟨n, hn⟩ : ∃ n : Nat, g.n = n := ⟨g.n.toNat, by omega⟩
    have hnt : g.n.toNat = n := by omega
    have HN : Hid (postZ g (v : Int) = (dfs g.es n v ([], [])).2) := Lib.hid (by
      unfold postZ postL
      rw [if_pos hnd, hn, Int.toNat_natCast, Int.toNat_natCast])
    have hn8 : n ≤ 8192 := by have := hvg.n1; omega
    have hl := hvg.len
    have hvn : v < n := by omega
    have HV := Lib.hid (And.intro hvg (And.intro hn hnt))
    clear hv0 hv1 hnt hnd
    go_wp2_with fail
    have hli := rLists_any g (.slice ca g.es.length cc) W1 H1.out.1 hvg
    unfold GV at hli
    rw [hn] at hli
    refine hli.mono ?_
    rintro e W2 ⟨ga, gc, vs, rfl, gr, gb⟩
    rw [hn, Int.toNat_natCast] at gr ⊢
    have hbx := H1.out.2.2.below gb
    rw [hn] at hbx
    have HG := Lib.hid (And.intro gr gb)
    have hbel := H1.out.2.1.trans (gb.mono (Nat.le_of_lt n1))
    have HB2 := Lib.hid hbel
    clear hli gr gb hvg hn hbel c0 c1
    obtain ⟨c0, c1⟩ := hbx
    go_wp2_with (at_make; refine wp_make (f := Value.bool) false sBoolG rfl _ rfl _ _ rfl .i64 .i64 _ _ n rfl rfl rfl rfl (by omega) (by unfold maxLen; omega) ?_)
    intro s cap W3 hrow hb3
    have hst := PsW.start hrow hb3 hvn
    obtain ⟨a9, c9, he, hm9, hidx, hcell, -⟩ := hrow.lst.out1 sBoolG
    rw [List.length_replicate] at he hm9 hidx hcell
    simp only [Value.slice.injEq] at he
    obtain ⟨rfl, -, rfl⟩ := he
    have hcv := hcell v hvn
    have hiv := hidx .i64 (v : Int) (by omega) (by omega)
    rw [Int.toNat_natCast] at hiv
    have hfv := hrow.frozen (by simp; omega) (ofs s + v)
    have HS := Lib.hid hst
    clear hrow hb3 hst hidx hcell c0 c1
    go_wp2_with fail
    have hfi := FI.start HV.out.1 (v := v) (by rw [HV.out.2.2]; exact hvn)
    rw [HV.out.2.2] at hfi
    have HFI := Lib.hid hfi
    clear hfi hcv hiv hfv hvn
    obtain ⟨T, hT⟩ : ∃ T, T = dfs g.es n v ([], []) := ⟨_, rfl⟩
    rw [← hT] at HFI HN
    clear hT
    go_loopg [5, 8, 9] (mFr g.es n ([v], []) [(v, 0)]) (fun gk o p q wr => ∃ (t : List Nat × List Nat) (fr : List (Nat × Nat)) (oa : Option Addr) (oc : Nat) (sa : Option Addr) (sc : Nat) (da : Option Addr) (dc : Nat), o = .slice oa t.2.length oc ∧ p = .slice sa fr.length sc ∧ q = .slice da fr.length dc ∧ Hid (FI g t fr T ∧ mFr g.es n t fr = gk ∧ PsW W2.heap.size n cap s W2 t (fr.reverse.map fun f => f.1) (fr.reverse.map fun f => f.2) (.slice oa t.2.length oc) (.slice sa fr.length sc) (.slice da fr.length dc) wr))
    case atStart => exact ⟨([v], []), [(v, 0)], none, 0, _, 1, _, 1, rfl, rfl, rfl, HFI.out, rfl, HS.out⟩
    case round =>
      obtain ⟨t, fr, oa, oc, sa, sc, da, dc, rfl, rfl, rfl, hh⟩ := hrel
      obtain ⟨hfi, hmk, hps⟩ := hh.out
      clear hh
      rcases fr with _ | ⟨⟨x, k⟩, r⟩
      · have HX := Lib.hid (And.intro hfi hps)
        clear hfi hmk hps
        go_wp2_with fail
        go_ret
        have h1 := HX.out.1.fin
        refine ⟨oa, oc, by rw [HN.out, ← h1]; rfl, ?_, by rw [HBS.out]; exact HB2.out.trans (HX.out.2.bel.mono (by have := HG.out.2.size; omega))⟩
        rw [HN.out, ← h1]; exact HX.out.2.ou.lst
      · obtain ⟨m, hm⟩ : ∃ m, r.length = m := ⟨_, rfl⟩
        obtain ⟨ls, hls⟩ : ∃ ls, ls = r.reverse.map fun f => f.1 := ⟨_, rfl⟩
        obtain ⟨ld, hld⟩ : ∃ ld, ld = r.reverse.map fun f => f.2 := ⟨_, rfl⟩
        have hlm : ls.length = m := by rw [hls]; simp [hm]
        have hldm : ld.length = m := by rw [hld]; simp [hm]
        rw [show (((x, k) :: r).reverse.map fun f => f.1) = ls ++ [x] by rw [hls]; simp, show (((x, k) :: r).reverse.map fun f => f.2) = ld ++ [k] by rw [hld]; simp, List.length_cons, hm] at hps
        rw [List.length_cons, hm]
        obtain ⟨hxn, hkl⟩ := hfi.mem (x, k) (by simp)
        rw [HV.out.2.2] at hxn
        dsimp only at hxn hkl
        have hcnt := hfi.cnt
        have hle := hfi.ok.le
        rw [HV.out.2.2] at hle
        rw [List.length_cons, hm] at hcnt
        have hps2 := hps.grown (grownBy_drew0 wr)
        obtain ⟨sa', sc', he, hm1, cs, is, -⟩ := top_rd hps2.st
        rw [hlm] at he hm1 cs is
        simp only [Value.slice.injEq] at he
        obtain ⟨rfl, -, rfl⟩ := he
        obtain ⟨da', dc', he, -, cd, ix, fd⟩ := top_rd hps2.dn
        rw [hldm] at he cd ix fd
        simp only [Value.slice.injEq] at he
        obtain ⟨rfl, -, rfl⟩ := he
        obtain ⟨sa2, sc2, da2, dc2, r1, r2, hpop⟩ := hps2.pop (by omega)
        rw [hlm] at r1 r2 hpop
        have hwm : IntKind.i64.wrap (((m + 1 : Nat) : Int) - 1) = (m : Int) := by rw [show ((m + 1 : Nat) : Int) - 1 = (m : Int) by omega]; exact IntWalk.i64_in _ (by omega)
        have hg0 : (0 : Int) < ((m + 1 : Nat) : Int) := by omega
        have HP := Lib.hid (And.intro hps2 (And.intro hfi (And.intro hmk (And.intro hpop (And.intro hls (And.intro hld hm))))))
        have hsl : (suc g.es x).length ≤ 32768 := Nat.le_trans (suc_len _ _) hl
        clear hps hps2 hfi hmk hpop hls hld hm
        go_upto_region 11 with fail
        refine wp_region_plan (.take 0 (.take 1 (.take 2 (.take 3 (.take 4 (.take 5 (.take 6 (.take 7 (.take 8 (.take 9 .done))))))))))
          (fun w' => w' = wr.drew) (by kernel_rfl) (by kernel_rfl) (by kernel_rfl) (by kernel_rfl) rfl ?_
        generalize wr.drew = V at *
        repeat (
          refine plan_take (v := ?_) rfl (Or.inl ⟨by rfl, ?_⟩) ?_
          rotate_left
          · (rintro W rfl; go_simp; try with_reducible rfl)
          simp only [Act.put, List.setIfInBounds_toArray, List.getElem_toArray, List.getElem_cons_zero, List.getElem_cons_succ, List.set_cons_succ, List.set_cons_zero])
        refine plan_done ?_
        obtain ⟨rs, rc, cg, ig, hrow⟩ := lists_rd HG.out.1 HV.out.1 HV.out.2.1 HP.out.1.bel hxn
        have HROW := Lib.hid hrow
        by_cases hk : k = (suc g.es x).length
        · have q1 : ((k : Int) == ((suc g.es x).length : Int)) = true := by rw [hk]; simp
          have hfx := HP.out.2.1
          have hmx := HP.out.2.2.1
          rw [hk] at hfx hmx
          obtain ⟨f1, f2⟩ := hfx.pop
          rw [HV.out.2.2] at f2
          have HF := Lib.hid (And.intro f1 (And.intro f2 hmx))
          clear hrow hk hfx hmx f1 f2
          go_upto_region 13 with fail
          have HX := Lib.hid (And.intro HP.out.1.ou (And.intro (show (cst t.2).length < 17592186044416 by unfold cst; rw [List.length_map]; omega) HP.out.1.hz))
          go_wp2_with (at_builtin; refine wp_append1at (f := Value.int .i64) sIntG rfl _ rfl _ _ rfl W2.heap.size _ (cst t.2) rfl (HX.out.1.alloc _) (x : Int) ⟨V.heap.size, 0, none⟩ rfl (cell_alloc1 V (.int .i64 (x : Int)) 3) rfl HX.out.2.1 (by omega) (le_alloc _ HX.out.2.2) ?_; intro v' w3 hown hgr hat; obtain ⟨s9, c9, rfl⟩ := hown.shape (n := t.2.length + 1) (by unfold cst; rw [List.length_append, List.length_map]; rfl); have HO := Lib.hid (And.intro hown (And.intro hgr hat)); clear hown hgr hat)
          have hpo := (HP.out.1.grown (grownBy_alloc V (.cells #[.int .i64 (x : Int)] 3))).out HO.out.1 HO.out.2.1 HO.out.2.2
          have HPO := Lib.hid (HP.out.2.2.2.1 _ _ _ hpo)
          clear hpo
          go_wp2_with fail
          go_roundg (mFr g.es n (t.1, t.2 ++ [x]) r)
          case rel =>
            obtain ⟨-, -, -, -, e1, e2, e3⟩ := HP.out
            subst e3
            rw [e1, e2] at HPO
            exact ⟨(t.1, t.2 ++ [x]), r, s9, c9, sa2, sc2, da2, dc2, by simp, rfl, rfl, HF.out.1, rfl, by simpa using HPO.out⟩
          case measure => rw [← HF.out.2.2]; exact HF.out.2.1
        · have q1 : ((k : Int) == ((suc g.es x).length : Int)) = false := by simpa using fun h => hk (by omega)
          have hkk : k < (suc g.es x).length := by omega
          have hwk : IntKind.i64.wrap ((k : Int) + 1) = (k : Int) + 1 := IntWalk.i64_in _ (by omega)
          have hpi := HP.out.1.inc (v := k + 1)
          rw [hldm, show ((k + 1 : Nat) : Int) = (k : Int) + 1 by omega] at hpi
          have HPI := Lib.hid hpi
          have HK := Lib.hid hkk
          clear hrow hk hpi hkk
          go_upto_region 17 with fail
          generalize V.setCell ⟨blk da, ofs da + m, none⟩ (.int .i64 ((k : Int) + 1)) = V2 at *
          obtain ⟨rs2, rc2, cg2, -, hrow2⟩ := lists_rd HG.out.1 HV.out.1 HV.out.2.1 HPI.out.bel hxn
          obtain ⟨ck, ik, hyn⟩ := hrow2 k HK.out
          obtain ⟨y, hy⟩ : ∃ y, y = nth (suc g.es x) k := ⟨_, rfl⟩
          rw [← hy] at ck hyn
          obtain ⟨cy, iy, fy⟩ := HPI.out.rdS hyn
          have HY := Lib.hid hy
          clear hrow2 hy cg cs cd q1
          have hkl2 : (k : Int) < ((suc g.es x).length : Int) := by have := HK.out; omega
          by_cases hm : y ∈ t.1
          · rw [decide_eq_true hm] at cy
            obtain ⟨f1, f2⟩ := HP.out.2.1.old HK.out (by rw [← HY.out]; exact hm)
            rw [HV.out.2.2] at f2
            have HF := Lib.hid (And.intro f1 f2)
            clear hm f1 f2
            go_wp2_with fail
            go_roundg (mFr g.es n t ((x, k + 1) :: r))
            case rel =>
              obtain ⟨-, -, -, -, e1, e2, e3⟩ := HP.out
              subst e3
              rw [e1, e2] at HPI
              exact ⟨t, (x, k + 1) :: r, oa, oc, sa, sc, da, dc, rfl, rfl, rfl, HF.out.1, rfl, by simpa using HPI.out⟩
            case measure => rw [← HP.out.2.2.1]; exact HF.out.2
          · rw [decide_eq_false hm] at cy
            obtain ⟨f1, f2⟩ := HP.out.2.1.new HV.out.1 HK.out (by rw [← HY.out]; exact hm)
            rw [HV.out.2.2, ← HY.out] at f2
            rw [← HY.out] at f1
            have HF := Lib.hid (And.intro f1 f2)
            have HMK := Lib.hid (HPI.out.mark hyn)
            clear hm f1 f2
            go_upto_region 20 with fail
            generalize V2.setCell ⟨blk s, ofs s + y, none⟩ (.bool true) = V3 at *
            have HX := Lib.hid (And.intro HMK.out.st (And.intro (show (cst (ls ++ [x])).length < 17592186044416 by unfold cst; rw [List.length_map, List.length_append, List.length_singleton]; omega) HMK.out.hz))
            go_upto_region 21 with (at_builtin; refine wp_append1at (f := Value.int .i64) sIntG rfl _ rfl _ _ rfl W2.heap.size _ (cst (ls ++ [x])) rfl (HX.out.1.alloc _) (y : Int) ⟨V3.heap.size, 0, none⟩ rfl (cell_alloc1 V3 (.int .i64 (y : Int)) 3) rfl HX.out.2.1 (by omega) (le_alloc _ HX.out.2.2) ?_; intro v' w3 hown hgr hat; obtain ⟨s9, c9, rfl⟩ := hown.shape (n := m + 1 + 1) (by unfold cst; rw [List.length_append, List.length_map, List.length_append, hlm]; rfl); have HO := Lib.hid (And.intro hown (And.intro hgr hat)); clear hown hgr hat)
            have hpo := (HMK.out.grown (grownBy_alloc V3 (.cells #[.int .i64 (y : Int)] 3))).push HO.out.1 HO.out.2.1 HO.out.2.2
            have HPO := Lib.hid hpo
            have HX2 := Lib.hid (And.intro hpo.dn (And.intro (show (cst (ld ++ [k + 1])).length < 17592186044416 by unfold cst; rw [List.length_map, List.length_append, List.length_singleton]; omega) hpo.hz))
            clear hpo HX
            go_wp2_with (at_builtin; refine wp_append1at (f := Value.int .i64) sIntG rfl _ rfl _ _ rfl W2.heap.size _ (cst (ld ++ [k + 1])) rfl (HX2.out.1.alloc _) 0 ⟨w3.heap.size, 0, none⟩ rfl (cell_alloc1 w3 (.int .i64 0) 3) rfl HX2.out.2.1 (by omega) (le_alloc _ HX2.out.2.2) ?_; intro v'' w4 hown hgr hat; obtain ⟨s8, c8, rfl⟩ := hown.shape (n := m + 1 + 1) (by unfold cst; rw [List.length_append, List.length_map, List.length_append, hldm]; rfl); have HO2 := Lib.hid (And.intro hown (And.intro hgr hat)); clear hown hgr hat)
            have hpo := (HPO.out.grown (grownBy_alloc w3 (.cells #[.int .i64 (0 : Int)] 3))).pushD (v := 0) HO2.out.1 HO2.out.2.1 HO2.out.2.2
            have HPO2 := Lib.hid hpo
            clear hpo
            go_roundg (mFr g.es n (t.1 ++ [y], t.2) ((y, 0) :: (x, k + 1) :: r))
            case rel =>
              obtain ⟨-, -, -, -, e1, e2, e3⟩ := HP.out
              subst e3
              rw [e1, e2] at HPO2
              exact ⟨(t.1 ++ [y], t.2), (y, 0) :: (x, k + 1) :: r, oa, oc, s9, c9, s8, c8, rfl, rfl, rfl, HF.out.1, rfl, by simpa using HPO2.out⟩
            case measure => rw [← HP.out.2.2.1]; exact HF.out.2
end Go.Proofs.Ytjapnkhgijhakaa
