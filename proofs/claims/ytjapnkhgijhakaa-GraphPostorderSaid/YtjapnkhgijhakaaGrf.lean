/- Contract of the reference's Path. -/
import Derived.Test.YtjapnkhgijhakaaGrh
import Derived.Test.YtjapnkhgijhakaaGrw
import Derived.Test.YtjapnkhgijhakaaGpa
namespace Go.Gra
open Go.Dfl (nth nth_mem mem_nth nth_eq nth_ext nth_set take_snoc)
theorem nxt_at {es : List (Int × Int)} {far : List Int} {v j kk : Nat} (hj : j < (suc es v).length) (hv : nth far v = (kk : Int) + 1) (hno : ∀ y ∈ (suc es v).take j, nth far y ≠ (kk : Int)) (hx : nth far (nth (suc es v) j) = (kk : Int)) : nxt es far v = nth (suc es v) j := by
  have h1 : suc es v = (suc es v).take j ++ (nth (suc es v) j :: (suc es v).drop (j + 1)) := by
    rw [← drop_nth _ _ hj, List.take_append_drop]
  unfold nxt
  rw [hv, show (kk : Int) + 1 - 1 = kk by omega, h1, List.find?_append, List.find?_eq_none.2 (fun y hy => by simpa using hno y hy)]
  rw [← h1]
  simp [hx]
end Go.Gra
namespace Go.Proofs.Ytjapnkhgijhakaa
open Go.RowKit Go.Dfl Go.Gra
set_option maxHeartbeats 3200000 in
set_option maxRecDepth 100000 in
theorem rPath_any (g : G) (cv : Value) (a b : Int) (W : World) (h : Pairs W cv g.es) : Calls Try.prog 21 #[GV g cv, .int .i64 a, .int .i64 b] W (PathR g a b W) := by
  obtain ⟨ca, cc, rfl, -, -, -⟩ := pairs_rd h
  have hal := (Below.refl W.heap.size W).alloc (Nat.le_refl _) (.cells #[.int .i64 g.n, .slice ca g.es.length cc] 25)
  have H0 := Lib.hid (And.intro (h.below hal) (And.intro hal (BoxG.new W g.n (.slice ca g.es.length cc) 25)))
  clear h hal
  unfold GV
  go_enter Try.func21, Try.ntmps21
  go_wp2_with fail
  have hck := rNode_any g (.slice ca g.es.length cc) a _ H0.out.1
  unfold GV at hck
  refine hck.mono ?_
  rintro e W1 ⟨rfl, r1⟩
  have H1 := Lib.hid (And.intro (H0.out.1.below r1) (And.intro (H0.out.2.1.trans (r1.mono H0.out.2.1.size)) (H0.out.2.2.below r1)))
  clear r1 hck H0
  obtain ⟨c0, c1⟩ := H1.out.2.2
  have n1 : W.heap.size < W1.heap.size := H1.out.2.2.lt
  generalize hbs : W.heap.size = bs at *
  have HBS := Lib.hid hbs
  clear hbs
  cases hna : nodeG g a
  · have HN : Hid (PathIs g a b false []) := Lib.hid (.bad fun h => by unfold nodeG at hna; rw [decide_eq_true h.1, h.2.1] at hna; cases hna)
    go_wp2_with fail
    refine bodyPost_ret (results_tmp2 rfl _ _ _) rfl ?_
    exact ⟨false, none, 0, [], rfl, Lst.nil _ _, by rw [HBS.out]; exact H1.out.2.1, HN.out⟩
  · go_wp2_with fail
    have hck := rNode_any g (.slice ca g.es.length cc) b _ H1.out.1
    unfold GV at hck
    refine hck.mono ?_
    rintro e W2 ⟨rfl, r2⟩
    have H2 := Lib.hid (And.intro (H1.out.1.below r2) (And.intro (H1.out.2.1.trans (r2.mono (Nat.le_of_lt n1))) (H1.out.2.2.below r2)))
    have hz12 := r2.size
    clear r2 hck c0 c1 H1
    obtain ⟨c0, c1⟩ := H2.out.2.2
    have n2 : bs < W2.heap.size := by omega
    cases hnb : nodeG g b
    · have HN : Hid (PathIs g a b false []) := Lib.hid (.bad fun h => by unfold nodeG at hnb; rw [decide_eq_true h.1, h.2.2] at hnb; cases hnb)
      go_wp2_with fail
      refine bodyPost_ret (results_tmp2 rfl _ _ _) rfl ?_
      exact ⟨false, none, 0, [], rfl, Lst.nil _ _, by rw [HBS.out]; exact H2.out.2.1, HN.out⟩
    · obtain ⟨hvg, ha0, ha1⟩ := nodeG_iff.1 hna
      obtain ⟨-, hb0, hb1⟩ := nodeG_iff.1 hnb
      obtain ⟨n, hn⟩ : ∃ n : Nat, n = g.n.toNat := ⟨_, rfl⟩
      obtain ⟨a, rfl⟩ : ∃ k : Nat, a = k := ⟨a.toNat, by omega⟩
      obtain ⟨b, rfl⟩ : ∃ k : Nat, b = k := ⟨b.toNat, by omega⟩
      have hn8 : n ≤ 8192 := by have := hvg.n1; omega
      have han : a < n := by omega
      have hbn : b < n := by omega
      have hna' : nodeB g.n (a : Int) = true := nodeB_iff.2 ⟨ha0, ha1⟩
      have hnb' : nodeB g.n (b : Int) = true := nodeB_iff.2 ⟨hb0, hb1⟩
      have HV := Lib.hid (And.intro hvg (And.intro hn (And.intro (gCode_ok.2 hvg) (And.intro hna' hnb'))))
      clear hvg hn ha0 ha1 hb0 hb1 hna' hnb' hz12 n1
      go_wp2_with fail
      have hre := rReverse_any g (.slice ca g.es.length cc) W2 H2.out.1
      unfold GV at hre
      refine hre.mono ?_
      rintro e W3 (⟨hc, -⟩ | ⟨-, ra, rc, r, rfl, hr1, hr2, hr3⟩)
      · exact absurd HV.out.2.2.1 hc
      have HR := Lib.hid (And.intro (own_pairs hr1) (And.intro hr2 hr3))
      obtain ⟨c0', c1'⟩ := H2.out.2.2.below hr3
      clear hre hr1 hr2 hr3
      unfold GV
      go_wp2_with fail
      have hvr := HV.out.1.rev HR.out.2.1
      have hal3 := (Below.refl W3.heap.size W3).alloc (Nat.le_refl _) (.cells #[.int .i64 (b : Int)] 3)
      have hdi := rDistances_any ⟨g.n, r⟩ (.slice ra r.length rc) (.slice (some ⟨W3.heap.size, 0, none⟩) 1 1) [(b : Int)] _ (HR.out.1.below hal3) (own_one' (Value.int .i64) (w := W3) (base := W3.heap.size) (e := 3) (B := W3.heap.size) (b : Int) rfl (Nat.le_refl _)).lst hvr
      unfold GV at hdi
      refine hdi.mono ?_
      rintro e W4 ⟨s, cap, rfl, d1, d2⟩
      dsimp only at d1 d2 ⊢
      have hfl : (farL g.n r b).length = n := by unfold farL; rw [distL_len hvr, HV.out.2.1]
      change OwnI W4 _ 3 _ (farL g.n r b) at d1
      rw [← HV.out.2.1] at d1 ⊢
      obtain ⟨far, hfar⟩ : ∃ far, far = farL g.n r b := ⟨_, rfl⟩
      rw [← hfar] at d1 hfl
      have htop : nth far a ≤ (n : Int) := by
        have e1 := distL_top hvr (r := b) (by rw [← HV.out.2.1]; exact hbn) (w := a) (by rw [← HV.out.2.1]; exact han)
        dsimp only at e1
        rw [hfar]; unfold farL
        rw [← HV.out.2.1] at e1
        exact e1
      have hb34 : Below W3.heap.size W3 W4 := hal3.trans (d2.mono hal3.size)
      have hb24 : Below W2.heap.size W2 W4 := HR.out.2.2.trans (hb34.mono HR.out.2.2.size)
      have hnx : ∀ (v k : Nat), v < n → nth far v = (k : Int) + 1 → nxt g.es far v ∈ suc g.es v ∧ nth far (nxt g.es far v) = k ∧ nxt g.es far v < n := fun v k hv hk => by
        have e1 := nxt_spec HV.out.1 HR.out.2.1 (b := b) HV.out.2.2.2.2 (v := v) (k := k) (by rw [← HV.out.2.1]; exact hv) (by rw [← hfar]; exact hk)
        rw [← HV.out.2.1, ← hfar] at e1; exact e1
      have hfz : ∀ v, v < n → 0 ≤ nth far v → (nth far v = 0 ↔ v = b) := fun v hv h0 => by
        have e1 := far_zero HV.out.1 HR.out.2.1 (b := b) HV.out.2.2.2.2 (v := v) (by rw [← HV.out.2.1]; exact hv) (by rw [← hfar]; exact h0)
        rw [← hfar] at e1; exact e1
      obtain ⟨a9, c9, he, hm9, hidx, hcell, hblk⟩ := d1.lst.out1 sIntG
      rw [hfl] at he hm9 hidx hcell hblk
      simp only [Value.slice.injEq] at he
      obtain ⟨rfl, -, rfl⟩ := he
      have hci := hcell a han
      have hii := hidx .i64 (a : Int) (by omega) (by omega)
      rw [Int.toNat_natCast] at hii
      obtain ⟨y, hy⟩ : ∃ y, y = nth far a := ⟨_, rfl⟩
      rw [← hy] at hci
      have HF := Lib.hid (And.intro hfar (And.intro hnx (And.intro hfz (And.intro hb24 (And.intro hy (And.intro htop hfl))))))
      have HC := Lib.hid (And.intro hcell (And.intro hblk hidx))
      obtain ⟨d0, d1'⟩ := H2.out.2.2.below hb24
      clear hvr hdi hfl hfar htop hb24 hb34 hnx hfz hidx hcell hblk hy d1 d2 hal3 hm9
      by_cases hyn : y < 0
      · have qy : decide (y < 0) = true := by simpa using hyn
        have HN : Hid (PathIs g a b false []) := Lib.hid (.no ⟨HV.out.2.2.1, HV.out.2.2.2.1, HV.out.2.2.2.2⟩ r HR.out.2.1 (by rw [Int.toNat_natCast, Int.toNat_natCast, ← HF.out.1, ← HF.out.2.2.2.2.1]; exact hyn))
        clear hyn
        go_wp2_with fail
        refine bodyPost_ret (results_tmp2 rfl _ _ _) rfl ?_
        exact ⟨false, none, 0, [], rfl, Lst.nil _ _, by rw [HBS.out]; exact H2.out.2.1.trans (HF.out.2.2.2.1.mono (Nat.le_of_lt n2)), HN.out⟩
      · have qy : decide (y < 0) = false := by simpa using hyn
        obtain ⟨k, rfl⟩ : ∃ k : Nat, y = k := ⟨y.toNat, by omega⟩
        have hk8 : k ≤ 8192 := by have h1 := HF.out.2.2.2.2.2.1; have h2 := HF.out.2.2.2.2.1; omega
        clear hyn
        go_wp2_with fail
        clear hci hii
        have hli := rLists_any g (.slice ca g.es.length cc) W4 (H2.out.1.below HF.out.2.2.2.1) HV.out.1
        unfold GV at hli
        refine hli.mono ?_
        rintro e W5 ⟨ga, gc, vs, rfl, gr, gb⟩
        rw [← HV.out.2.1] at gr ⊢
        have HG := Lib.hid (And.intro gr.grid gb)
        clear hli gr gb
        have hgl : (listsTo g.es n g.es.length).length = n := listsTo_len _ _ _
        obtain ⟨a4, c4, he, hm4, hidx4, hcell4, hblk4⟩ := HG.out.1.1.out1 sRowsG
        rw [HG.out.1.2.1, hgl] at he hm4 hidx4 hcell4 hblk4
        simp only [Value.slice.injEq] at he
        obtain ⟨rfl, -, rfl⟩ := he
        have HC4 := Lib.hid (And.intro hcell4 (And.intro hblk4 hidx4))
        clear hcell4 hblk4 hidx4
        go_wp2_with fail
        have HA5 := Lib.hid (And.intro (own_one' (Value.int .i64) (w := W5) (base := W5.heap.size) (e := 3) (B := W5.heap.size) (a : Int) rfl (Nat.le_refl _)) ((Below.refl W5.heap.size W5).alloc (Nat.le_refl _) (.cells #[.int .i64 (a : Int)] 3)))
        have hgrid : ∀ Z, Below W5.heap.size W5 Z → ∀ v, v < n → ∃ rs rc, nth vs v = .slice rs (suc g.es v).length rc ∧ Z.cell? ⟨blk ga, ofs ga + v, none⟩ = some (.slice rs (suc g.es v).length rc) ∧ ∀ j, j < (suc g.es v).length → Z.cell? ⟨blk rs, ofs rs + j, none⟩ = some (.int .i64 ((nth (suc g.es v) j : Nat) : Int)) ∧ ∀ Y', (Instr.indexAt 33 (.slice rs (suc g.es v).length rc) (.int .i64 (j : Int))).run Try.prog Y' = .ok (.pointer (some ⟨blk rs, ofs rs + j, none⟩)) Y' := fun Z hZ v hv => by
          have h1 := HG.out.1.2.2 v (by rw [hgl]; exact hv)
          rw [listsTo_nth hv, succK_suc HV.out.1 (by omega), Int.toNat_natCast] at h1
          obtain ⟨rs, rc, he, hm, hix, hcl, hbl⟩ := h1.out1 sIntG
          rw [List.length_map] at he hm hix hcl hbl
          refine ⟨rs, rc, he, ?_, fun j hj => ⟨?_, fun Y' => ?_⟩⟩
          · rw [hZ.cell (p := ⟨blk ga, ofs ga + v, none⟩) (HC4.out.2.1 v hv), HC4.out.1 v hv, he]
          · rw [hZ.cell (p := ⟨blk rs, ofs rs + j, none⟩) (hbl j hj), hcl j hj, nth_eq _ _ (by rw [List.length_map]; exact hj), List.getElem_map, nth_eq _ _ hj]
          · have := hix .i64 (j : Int) (by omega) (by omega) Y'; rw [Int.toNat_natCast] at this; exact this
        have hfar : ∀ Z, Below W5.heap.size W5 Z → ∀ j, j < n → Z.cell? ⟨blk s, ofs s + j, none⟩ = some (.int .i64 (nth far j)) ∧ ∀ Y', (Instr.indexAt 33 (.slice s n cap) (.int .i64 (j : Int))).run Try.prog Y' = .ok (.pointer (some ⟨blk s, ofs s + j, none⟩)) Y' := fun Z hZ j hj => by
          have hb45 : Below W4.heap.size W4 Z := HG.out.2.trans (hZ.mono HG.out.2.size)
          refine ⟨?_, fun Y' => ?_⟩
          · rw [hb45.cell (p := ⟨blk s, ofs s + j, none⟩) (HC.out.2.1 j hj), HC.out.1 j hj]
          · have := HC.out.2.2 .i64 (j : Int) (by omega) (by omega) Y'; rw [Int.toNat_natCast] at this; exact this
        have HGR := Lib.hid (And.intro hgrid hfar)
        clear hgrid hfar hm4
        go_loopg [10, 11] k (fun m pv x wr => ∃ (v : Nat) (p : List Nat) (ps : Option Addr) (pc : Nat), pv = .slice ps (p.length + 1) pc ∧ x = .int .i64 v ∧ v < n ∧ p.length + m = k ∧ Hid (nth far v = m) ∧ Hid (p ++ pathL g.es far m v = pathL g.es far k a ∧ OwnI wr W5.heap.size 3 (.slice ps (p.length + 1) pc) ((p ++ [v]).map fun x : Nat => (x : Int)) ∧ Below W5.heap.size W5 wr))
        case atStart => exact ⟨a, [], _, _, rfl, rfl, han, by simp, HF.out.2.2.2.2.1.symm, rfl, HA5.out.1, HA5.out.2⟩
        case round =>
          obtain ⟨v, p, ps, pc, rfl, rfl, hvn, hpk, hvm, hh⟩ := hrel
          have hzr := HF.out.2.2.1 v hvn (by rw [hvm.out]; omega)
          rw [hvm.out] at hzr
          cases gk with
          | zero =>
            obtain rfl := hzr.1 rfl
            clear hzr
            go_wp2_with fail
            refine bodyPost_ret (results_tmp2 rfl _ _ _) rfl ?_
            have hfull : p ++ [v] = pathL g.es far k a := hh.out.1
            refine ⟨true, ps, pc, p ++ [v], ?_, ?_, ?_, ?_⟩
            · rw [List.length_append]; rfl
            · rw [show (p ++ [v]).length = p.length + 1 by rw [List.length_append]; rfl]; exact hh.out.2.1.lst
            · rw [HBS.out]
              have h24 := HF.out.2.2.2.1
              exact H2.out.2.1.trans ((h24.trans ((HG.out.2.trans (hh.out.2.2.mono HG.out.2.size)).mono h24.size)).mono (Nat.le_of_lt n2))
            · have h9 := PathIs.yes (a := (a : Int)) (b := (v : Int)) ⟨HV.out.2.2.1, HV.out.2.2.2.1, HV.out.2.2.2.2⟩ r HR.out.2.1 k (by rw [Int.toNat_natCast, Int.toNat_natCast, ← HF.out.1, ← HF.out.2.2.2.2.1])
              rw [Int.toNat_natCast, Int.toNat_natCast, ← HF.out.1, ← hfull] at h9
              exact h9
          | succ kk =>
            have hvb : v ≠ b := fun e => by have := hzr.2 e; omega
            have hvb' : ¬ (v : Int) = (b : Int) := by omega
            have hvk : nth far v = (kk : Int) + 1 := by rw [hvm.out]; omega
            obtain ⟨hx1, hx2, hx3⟩ := HF.out.2.1 v kk hvn hvk
            have hsl : (suc g.es v).length ≤ 32768 := Nat.le_trans (suc_len _ _) HV.out.1.len
            have HX := Lib.hid (And.intro hx1 (And.intro hx2 (And.intro hx3 hvk)))
            clear hzr hvb hx1 hx2 hx3 hvk
            go_wp2_with fail
            have HH := Lib.hid hh.out
            clear hh
            generalize hwr0 : wr = wr0 at *
            clear hwr0
            go_loopw [12, 13] (fun nx x wr => ∃ j : Nat, j ≤ (suc g.es v).length ∧ x = .int .i64 j ∧ Hid (Below wr0.heap.size wr0 wr) ∧ ((nx = .int .i64 (-1) ∧ Hid (∀ y ∈ (suc g.es v).take j, nth far y ≠ (kk : Int))) ∨ nx = .int .i64 ((nxt g.es far v : Nat) : Int))) (fun _ x _ => (suc g.es v).length - (intOf x).toNat)
            case atStart => exact ⟨0, by omega, rfl, Below.refl _ _, .inl ⟨rfl, fun y hy => by simp at hy⟩⟩
            case round =>
              obtain ⟨j, hj, rfl, hb, hcase⟩ := hrel
              have hbW : Below W5.heap.size W5 wr := HH.out.2.2.trans (hb.out.mono HH.out.2.2.size)
              obtain ⟨rs, rc, hvs, cg, hrow⟩ := HGR.out.1 wr hbW v hvn
              have ig := HC4.out.2.2 .i64 (v : Int) (by omega) (by omega)
              rw [Int.toNat_natCast] at ig
              have HB := Lib.hid (And.intro hbW (And.intro hvs hrow))
              rcases hcase with ⟨rfl, hno⟩ | rfl
              · have hjl : j < (suc g.es v).length := by
                  apply Classical.byContradiction
                  intro hn
                  have hno' := hno.out
                  rw [List.take_of_length_le (by omega)] at hno'
                  exact hno' _ HX.out.1 HX.out.2.1
                obtain ⟨x, hxe⟩ : ∃ x, x = nth (suc g.es v) j := ⟨_, rfl⟩
                have hx : x < n := by
                  have h1 := suc_node HV.out.1 (show x ∈ suc g.es v by rw [hxe]; exact nth_mem _ _ hjl)
                  rw [← HV.out.2.1] at h1; exact h1
                obtain ⟨y, hy⟩ : ∃ y, y = nth far x := ⟨_, rfl⟩
                have hall : ∀ Z, Below wr.heap.size wr Z → Z.cell? ⟨blk ga, ofs ga + v, none⟩ = some (.slice rs (suc g.es v).length rc) ∧ Z.cell? ⟨blk rs, ofs rs + j, none⟩ = some (.int .i64 (x : Int)) ∧ Z.cell? ⟨blk s, ofs s + x, none⟩ = some (.int .i64 y) ∧ Z.cell? ⟨blk s, ofs s + v, none⟩ = some (.int .i64 ((kk : Int) + 1)) := fun Z hZ => by
                  have hbZ := HB.out.1.trans (hZ.mono HB.out.1.size)
                  obtain ⟨rs', rc', hvs', cg', hrow'⟩ := HGR.out.1 Z hbZ v hvn
                  rw [hvs] at hvs'
                  simp only [Value.slice.injEq] at hvs'
                  obtain ⟨rfl, -, rfl⟩ := hvs'
                  refine ⟨cg', by rw [hxe]; exact (hrow' j hjl).1, by rw [hy]; exact (HGR.out.2 Z hbZ x hx).1, by rw [← HX.out.2.2.2]; exact (HGR.out.2 Z hbZ v hvn).1⟩
                have ij := (hrow j hjl).2
                have ix := (HGR.out.2 wr hbW x hx).2
                have iv := (HGR.out.2 wr hbW v hvn).2
                have HALL := Lib.hid hall
                have HXE := Lib.hid (And.intro hxe hy)
                have hjl' : (j : Int) < ((suc g.es v).length : Int) := by omega
                have hwr : IntKind.i64.wrap ((kk : Int) + 1 - 1) = (kk : Int) := by rw [show (kk : Int) + 1 - 1 = kk by omega]; exact IntWalk.i64_in _ (by omega)
                clear hall hxe hy hrow hbW hvs
                by_cases hyk : y = (kk : Int)
                · have q1 : (y == (kk : Int)) = true := by simpa using hyk
                  have q2 : decide (0 ≤ y) = true := by simp; omega
                  have HQ := Lib.hid hyk
                  clear hyk
                  go_upto_region 14 with fail
                  obtain ⟨Cls, hCls⟩ : ∃ Cls : World → Prop, ∀ Z', Cls Z' ↔ Below wr.heap.size wr Z' := ⟨_, fun _ => Iff.rfl⟩
                  have hC : Cls wr.drew := (hCls _).2 ((Below.refl _ _).drew)
                  have k0 : ∀ q : Wd Cls, Below wr.heap.size wr q.val := fun q => (hCls _).1 q.ok
                  have HK := Lib.hid k0
                  have HCC := Lib.hid hC
                  haveI hne : Nonempty (Wd Cls) := ⟨⟨_, hC⟩⟩
                  have e0 : ∀ q : Wd Cls, q.val.cell? ⟨blk ga, ofs ga + v, none⟩ = some (.slice rs (suc g.es v).length rc) := fun q => (HALL.out _ (k0 q)).1
                  have e1 : ∀ q : Wd Cls, q.val.cell? ⟨blk rs, ofs rs + j, none⟩ = some (.int .i64 (x : Int)) := fun q => (HALL.out _ (k0 q)).2.1
                  have e2 : ∀ q : Wd Cls, q.val.cell? ⟨blk s, ofs s + x, none⟩ = some (.int .i64 y) := fun q => (HALL.out _ (k0 q)).2.2.1
                  have e3 : ∀ q : Wd Cls, q.val.cell? ⟨blk s, ofs s + v, none⟩ = some (.int .i64 ((kk : Int) + 1)) := fun q => (HALL.out _ (k0 q)).2.2.2
                  clear k0 hCls hC
                  refine wp_region_class Cls (by kernel_rfl) (by kernel_rfl) HCC.out ?_
                  repeat (go_big_quiet_step (fail))
                  refine wpQuiet_nil ?_
                  rintro _ ⟨q9, rfl⟩
                  have HM8 := Lib.hid (HK.out q9)
                  clear e0 e1 e2 e3 HCC hne
                  generalize q9.val = Z at *
                  clear q9 HK Cls
                  obtain ⟨z0, z1, z2, z3⟩ := HALL.out Z HM8.out
                  go_wp2_with fail
                  go_roundw
                  case rel => exact ⟨j + 1, by omega, by go_num, hb.out.trans (HM8.out.mono hb.out.size), .inr (by rw [nxt_at hjl HX.out.2.2.2 hno.out (by rw [← HXE.out.1, ← HXE.out.2]; exact HQ.out), ← HXE.out.1])⟩
                  case measure => simp [intOf]; omega
                · have q1 : (y == (kk : Int)) = false := by simpa using hyk
                  have HQ := Lib.hid hyk
                  clear hyk
                  go_upto_region 14 with fail
                  obtain ⟨Cls, hCls⟩ : ∃ Cls : World → Prop, ∀ Z', Cls Z' ↔ Below wr.heap.size wr Z' := ⟨_, fun _ => Iff.rfl⟩
                  have hC : Cls wr.drew := (hCls _).2 ((Below.refl _ _).drew)
                  have k0 : ∀ q : Wd Cls, Below wr.heap.size wr q.val := fun q => (hCls _).1 q.ok
                  have HK := Lib.hid k0
                  have HCC := Lib.hid hC
                  haveI hne : Nonempty (Wd Cls) := ⟨⟨_, hC⟩⟩
                  have e0 : ∀ q : Wd Cls, q.val.cell? ⟨blk ga, ofs ga + v, none⟩ = some (.slice rs (suc g.es v).length rc) := fun q => (HALL.out _ (k0 q)).1
                  have e1 : ∀ q : Wd Cls, q.val.cell? ⟨blk rs, ofs rs + j, none⟩ = some (.int .i64 (x : Int)) := fun q => (HALL.out _ (k0 q)).2.1
                  have e2 : ∀ q : Wd Cls, q.val.cell? ⟨blk s, ofs s + x, none⟩ = some (.int .i64 y) := fun q => (HALL.out _ (k0 q)).2.2.1
                  have e3 : ∀ q : Wd Cls, q.val.cell? ⟨blk s, ofs s + v, none⟩ = some (.int .i64 ((kk : Int) + 1)) := fun q => (HALL.out _ (k0 q)).2.2.2
                  clear k0 hCls hC
                  refine wp_region_class Cls (by kernel_rfl) (by kernel_rfl) HCC.out ?_
                  repeat (go_big_quiet_step (fail))
                  refine wpQuiet_nil ?_
                  rintro _ ⟨q9, rfl⟩
                  have HM8 := Lib.hid (HK.out q9)
                  clear e0 e1 e2 e3 HCC hne
                  generalize q9.val = Z at *
                  clear q9 HK Cls
                  go_wp2_with fail
                  go_roundw
                  case rel => exact ⟨j + 1, by omega, by go_num, hb.out.trans (HM8.out.mono hb.out.size), .inl ⟨rfl, fun u hu => by
                    rw [take_snoc _ _ hjl] at hu
                    rcases List.mem_append.1 hu with hu | hu
                    · exact hno.out u hu
                    · rw [List.mem_singleton.1 hu, ← HXE.out.1, ← HXE.out.2]; exact HQ.out⟩⟩
                  case measure => simp [intOf]; omega
              · clear hrow hvs hbW
                have hown : OwnI wr W5.heap.size 3 (.slice ps (p.length + 1) pc) ((p ++ [v]).map fun x : Nat => (x : Int)) := HH.out.2.1.grown (grownBy_below hb.out) (by cases (Value.slice ps (p.length + 1) pc).ownBlock <;> simp)
                have hll : ((p ++ [v]).map fun x : Nat => (x : Int)).length < 17592186044416 := by rw [List.length_map, List.length_append, List.length_singleton]; omega
                have hp2 : (p ++ [v]) ++ pathL g.es far kk (nxt g.es far v) = pathL g.es far k a := by
                  rw [← HH.out.1, List.append_assoc]; rfl
                obtain ⟨x, hx⟩ : ∃ x, x = nxt g.es far v := ⟨_, rfl⟩
                have hxp := HX.out
                rw [← hx] at hp2 hxp ⊢
                have HL := Lib.hid (And.intro hown (And.intro hll (And.intro hp2 hxp)))
                have hx0 : ¬ (x : Int) < 0 := by omega
                clear hown hll hp2 hx hxp
                by_cases hjl : j < (suc g.es v).length
                · have hjl' : (j : Int) < ((suc g.es v).length : Int) := by omega
                  go_wp2_with (at_builtin; refine wp_append1at (f := Value.int .i64) sIntG rfl _ rfl _ _ rfl W5.heap.size _ ((p ++ [v]).map fun x : Nat => (x : Int)) rfl (HL.out.1.alloc _) (x : Int) ⟨wr.heap.size, 0, none⟩ rfl (cell_alloc1 _ _ _) rfl HL.out.2.1 (by omega) (le_alloc _ HB.out.1.size) ?_; intro v' w3 hown hgr hat; obtain ⟨s9, c9, rfl⟩ := hown.shape (n := p.length + 1 + 1) (by rw [List.length_append, List.length_map, List.length_append]; rfl); have HO := Lib.hid (And.intro hown hgr); clear hown hgr hat)
                  go_roundg kk
                  case rel =>
                    refine ⟨x, p ++ [v], s9, c9, ?_, rfl, HL.out.2.2.2.2.2.1, by rw [List.length_append, List.length_singleton]; omega, HL.out.2.2.2.2.1, HL.out.2.2.1, ?_, ?_⟩
                    · rw [List.length_append]; rfl
                    · rw [show (p ++ [v]).length + 1 = p.length + 1 + 1 by rw [List.length_append]; rfl, List.map_append]
                      exact HO.out.1
                    · exact (HB.out.1.alloc HB.out.1.size _).grown HO.out.2 (by rw [World.size_alloc]; have := HB.out.1.size; omega) (fun q e => (HL.out.1.lt q e).1)
                  case measure => omega
                · have hjl' : ¬ (j : Int) < ((suc g.es v).length : Int) := by omega
                  go_wp2_with (at_builtin; refine wp_append1at (f := Value.int .i64) sIntG rfl _ rfl _ _ rfl W5.heap.size _ ((p ++ [v]).map fun x : Nat => (x : Int)) rfl (HL.out.1.alloc _) (x : Int) ⟨wr.heap.size, 0, none⟩ rfl (cell_alloc1 _ _ _) rfl HL.out.2.1 (by omega) (le_alloc _ HB.out.1.size) ?_; intro v' w3 hown hgr hat; obtain ⟨s9, c9, rfl⟩ := hown.shape (n := p.length + 1 + 1) (by rw [List.length_append, List.length_map, List.length_append]; rfl); have HO := Lib.hid (And.intro hown hgr); clear hown hgr hat)
                  go_roundg kk
                  case rel =>
                    refine ⟨x, p ++ [v], s9, c9, ?_, rfl, HL.out.2.2.2.2.2.1, by rw [List.length_append, List.length_singleton]; omega, HL.out.2.2.2.2.1, HL.out.2.2.1, ?_, ?_⟩
                    · rw [List.length_append]; rfl
                    · rw [show (p ++ [v]).length + 1 = p.length + 1 + 1 by rw [List.length_append]; rfl, List.map_append]
                      exact HO.out.1
                    · exact (HB.out.1.alloc HB.out.1.size _).grown HO.out.2 (by rw [World.size_alloc]; have := HB.out.1.size; omega) (fun q e => (HL.out.1.lt q e).1)
                  case measure => omega
end Go.Proofs.Ytjapnkhgijhakaa
