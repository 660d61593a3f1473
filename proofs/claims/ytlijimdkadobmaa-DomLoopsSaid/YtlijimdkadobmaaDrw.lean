/- Contract of Reducible. -/
import Derived.Test.YtlijimdkadobmaaDrp
import Derived.Test.YtlijimdkadobmaaDrm
namespace Go.Proofs.Ytlijimdkadobmaa
open Go.RowKit Go.Dfl Go.Gra
open Go.Kah (cnt row KI)
set_option maxHeartbeats 6400000 in
set_option maxRecDepth 100000 in
theorem gReducible_any (g : G) (cv : Value) (r : Int) (W : World) (h : Pairs W cv g.es) : Calls Try.prog 21 #[GV g cv, .int .i64 r] W (BoolR (decide (dcode g r = 0) && redB g r.toNat) W) := by
  obtain ⟨ca, cc, rfl, -, -, -⟩ := pairs_rd h
  have hal := (Below.refl W.heap.size W).alloc (Nat.le_refl _) (.cells #[.int .i64 g.n, .slice ca g.es.length cc] 24)
  have H0 := Lib.hid (And.intro (h.below hal) (And.intro hal (BoxG.new W g.n (.slice ca g.es.length cc) 24)))
  have HPW := Lib.hid h
  clear h hal
  unfold GV
  go_enter Try.func21, Try.ntmps21
  go_wp2_with fail
  have hck := dcheck_any g (.slice ca g.es.length cc) r _ H0.out.1
  unfold GV at hck
  refine hck.mono ?_
  rintro e W1 ⟨rfl, r1⟩
  have H1 := Lib.hid (And.intro (H0.out.1.below r1) (And.intro (H0.out.2.1.trans (r1.mono H0.out.2.1.size)) (H0.out.2.2.below r1)))
  clear r1 hck
  obtain ⟨c0, c1⟩ := H1.out.2.2
  by_cases hc : dcode g r = 0
  · obtain ⟨v1, v2, v3⟩ := dcode_ok hc
    obtain ⟨k, rfl⟩ : ∃ k : Nat, r = (k : Int) := ⟨r.toNat, by omega⟩
    rw [Int.toNat_natCast] at v3
    have HZ : Hid ((decide (dcode g (k : Int) = 0) && redB g (k : Int).toNat) = redB g k) := Lib.hid (by rw [decide_eq_true hc, Int.toNat_natCast]; rfl)
    have hq : (dcode g (k : Int) != 0) = false := by simpa using hc
    have hb := gBuild_tv g (.slice ca g.es.length cc) k W1 H1.out.1 v1 v3
    unfold GV at hb
    have hn8 : g.n.toNat ≤ 8192 := by have := v1.n1; omega
    have HB := Lib.hid hb
    have HV := Lib.hid (And.intro v1 (And.intro v3 hc))
    clear hb v1 v2 v3 hc
    go_wp2_with fail
    refine HB.out.mono ?_
    rintro e W2 ⟨su, so, sp, vs, rfl, ht, b2⟩
    obtain ⟨n, hn⟩ : ∃ n, n = g.n.toNat := ⟨_, rfl⟩
    have hal := (Below.refl W2.heap.size W2).alloc (Nat.le_refl _) (.cells #[.slice su g.n.toNat g.n.toNat, .slice so g.n.toNat g.n.toNat, .slice sp g.n.toNat g.n.toNat] 56)
    obtain ⟨e0, e1, e2⟩ := box3 W2 (.slice su g.n.toNat g.n.toNat) (.slice so g.n.toNat g.n.toNat) (.slice sp g.n.toNat g.n.toNat) 56
    have hWW := (H1.out.2.1.trans (b2.mono H1.out.2.1.size))
    have hlt := World.block_lt_of_cell? _ _ e0
    dsimp only at hlt
    have hbx := (H1.out.2.2.below b2).below hal
    have HT := Lib.hid (And.intro (ht.below hal) (And.intro (hWW.trans (hal.mono hWW.size)) (And.intro e0 (And.intro e1 (And.intro e2 (And.intro hlt hbx))))))
    rw [← hn] at HT hn8 ⊢
    have HN := Lib.hid hn
    clear ht b2 hal hWW hlt c0 c1 e0 e1 e2 hn hbx
    obtain ⟨c0, c1⟩ := HT.out.2.2.2.2.2.2
    have hgn : g.n = (n : Int) := by have := HV.out.1.n0; have := HN.out; omega
    rw [hgn] at c0
    clear hgn
    go_upto_region 4 with fail
    refine gen_code (fun Z => TV g k (.slice su n n) (.slice so n n) (.slice sp n n) vs Z ∧ Below W.heap.size W Z ∧ Z.cell? ⟨W2.heap.size, 0, none⟩ = some (.slice su n n) ∧ Z.cell? ⟨W2.heap.size, 1, none⟩ = some (.slice so n n) ∧ Z.cell? ⟨W2.heap.size, 2, none⟩ = some (.slice sp n n) ∧ BoxG Z W.heap.size g.n (.slice ca g.es.length cc)) ⟨HT.out.1, HT.out.2.1, HT.out.2.2.1, HT.out.2.2.2.1, HT.out.2.2.2.2.1, HT.out.2.2.2.2.2.2⟩ ?_
    intro W3 h3
    obtain ⟨bt, hbt⟩ : ∃ bt, bt = W2.heap.size := ⟨_, rfl⟩
    rw [← hbt] at h3 ⊢
    have hlt3 := World.block_lt_of_cell? _ _ h3.2.2.1
    dsimp only at hlt3
    have hW3 := HPW.out.below h3.2.1
    have H3 := Lib.hid (And.intro h3 (And.intro hlt3 hW3))
    clear HT h3 hbt hlt3 hW3 c0 c1
    obtain ⟨c0, c1⟩ := H3.out.1.2.2.2.2.2
    have hgn : g.n = (n : Int) := by have := HV.out.1.n0; have := HN.out; omega
    rw [hgn] at c0
    go_wp2_with (at_make; refine wp_make (f := Value.int .i64) 0 sIntG rfl _ rfl _ _ rfl .i64 .i64 _ _ n rfl rfl rfl rfl (by omega) (by unfold maxLen; omega) ?_)
    intro ps pc W4 hrow hb4
    obtain ⟨c0, c1⟩ := H3.out.1.2.2.2.2.2.below hb4
    rw [hgn] at c0
    have HR4 := Lib.hid (And.intro hrow hb4)
    clear hrow hb4
    go_wp2_with (at_make; refine wp_make (f := fun x : Value => x) (.slice none 0 0) sRowsG rfl _ rfl _ _ rfl .i64 .i64 _ _ n rfl rfl rfl rfl (by omega) (by unfold maxLen; omega) ?_)
    intro ns nc W5 hrow hb5
    have hb35 := HR4.out.2.trans (hb5.mono HR4.out.2.size)
    have h5 : KhP W3 W4.heap.size n pc nc ps ns (pendL (eK g k 0) n) (List.replicate n (.slice none 0 0)) (nextL (eK g k 0) n) W5 := ⟨by rw [show eK g k 0 = [] from rfl, pendL_nil]; exact HR4.out.1.below hb5, pendL_len _ _, fun q e => (HR4.out.1.lt q e).2, by rw [show eK g k 0 = [] from rfl, nextL_nil]; exact OwnN.made hrow (Go.Dfl.Own.nil _ _ _ _), nextL_len _ _, hb35, HR4.out.2.size⟩
    have H5 := Lib.hid h5
    obtain ⟨c0, c1⟩ := H3.out.1.2.2.2.2.2.below hb35
    rw [hgn] at c0
    have HGN := Lib.hid hgn
    clear hrow hb5 hb35 h5 hgn HR4
    obtain ⟨ca', cc', he, -, hci, hcc⟩ := pairs_rd HPW.out
    simp only [Value.slice.injEq] at he
    obtain ⟨rfl, -, rfl⟩ := he
    have HCC := Lib.hid hcc
    clear hcc
    have hel := HV.out.1.len
    obtain ⟨B4, hB4⟩ : ∃ B4, B4 = W4.heap.size := ⟨_, rfl⟩
    rw [← hB4] at H5
    clear hB4
    go_wp2_with fail
    clear c0 c1
    go_loopw [32] (fun x wr => ∃ (i : Nat) (us : List Value), i ≤ g.es.length ∧ x = .int .i64 (i : Int) ∧ Hid (KhP W3 B4 n pc nc ps ns (pendL (eK g k i) n) us (nextL (eK g k i) n) wr)) (fun x _ => g.es.length - (intOf x).toNat)
    case atStart => exact ⟨0, _, by omega, rfl, H5.out⟩
    case round =>
      obtain ⟨i, us, hi, rfl, hh⟩ := hrel
      have HL := Lib.hid hh.out
      clear hh
      by_cases hit : i < g.es.length
      · have hil : (i : Int) < (g.es.length : Int) := by omega
        have hpc := (HCC.out i hit).2
        obtain ⟨p0, p1⟩ := hpc wr (H3.out.1.2.1.trans (HL.out.bel.mono H3.out.1.2.1.size))
        have j1 := hci (i : Int) (by omega) (by omega)
        rw [Int.toNat_natCast] at j1
        have hin := HV.out.1.nth hit
        have hyes := leftE_yes (g := g) (r := k) hit
        have hno := leftE_no (g := g) (r := k) hit
        obtain ⟨e, he⟩ : ∃ e, e = nth g.es i := ⟨_, rfl⟩
        rw [← he] at p0 p1 hin hyes hno
        obtain ⟨e1, e2⟩ := e
        dsimp only at p0 p1 hin
        obtain ⟨a, rfl⟩ : ∃ a : Nat, e1 = (a : Int) := ⟨e1.toNat, by omega⟩
        obtain ⟨b, rfl⟩ : ∃ b : Nat, e2 = (b : Int) := ⟨e2.toNat, by omega⟩
        have han : a < n := by have := HGN.out; omega
        have hbn : b < n := by have := HGN.out; omega
        have hbx := cells_new (W := wr) (cs := [.int .i64 (a : Int), .int .i64 (b : Int)]) (t := 53) rfl
        have hbA := (Below.refl wr.heap.size wr).alloc (Nat.le_refl _) (.cells #[.int .i64 (a : Int), .int .i64 (b : Int)] 53)
        have hkp : keepE g k ((a : Int), (b : Int)) = (decide (a ∈ postL g k) && !domB g k b a) := by
          unfold keepE; rw [Int.toNat_natCast, Int.toNat_natCast]
        have HYN := Lib.hid (And.intro hyes (And.intro hno hkp))
        have hB4w : B4 ≤ wr.heap.size := by
          have := HL.out.rows.at' (c := a) (by rw [HL.out.llen]; exact han)
          omega
        have HA := Lib.hid (And.intro (hbx 0 _ rfl) (And.intro (hbx 1 _ rfl) (HL.out.below hbA)))
        clear he hin hyes hno hpc hbx hbA hkp
        go_upto_region 9 with fail
        refine gen_code (fun Z => Z.cell? ⟨wr.heap.size, 0, none⟩ = some (.int .i64 (a : Int)) ∧ Z.cell? ⟨wr.heap.size, 1, none⟩ = some (.int .i64 (b : Int)) ∧ KhP W3 B4 n pc nc ps ns (pendL (eK g k i) n) us (nextL (eK g k i) n) Z) HA.out ?_
        intro Z hZ
        obtain ⟨be, hbe⟩ : ∃ be, be = wr.heap.size := ⟨_, rfl⟩
        rw [← hbe] at hZ hB4w ⊢
        obtain ⟨x0, x1, hz⟩ := hZ
        have HZ2 := Lib.hid hz
        have hbl : be < Z.heap.size := World.block_lt_of_cell? _ _ x0
        have HFT : Hid (∀ q, Foot (.slice ns n nc) us q → q < be) := Lib.hid fun q hq => by rw [hbe]; exact (HL.out.rows.foot kIIg q hq).2
        clear HA p0 p1 hbe hz
        have d0 : Z.cell? ⟨bt, 0, none⟩ = some (.slice su n n) := (HZ2.out.bel.cell (p := ⟨bt, 0, none⟩) H3.out.2.1).trans H3.out.1.2.2.1
        have d1 : Z.cell? ⟨bt, 1, none⟩ = some (.slice so n n) := (HZ2.out.bel.cell (p := ⟨bt, 1, none⟩) H3.out.2.1).trans H3.out.1.2.2.2.1
        have d2 : Z.cell? ⟨bt, 2, none⟩ = some (.slice sp n n) := (HZ2.out.bel.cell (p := ⟨bt, 2, none⟩) H3.out.2.1).trans H3.out.1.2.2.2.2.1
        have hre := reachable_any g k (.slice su n n) (.slice so n n) (.slice sp n n) vs (a : Int) Z (H3.out.1.1.below HZ2.out.bel)
        have hrb : reachB g k (a : Int) = decide (a ∈ postL g k) := by
          unfold reachB; rw [nodeB_nat (by rw [← HN.out]; exact han), Int.toNat_natCast]; simp
        rw [hrb] at hre
        have HD := Lib.hid hre
        clear hre hrb
        go_wp2_with fail
        refine HD.out.mono ?_
        rintro e W6 ⟨rfl, b6⟩
        have H6 := Lib.hid (HZ2.out.below b6)
        have y0 := (b6.cell (p := ⟨be, 0, none⟩) hbl).trans x0
        have y1 := (b6.cell (p := ⟨be, 1, none⟩) hbl).trans x1
        have hbl6 : be < W6.heap.size := World.block_lt_of_cell? _ _ y0
        clear b6 d0 d1 d2 x0 x1 HD hbl
        cases hA : decide (a ∈ postL g k)
        · have HX := Lib.hid (HYN.out.2.1 (by rw [HYN.out.2.2, hA]; rfl))
          clear hA
          go_wp2_with fail
          go_roundw
          case rel => exact ⟨i + 1, us, by omega, by go_num, by unfold eK; rw [HX.out]; exact H6.out⟩
          case measure => simp [intOf]; omega
        · have d0 : W6.cell? ⟨bt, 0, none⟩ = some (.slice su n n) := (H6.out.bel.cell (p := ⟨bt, 0, none⟩) H3.out.2.1).trans H3.out.1.2.2.1
          have d1 : W6.cell? ⟨bt, 1, none⟩ = some (.slice so n n) := (H6.out.bel.cell (p := ⟨bt, 1, none⟩) H3.out.2.1).trans H3.out.1.2.2.2.1
          have d2 : W6.cell? ⟨bt, 2, none⟩ = some (.slice sp n n) := (H6.out.bel.cell (p := ⟨bt, 2, none⟩) H3.out.2.1).trans H3.out.1.2.2.2.2.1
          have hdm := dominates_any g k (.slice su n n) (.slice so n n) (.slice sp n n) vs (b : Int) (a : Int) W6 (H3.out.1.1.below H6.out.bel) HV.out.1 HV.out.2.1
          rw [domZ_nat HV.out.1 HV.out.2.1 (by rw [← HN.out]; exact hbn) (by rw [← HN.out]; exact han)] at hdm
          have HD := Lib.hid hdm
          have HAA := Lib.hid hA
          clear hdm hA
          go_wp2_with fail
          refine HD.out.mono ?_
          rintro e W7 ⟨rfl, b7⟩
          have H7 := Lib.hid (H6.out.below b7)
          have x0 := (b7.cell (p := ⟨be, 0, none⟩) hbl6).trans y0
          have x1 := (b7.cell (p := ⟨be, 1, none⟩) hbl6).trans y1
          clear b7 d0 d1 d2 y0 y1 HD
          cases hB : domB g k b a
          · have HX := Lib.hid (HYN.out.1 (by rw [HYN.out.2.2, HAA.out, hB]; rfl))
            clear hB
            obtain ⟨r1, i1, f1⟩ := own_int H7.out.pend H7.out.plen hbn
            obtain ⟨z, hz⟩ : ∃ z, z = nth (pendL (eK g k i) n) b := ⟨_, rfl⟩
            have hcl := cnt_len (eK g k i) [] b
            have hkl := natE_len (leftE g k i)
            have hll := leftE_len g k i
            have hzv := pendL_nth (E := eK g k i) hbn
            rw [← hz] at r1 hzv
            unfold eK at hcl hzv
            have hw : IntKind.i64.wrap (z + 1) = z + 1 := IntWalk.i64_in _ (by omega)
            have hpk := own_blk H7.out.pend H7.out.plen (by omega)
            have hpb := H7.out.pb _ hpk
            have hne : be ≠ blk ps := by omega
            have hst := H7.out.set hbn (z + 1)
            have q0 : (W7.setCell ⟨blk ps, ofs ps + b, none⟩ (.int .i64 (z + 1))).cell? ⟨be, 0, none⟩ = some (.int .i64 (a : Int)) := by
              rw [World.cell?_setCell_other _ _ _ _ (by intro e9; have h9 := congrArg Addr.block e9; first | exact hne h9 | exact hne h9.symm)]; exact x0
            have q1 : (W7.setCell ⟨blk ps, ofs ps + b, none⟩ (.int .i64 (z + 1))).cell? ⟨be, 1, none⟩ = some (.int .i64 (b : Int)) := by
              rw [World.cell?_setCell_other _ _ _ _ (by intro e9; have h9 := congrArg Addr.block e9; first | exact hne h9 | exact hne h9.symm)]; exact x1
            have HST := Lib.hid (And.intro q0 (And.intro q1 hst))
            have HZV := Lib.hid hz
            clear hz hcl hkl hzv hpk hpb hne hst q0 q1
            go_upto_region 11 with fail
            clear r1 i1 f1 hw
            refine gen_code (fun Y => Y.cell? ⟨be, 0, none⟩ = some (.int .i64 (a : Int)) ∧ Y.cell? ⟨be, 1, none⟩ = some (.int .i64 (b : Int)) ∧ KhP W3 B4 n pc nc ps ns ((pendL (eK g k i) n).set b (z + 1)) us (nextL (eK g k i) n) Y) HST.out ?_
            intro V hV
            clear HST x0 x1 hbl6 H6 HZ2 H7
            obtain ⟨x0, x1, hv⟩ := hV
            have hbl : be < V.heap.size := World.block_lt_of_cell? _ _ x0
            have hbd : Below V.heap.size V V.drew := (Below.refl _ _).drew
            have q0 := (hbd.cell (p := ⟨be, 0, none⟩) hbl).trans x0
            have q1 := (hbd.cell (p := ⟨be, 1, none⟩) hbl).trans x1
            have hvd := hv.below hbd
            obtain ⟨a4, c4, he, hm4, hidx4, hcell4, -⟩ := hvd.rows.out.lst.out1 sRowsG
            have hvl : us.length = n := by rw [hvd.rows.len, hvd.llen]
            rw [hvl] at he hm4 hidx4 hcell4
            simp only [Value.slice.injEq] at he
            obtain ⟨rfl, -, rfl⟩ := he
            have ccl := hcell4 a han
            have i4 := hidx4 .i64 (a : Int) (by omega) (by omega)
            rw [Int.toNat_natCast] at i4
            have hbe4 : B4 ≤ be := hB4w
            have hrlt := hvd.rows.at' (c := a) (by rw [hvd.llen]; exact han)
            have hnl : (nth (nextL (eK g k i) n) a).length ≤ i := by
              rw [nextL_nth han, List.length_map]
              have h1 := row_len (eK g k i) a
              have h2 := natE_len (leftE g k i)
              have h3 := leftE_len g k i
              unfold eK at h1 ⊢
              omega
            have HS := Lib.hid (And.intro q0 (And.intro q1 ccl))
            have HH := Lib.hid (And.intro hvd (And.intro hrlt (And.intro hnl hvl)))
            clear hidx4 hcell4 hm4 hvl hrlt q0 q1 ccl hvd hv x0 x1 hbl hbd hnl
            refine wp_region_mix [0, 1, 2, 3, 4, 5, 6, 7, 8, 9] [10, 11, 12, 13] (fun w' => w'.cell? ⟨be, 0, none⟩ = some (.int .i64 (a : Int)) ∧ w'.cell? ⟨be, 1, none⟩ = some (.int .i64 (b : Int)) ∧ w'.cell? ⟨blk ns, ofs ns + a, none⟩ = some (nth us a)) (by kernel_rfl) (by kernel_rfl) (by kernel_rfl) HS.out ?_
            repeat (
              refine wpHeads_cons (v := ?_) rfl (Or.inl ⟨by rfl, ?_⟩) ?_
              rotate_left
              · (intro W hW; obtain ⟨q1, q2, q3⟩ := hW; go_simp; try with_reducible rfl)
              simp only [Act.put, List.setIfInBounds_toArray, List.getElem_toArray, List.getElem_cons_zero, List.getElem_cons_succ, List.set_cons_succ, List.set_cons_zero])
            refine wpHeads_nil ?_
            generalize V.drew = Y at *
            refine wpTails_cons rfl ?_
            go_wp2_with fail
            have gA := grownBy_alloc Y (.cells #[.int .i64 (b : Int)] 3)
            have HS2 := Lib.hid (HS.out.imp (fun h => gA.cell h (by simp)) fun h => h.imp (fun h => gA.cell h (by simp)) fun h => gA.cell h (by simp))
            have hac : a < (nextL (eK g k i) n).length := by rw [nextL_len]; exact han
            have HA := Lib.hid (And.intro ((HH.out.1.rows.inn a hac).alloc (.cells #[.int .i64 (b : Int)] 3)) (And.intro (cell_alloc1 Y (.int .i64 (b : Int)) 3) (show B4 ≤ Y.heap.size by have := HH.out.2.1; omega)))
            clear gA hac
            refine tail_mk HS2.out ?_
            refine wpTails_cons rfl ?_
            refine wp_append1at (f := Value.int .i64) sIntG rfl _ rfl _ _ rfl B4 (nth us a) (nth (nextL (eK g k i) n) a) rfl HA.out.1 (b : Int) ⟨Y.heap.size, 0, none⟩ rfl HA.out.2.1 rfl (by have := HH.out.2.2.1; omega) (by omega) (le_alloc _ HA.out.2.2) ?_
            intro v31 w31 o31 g31 l31
            obtain ⟨s31, c31, rfl⟩ := o31.shape (n := (nth (nextL (eK g k i) n) a).length + 1) (by simp)
            have hpu := HH.out.1.push han o31 g31 l31 HS.out.2.2
            have hrb : ∀ q, (nth us a).ownBlock = some q → q < be := fun q hq => HFT.out q (.inr ⟨a, by rw [HH.out.2.2.2]; exact han, hq⟩)
            have hS3 := HS2.out.imp (fun h => g31.cell h (fun e => by have := hrb _ e.symm; dsimp only at this; omega)) fun h => h.imp (fun h => g31.cell h (fun e => by have := hrb _ e.symm; dsimp only at this; omega)) fun _ => hpu.1
            have HS3 := Lib.hid hS3
            have HPU := Lib.hid hpu
            clear hS3 hpu hrb o31 g31 l31
            refine tail_mk HS3.out ?_
            refine wpTails_cons rfl ?_
            go_wp2_with fail
            refine tail_mk HS3.out ?_
            refine wpTails_one rfl ?_
            have hf31 := HPU.out.2.1
            have hc31 := HPU.out.1
            go_wp2_with fail
            refine thenQ_mk ?_
            go_wp2_with fail
            go_roundw
            case rel => exact ⟨i + 1, us.set a (.slice s31 ((nth (nextL (eK g k i) n) a).length + 1) c31), by omega, by go_num, by
              have h9 := HPU.out.2.2
              unfold eK at h9 ⊢
              rw [HX.out, natE_snoc, pendL_add hbn, nextL_add han]
              rw [HZV.out] at h9
              exact h9⟩
            case measure => simp [intOf]; omega
          · have HX := Lib.hid (HYN.out.2.1 (by rw [HYN.out.2.2, HAA.out, hB]; rfl))
            clear hB
            go_wp2_with fail
            go_roundw
            case rel => exact ⟨i + 1, us, by omega, by go_num, by unfold eK; rw [HX.out]; exact H7.out⟩
            case measure => simp [intOf]; omega
      · obtain rfl : i = g.es.length := by omega
        obtain ⟨c0, c1⟩ := H3.out.1.2.2.2.2.2.below HL.out.bel
        rw [HGN.out] at c0
        obtain ⟨E, hE⟩ : ∃ E, E = eK g k g.es.length := ⟨_, rfl⟩
        rw [← hE] at HL
        have hel2 : E.length ≤ 32768 := by
          have h1 := natE_len (leftE g k g.es.length)
          have h2 := leftE_len g k g.es.length
          rw [hE]; unfold eK; omega
        have HE := Lib.hid hE
        clear hE H5
        go_wp2_with fail
        clear c0 c1
        have hbw : B4 ≤ wr.heap.size := by
          have := HL.out.rows.at' (c := 0) (by rw [HL.out.llen]; have := HV.out.2.1; have := HN.out; omega)
          omega
        have hs0 : KhS W3 B4 wr.heap.size n pc nc ps ns (pendL E n) us (nextL E n) (freeL g k 0) (.slice none 0 0) wr := ⟨HL.out, fun q hq => (HL.out.rows.foot kIIg q hq).2, Go.Dfl.Own.nil _ _ _ _, hbw, Nat.le_refl _⟩
        obtain ⟨B6, hs0⟩ : ∃ B6, KhS W3 B4 B6 n pc nc ps ns (pendL E n) us (nextL E n) (freeL g k 0) (.slice none 0 0) wr := ⟨_, hs0⟩
        have HS0 := Lib.hid hs0
        clear hs0 hbw HL
        go_loopw [10, 11, 72] (fun ov nv x wr => ∃ (v : Nat) (oa : Option Addr) (oc : Nat), v ≤ n ∧ x = .int .i64 (v : Int) ∧ nv = .int .i64 (reaN g k v : Int) ∧ ov = .slice oa (freeL g k v).length oc ∧ Hid (KhS W3 B4 B6 n pc nc ps ns (pendL E n) us (nextL E n) (freeL g k v) (.slice oa (freeL g k v).length oc) wr)) (fun _ _ x _ => n - (intOf x).toNat)
        case atStart => exact ⟨0, none, 0, by omega, rfl, rfl, rfl, HS0.out⟩
        case round =>
          obtain ⟨v, oa, oc, hv, rfl, rfl, rfl, hh⟩ := hrel
          have HS := Lib.hid hh.out
          clear hh
          have hrl := reaN_len g k v
          have hfl := freeL_len g k v
          by_cases hvt : v < n
          · have hvl : (v : Int) < (n : Int) := by omega
            have d0 : wr.cell? ⟨bt, 0, none⟩ = some (.slice su n n) := (HS.out.p.bel.cell (p := ⟨bt, 0, none⟩) H3.out.2.1).trans H3.out.1.2.2.1
            have d1 : wr.cell? ⟨bt, 1, none⟩ = some (.slice so n n) := (HS.out.p.bel.cell (p := ⟨bt, 1, none⟩) H3.out.2.1).trans H3.out.1.2.2.2.1
            have d2 : wr.cell? ⟨bt, 2, none⟩ = some (.slice sp n n) := (HS.out.p.bel.cell (p := ⟨bt, 2, none⟩) H3.out.2.1).trans H3.out.1.2.2.2.2.1
            have hre := reachable_any g k (.slice su n n) (.slice so n n) (.slice sp n n) vs (v : Int) wr (H3.out.1.1.below HS.out.p.bel)
            have hrb : reachB g k (v : Int) = decide (v ∈ postL g k) := by
              unfold reachB; rw [nodeB_nat (by rw [← HN.out]; exact hvt), Int.toNat_natCast]; simp
            rw [hrb] at hre
            have HD := Lib.hid hre
            clear hre hrb
            go_wp2_with fail
            refine HD.out.mono ?_
            rintro e W6 ⟨rfl, b6⟩
            have H6 := Lib.hid (HS.out.below b6)
            clear b6 d0 d1 d2 HD
            by_cases hm : v ∈ postL g k
            · rw [decide_eq_true hm]
              have HRY := Lib.hid (reaN_yes hm)
              obtain ⟨r1, i1, -⟩ := own_int H6.out.p.pend (pendL_len _ _) hvt
              rw [pendL_nth hvt] at r1
              by_cases h0 : cnt E [] v = 0
              · rw [h0] at r1
                have HX := Lib.hid (freeL_yes hm (by rw [← HE.out]; exact h0))
                have hll : ((freeL g k v).map fun x : Nat => (x : Int)).length < 17592186044416 := by rw [List.length_map]; omega
                have hsB := H6.out.top
                clear hm h0
                go_wp2_with (at_builtin; refine wp_append1at (f := Value.int .i64) sIntG rfl _ rfl _ _ rfl B6 _ ((freeL g k v).map fun x : Nat => (x : Int)) rfl (H6.out.lst.alloc _) (v : Int) ⟨W6.heap.size, 0, none⟩ rfl (cell_alloc1 _ _ _) rfl hll (by omega) (le_alloc _ hsB) ?_; intro v' w3 hown hgr hat; obtain ⟨s9, c9, rfl⟩ := hown.shape (n := (freeL g k v).length + 1) (by rw [List.length_append, List.length_map]; rfl); have HO := Lib.hid (H6.out.add hown hgr); clear hown hgr hat)
                go_roundw
                case rel => exact ⟨v + 1, s9, c9, by omega, by go_num, by rw [HRY.out]; go_num, by rw [HX.out, List.length_append]; rfl, by rw [HX.out, List.length_append]; exact HO.out⟩
                case measure => simp [intOf]; omega
              · have w1 : (((cnt E [] v : Nat) : Int) == 0) = false := by simp; exact h0
                have HX := Lib.hid (freeL_no (g := g) (r := k) (k := v) (.inr (by rw [← HE.out]; exact h0)))
                clear hm h0
                go_wp2_with fail
                go_roundw
                case rel => exact ⟨v + 1, oa, oc, by omega, by go_num, by rw [HRY.out]; go_num, by rw [HX.out], by rw [HX.out]; exact H6.out⟩
                case measure => simp [intOf]; omega
            · rw [decide_eq_false hm]
              have HRN := Lib.hid (reaN_no hm)
              have HX := Lib.hid (freeL_no (g := g) (r := k) (k := v) (.inl hm))
              clear hm
              go_wp2_with fail
              go_roundw
              case rel => exact ⟨v + 1, oa, oc, by omega, by go_num, by rw [HRN.out], by rw [HX.out], by rw [HX.out]; exact H6.out⟩
              case measure => simp [intOf]; omega
          · obtain rfl : n = v := by omega
            have hki := ki_start (g := g) (r := k)
            rw [← HE.out, ← HN.out] at hki
            have hno : ∀ u w, (u, w) ∈ E → w ∈ postL g k ∧ w < n := fun u w he => by
              rw [HE.out] at he
              have h9 := eK_mem HV.out.1 HV.out.2.1 he
              rw [← HN.out] at h9
              exact h9.2
            have HKI := Lib.hid (And.intro hki hno)
            obtain ⟨nr, hnr⟩ : ∃ nr, nr = reaN g k n := ⟨_, rfl⟩
            obtain ⟨o0, ho0⟩ : ∃ o0, o0 = freeL g k n := ⟨_, rfl⟩
            rw [← hnr] at hrl ⊢
            rw [← ho0] at HS HKI ⊢
            have HNR := Lib.hid hnr
            clear hki hno hnr ho0 hfl hvt hv
            go_wp2_with fail
            go_loopw [10, 13] (fun ov x wr => ∃ (i : Nat) (o : List Nat) (P : List Int) (oa : Option Addr) (oc : Nat), x = .int .i64 (i : Int) ∧ ov = .slice oa o.length oc ∧ Hid (KhS W3 B4 B6 n pc nc ps ns P us (nextL E n) o (.slice oa o.length oc) wr ∧ KI E n (fun v => v ∈ postL g k) o i 0 P)) (fun _ x _ => n - (intOf x).toNat)
            case atStart => exact ⟨0, o0, pendL E n, oa, oc, rfl, rfl, HS.out, HKI.out.1⟩
            case round =>
              obtain ⟨i, o, P, oa, oc, rfl, rfl, hh⟩ := hrel
              have HO := Lib.hid hh.out
              clear hh
              obtain ⟨hon, hom⟩ := Go.Gra.KI.olen HO.out.2
              have hio := HO.out.2.io
              by_cases hil : i < o.length
              · have hil' : (i : Int) < (o.length : Int) := by omega
                obtain ⟨u, hu⟩ : ∃ u, u = nth o i := ⟨_, rfl⟩
                have hun : u < n := by rw [hu]; exact hom _ (nth_mem _ _ hil)
                obtain ⟨l1, l2⟩ := list_rd HO.out.1.lst hil
                rw [← hu] at l1
                have hrow := HO.out.1.p.rows.inn u (by rw [nextL_len]; exact hun)
                rw [nextL_nth hun] at hrow
                obtain ⟨ra, rc, hrv⟩ := hrow.shape (n := (row E u).length) (by rw [List.length_map])
                obtain ⟨a4, c4, he, hm4, hidx4, hcell4, -⟩ := HO.out.1.p.rows.out.lst.out1 sRowsG
                have hvl : us.length = n := by rw [HO.out.1.p.rows.len, nextL_len]
                rw [hvl] at he hm4 hidx4 hcell4
                simp only [Value.slice.injEq] at he
                obtain ⟨rfl, -, rfl⟩ := he
                have ccl := hcell4 u hun
                rw [hrv] at ccl
                have i4 := hidx4 .i64 (u : Int) (by omega) (by omega)
                rw [Int.toNat_natCast] at i4
                have hrl2 := row_len E u
                have HU := Lib.hid (And.intro hu (And.intro hun hrv))
                clear hu hrow hrv hm4 hidx4 hcell4 hvl hom
                go_wp2_with fail
                clear l1 l2 ccl i4
                go_loopw [10, 104] (fun ov x wr => ∃ (t : Nat) (o' : List Nat) (P' : List Int) (oa : Option Addr) (oc : Nat), t ≤ (row E u).length ∧ x = .int .i64 (t : Int) ∧ ov = .slice oa o'.length oc ∧ Hid (KhS W3 B4 B6 n pc nc ps ns P' us (nextL E n) o' (.slice oa o'.length oc) wr ∧ KI E n (fun v => v ∈ postL g k) o' i t P' ∧ o <+: o')) (fun _ x _ => (row E u).length - (intOf x).toNat)
                case atStart => exact ⟨0, o, P, oa, oc, by omega, rfl, rfl, HO.out.1, HO.out.2, List.prefix_refl _⟩
                case round =>
                  obtain ⟨t, o', P', oa', oc', ht, rfl, rfl, hh⟩ := hrel
                  have HI := Lib.hid hh.out
                  clear hh
                  have hnu : nth o' i = u := by
                    obtain ⟨z, hz⟩ := HI.out.2.2
                    rw [← hz, nth_append, if_pos hil]; exact HU.out.1.symm
                  have hil2 : i < o'.length := by have := HI.out.2.2.length_le; omega
                  obtain ⟨hon2, -⟩ := Go.Gra.KI.olen HI.out.2.1
                  by_cases htl : t < (row E u).length
                  · have htl' : (t : Int) < ((row E u).length : Int) := by omega
                    obtain ⟨w, hw⟩ : ∃ w, w = nth (row E u) t := ⟨_, rfl⟩
                    have hwE : (u, w) ∈ E := Go.Kah.mem_row.1 (by rw [hw]; exact nth_mem _ _ htl)
                    have hwn := (HKI.out.2 _ _ hwE).2
                    have hrow := HI.out.1.p.rows.inn u (by rw [nextL_len]; exact HU.out.2.1)
                    rw [nextL_nth HU.out.2.1, HU.out.2.2] at hrow
                    obtain ⟨l1, l2⟩ := list_rd hrow htl
                    rw [← hw] at l1
                    obtain ⟨r1, i1, f1⟩ := own_int HI.out.1.p.pend HI.out.1.p.plen hwn
                    obtain ⟨z, hz⟩ : ∃ z, z = nth P' w := ⟨_, rfl⟩
                    rw [← hz] at r1
                    have hpos := (HI.out.2.1.pos hil2 (by rw [hnu]; exact htl) (by rw [hnu, ← hw]; exact hwn)).1
                    rw [hnu, ← hw, ← hz] at hpos
                    have hpv := HI.out.2.1.p w hwn
                    have hcl := cnt_len E (o'.take i) w
                    rw [← hz] at hpv
                    have hwr : IntKind.i64.wrap (z - 1) = z - 1 := IntWalk.i64_in _ (by omega)
                    have hst := HI.out.1.set hwn (z - 1)
                    have hki := HI.out.2.1.step hil2 (by rw [hnu]; exact htl) HKI.out.2 (w := w) (by rw [hnu]; exact hw)
                    rw [← hz] at hki
                    have HST := Lib.hid hst
                    have HK2 := Lib.hid hki
                    clear hnu hwE hrow hz hpos hpv hcl hst hki hw
                    go_upto_region 30 with fail
                    clear l1 l2 r1 i1 f1 hwr
                    refine gen_code (fun Y => KhS W3 B4 B6 n pc nc ps ns (P'.set w (z - 1)) us (nextL E n) o' (.slice oa' o'.length oc') Y) HST.out ?_
                    clear HST
                    intro Y hY
                    have HY := Lib.hid hY
                    clear hY
                    obtain ⟨r1, i1, -⟩ := own_int HY.out.p.pend HY.out.p.plen hwn
                    rw [nth_set, if_pos ⟨rfl, by rw [HI.out.1.p.plen]; exact hwn⟩] at r1
                    by_cases hz0 : z - 1 = 0
                    · rw [hz0] at r1
                      have hk2 := HK2.out
                      rw [if_pos hz0] at hk2
                      have HK3 := Lib.hid hk2
                      have hll : (o'.map fun x : Nat => (x : Int)).length < 17592186044416 := by rw [List.length_map]; omega
                      have hsB := HY.out.top
                      clear hk2 HK2 hz0
                      go_wp2_with (at_builtin; refine wp_append1at (f := Value.int .i64) sIntG rfl _ rfl _ _ rfl B6 _ (o'.map fun x : Nat => (x : Int)) rfl (HY.out.lst.alloc _) (w : Int) ⟨Y.heap.size, 0, none⟩ rfl (cell_alloc1 _ _ _) rfl hll (by omega) (le_alloc _ hsB) ?_; intro v' w3 hown hgr hat; obtain ⟨s9, c9, rfl⟩ := hown.shape (n := o'.length + 1) (by rw [List.length_append, List.length_map]; rfl); have HA := Lib.hid (HY.out.add hown hgr); clear hown hgr hat)
                      go_roundw
                      case rel => exact ⟨t + 1, o' ++ [w], P'.set w (z - 1), s9, c9, by omega, by go_num, by rw [List.length_append]; rfl, by rw [List.length_append]; exact ⟨HA.out, HK3.out, HI.out.2.2.trans (List.prefix_append _ _)⟩⟩
                      case measure => simp [intOf]; omega
                    · have w1 : ((z - 1) == 0) = false := by simpa using hz0
                      have hk2 := HK2.out
                      rw [if_neg hz0] at hk2
                      have HK3 := Lib.hid hk2
                      clear hk2 HK2 hz0
                      go_wp2_with fail
                      go_roundw
                      case rel => exact ⟨t + 1, o', P'.set w (z - 1), oa', oc', by omega, by go_num, rfl, HY.out, HK3.out, HI.out.2.2⟩
                      case measure => simp [intOf]; omega
                  · obtain rfl : t = (row E u).length := by omega
                    have hkn := HI.out.2.1.next hil2 (by rw [hnu])
                    have HKN := Lib.hid hkn
                    clear hkn hnu
                    go_wp2_with fail
                    go_roundw
                    case rel => exact ⟨i + 1, o', P', oa', oc', by go_num, rfl, HI.out.1, HKN.out⟩
                    case measure => simp [intOf]; omega
              · obtain rfl : i = o.length := by omega
                have HZ2 := Lib.hid (ki_end HV.out.1 HV.out.2.1 (r := k) (o := o) (P := P) (by rw [← HE.out, ← HN.out]; exact HO.out.2))
                have hfin : ((o.length : Int) == (nr : Int)) = redB g k := by
                  rw [← HZ2.out, ← HN.out, ← HNR.out, Bool.eq_iff_iff, beq_iff_eq, decide_eq_true_eq]; omega
                have HF := Lib.hid hfin
                clear hfin
                go_wp2_with fail
                go_ret
                exact ⟨by rw [HZ.out, ← HF.out]; rfl, H3.out.1.2.1.trans (HO.out.1.p.bel.mono H3.out.1.2.1.size)⟩
  · have hq : (dcode g r != 0) = true := by simpa using hc
    have HZ : Hid ((decide (dcode g r = 0) && redB g r.toNat) = false) := Lib.hid (by rw [decide_eq_false hc]; rfl)
    clear hc
    go_wp2_with fail
    go_ret
    exact ⟨by rw [HZ.out]; rfl, H1.out.2.1⟩
end Go.Proofs.Ytlijimdkadobmaa
