/- Contract of split. -/
import Derived.Test.YtchmjgjagaaomaaSpo
namespace Go.Proofs.Ytchmjgjagaaomaa
open Go.RowKit Go.Dfl Go.Gra Go.Tj
open Go.Spl (pendL nextL pendL_len nextL_len pendL_nth nextL_nth pendL_nil nextL_nil pendL_add nextL_add)
def SplitR (g : G) (W : World) (e : Ending) (W' : World) : Prop := ∃ ls of lv vs ov, e = .returned (.agg #[lv, ov]) ∧ PartsAre g ls of ∧ OwnN IIg W' W.heap.size 32 lv vs ls ∧ OwnI W' W.heap.size 3 ov of ∧ Below W.heap.size W W'
set_option maxHeartbeats 6400000 in
set_option maxRecDepth 100000 in
theorem gSplit_any (g : G) (cv : Value) (W : World) (h : Pairs W cv g.es) (hvg : VG g) : Calls Try.prog 31 #[GV g cv] W (SplitR g W) := by
  obtain ⟨ca, cc, rfl, -, -, -⟩ := pairs_rd h
  have hal := (Below.refl W.heap.size W).alloc (Nat.le_refl _) (.cells #[.int .i64 g.n, .slice ca g.es.length cc] 24)
  have hbx := BoxG.new W g.n (.slice ca g.es.length cc) 24
  have hal2 := (Below.refl _ _).alloc (Nat.le_refl (W.alloc (.cells #[.int .i64 g.n, .slice ca g.es.length cc] 24)).heap.size) (.cells #[.slice none 0 0, .slice none 0 0] 48)
  have hal3 := hal.trans (hal2.mono hal.size)
  have H0 := Lib.hid (And.intro (h.below hal3) (And.intro hal3 (hbx.below hal2)))
  have HPW := Lib.hid h
  obtain ⟨n, hn⟩ : ∃ n : Nat, g.n = n := ⟨g.n.toNat, by have := hvg.n0; omega⟩
  have hn8 : n ≤ 8192 := by have := hvg.n1; omega
  have HV := Lib.hid (And.intro hvg hn)
  unfold GV
  rw [hn] at H0 ⊢
  have hrb : ((W.alloc (.cells #[.int .i64 g.n, .slice ca g.es.length cc] 24)).alloc (.cells #[.slice none 0 0, .slice none 0 0] 48)).heap[W.heap.size + 1]? = some (.cells #[.slice none 0 0, .slice none 0 0] 48) := by
    have h9 := heap_alloc_new (W.alloc (.cells #[.int .i64 g.n, .slice ca g.es.length cc] 24)) (.cells #[.slice none 0 0, .slice none 0 0] 48)
    rw [World.size_alloc] at h9; exact h9
  have HRB0 := Lib.hid hrb
  rw [hn] at HRB0
  clear h hal hal2 hal3 hbx hvg hn hrb
  obtain ⟨c0, c1⟩ := H0.out.2.2
  go_enter Try.func31, Try.ntmps31
  go_wp2_with fail
  have hsu := gSearch_any g (.slice ca g.es.length cc) _ H0.out.1 HV.out.1
  unfold GV at hsu
  rw [HV.out.2] at hsu
  refine hsu.mono ?_
  rintro e W1 ⟨ha, hc, l, rfl, hown, hds, b1⟩
  rw [HV.out.2, Int.toNat_natCast] at hown ⊢
  have hbx1 := H0.out.2.2.below b1
  have hW1 := H0.out.2.1.trans (b1.mono H0.out.2.1.size)
  have hrb1 := (b1.block _ (Array.getElem?_eq_some_iff.1 HRB0.out).1).trans HRB0.out
  have HRB := Lib.hid (And.intro hrb1 (Array.getElem?_eq_some_iff.1 hrb1).1)
  have H1 := Lib.hid (And.intro hds (And.intro hW1 (And.intro hbx1 (hown.mono H0.out.2.1.size))))
  clear hsu hown b1 c0 c1 hbx1 hW1 hds hrb1 HRB0
  obtain ⟨c0, c1⟩ := H1.out.2.2.1
  go_wp2_with (at_make; refine wp_make (f := Value.int .i64) 0 sIntG rfl _ rfl _ _ rfl .i64 .i64 _ _ n rfl rfl rfl rfl (by omega) (by unfold maxLen; omega) ?_)
  intro ps pc W4 hrow hb4
  have HR4 := Lib.hid (And.intro hrow hb4)
  obtain ⟨c0, c1⟩ := H1.out.2.2.1.below hb4
  clear hrow hb4
  go_wp2_with (at_make; refine wp_make (f := fun x : Value => x) (.slice none 0 0) sRowsG rfl _ rfl _ _ rfl .i64 .i64 _ _ n rfl rfl rfl rfl (by omega) (by unfold maxLen; omega) ?_)
  intro ns nc W5 hrow hb5
  have hb35 := HR4.out.2.trans (hb5.mono HR4.out.2.size)
  have h5 : KhP W1 W4.heap.size n pc nc ps ns (pendL (qE g l 0) n) (List.replicate n (.slice none 0 0)) (nextL (qE g l 0) n) W5 := ⟨by rw [show qE g l 0 = [] from rfl, pendL_nil]; exact HR4.out.1.below hb5, pendL_len _ _, fun q e => (HR4.out.1.lt q e).2, by rw [show qE g l 0 = [] from rfl, nextL_nil]; exact OwnN.made hrow (Go.Dfl.Own.nil _ _ _ _), nextL_len _ _, hb35, HR4.out.2.size⟩
  have H5 := Lib.hid h5
  obtain ⟨c0, c1⟩ := H1.out.2.2.1.below hb35
  clear hrow hb5 hb35 h5
  obtain ⟨ca', cc', he, -, hci, hcc⟩ := pairs_rd HPW.out
  simp only [Value.slice.injEq] at he
  obtain ⟨rfl, -, rfl⟩ := he
  have HCC := Lib.hid hcc
  clear hcc
  have hel := HV.out.1.len
  obtain ⟨B4, hB4⟩ : ∃ B4, B4 = W4.heap.size := ⟨_, rfl⟩
  rw [← hB4] at H5
  clear hB4
  go_wp2_with fail
  clear c0 c1
  go_loopw [32] (fun x wr => ∃ (i : Nat) (us : List Value), i ≤ g.es.length ∧ x = .int .i64 (i : Int) ∧ Hid (KhP W1 B4 n pc nc ps ns (pendL (qE g l i) n) us (nextL (qE g l i) n) wr)) (fun x _ => g.es.length - (intOf x).toNat)
  case atStart => exact ⟨0, _, by omega, rfl, H5.out⟩
  case round =>
    obtain ⟨i, us, hi, rfl, hh⟩ := hrel
    have HL := Lib.hid hh.out
    clear hh
    by_cases hit : i < g.es.length
    · have hil : (i : Int) < (g.es.length : Int) := by omega
      have hpc := (HCC.out i hit).2
      obtain ⟨p0, p1⟩ := hpc wr (H1.out.2.1.trans (HL.out.bel.mono H1.out.2.1.size))
      have j1 := hci (i : Int) (by omega) (by omega)
      rw [Int.toNat_natCast] at j1
      have hin := HV.out.1.nth hit
      have hyes := qE_yes (g := g) (l := l) hit
      have hno := qE_no (g := g) (l := l) hit
      obtain ⟨e, he⟩ : ∃ e, e = nth g.es i := ⟨_, rfl⟩
      rw [← he] at p0 p1 hin hyes hno
      obtain ⟨e1, e2⟩ := e
      dsimp only at p0 p1 hin hyes hno
      obtain ⟨a, rfl⟩ : ∃ a : Nat, e1 = (a : Int) := ⟨e1.toNat, by omega⟩
      obtain ⟨b, rfl⟩ : ∃ b : Nat, e2 = (b : Int) := ⟨e2.toNat, by omega⟩
      have hgn := HV.out.2
      have han : a < n := by omega
      have hbn : b < n := by omega
      have hbx := cells_new (W := wr) (cs := [.int .i64 (a : Int), .int .i64 (b : Int)]) (t := 35) rfl
      have hbA := (Below.refl wr.heap.size wr).alloc (Nat.le_refl _) (.cells #[.int .i64 (a : Int), .int .i64 (b : Int)] 35)
      have HYN := Lib.hid (And.intro hyes hno)
      have hB4w : B4 ≤ wr.heap.size := by
        have := HL.out.rows.at' (c := a) (by rw [HL.out.llen]; exact han)
        omega
      have HA := Lib.hid (And.intro (hbx 0 _ rfl) (And.intro (hbx 1 _ rfl) (HL.out.below hbA)))
      clear he hin hyes hno hpc hbx hbA hgn
      go_upto_region 7 with fail
      refine gen_code (fun Z => Z.cell? ⟨wr.heap.size, 0, none⟩ = some (.int .i64 (a : Int)) ∧ Z.cell? ⟨wr.heap.size, 1, none⟩ = some (.int .i64 (b : Int)) ∧ KhP W1 B4 n pc nc ps ns (pendL (qE g l i) n) us (nextL (qE g l i) n) Z) HA.out ?_
      intro Z hZ
      obtain ⟨be, hbe⟩ : ∃ be, be = wr.heap.size := ⟨_, rfl⟩
      rw [← hbe] at hZ hB4w ⊢
      obtain ⟨x0, x1, hz⟩ := hZ
      have HZ2 := Lib.hid hz
      have hbl : be < Z.heap.size := World.block_lt_of_cell? _ _ x0
      have HFT : Hid (∀ q, Foot (.slice ns n nc) us q → q < be) := Lib.hid fun q hq => by rw [hbe]; exact (HL.out.rows.foot kIIg q hq).2
      have hho := H1.out.2.2.2.below hz.bel
      clear HA p0 p1 hbe hz
      have hll : l.length = n := by have := H1.out.1.1; have := HV.out.2; omega
      obtain ⟨u0, u1, -⟩ := own_int hho hll han
      obtain ⟨v0, v1, -⟩ := own_int hho hll hbn
      have kA := (H1.out.1.hd (v := a) (by have := HV.out.2; omega)).1
      have kB := (H1.out.1.hd (v := b) (by have := HV.out.2; omega)).1
      rw [kA] at u0
      rw [kB] at v0
      have hA8 := H1.out.1.lt HV.out.1 (v := a) (by have := HV.out.2; omega)
      have hB8 := H1.out.1.lt HV.out.1 (v := b) (by have := HV.out.2; omega)
      generalize hdN l (a : Int) = ya at *
      generalize hdN l (b : Int) = yb at *
      clear hho hll kA kB
      by_cases hne : ya = yb
      · have w1 : ((ya : Int) != (yb : Int)) = false := by simpa using (by omega : (ya : Int) = (yb : Int))
        have hx := HYN.out.2 hne
        have HZN : Hid (∀ m, KhP W1 B4 n pc nc ps ns (pendL (qE g l (i + 1)) n) us (nextL (qE g l (i + 1)) n) (Z.drewN m)) := Lib.hid fun m => by
          rw [hx]; exact HZ2.out.below (below_drewN (Below.refl _ _) m)
        clear hne hx
        go_quiet (fail)
        go_wp2_with fail
        go_roundw
        case rel => exact ⟨i + 1, us, by omega, by go_num, HZN.out _⟩
        case measure => simp [intOf]; omega
      · have w1 : ((ya : Int) != (yb : Int)) = true := by simpa using (by omega : ¬ (ya : Int) = (yb : Int))
        have hx := HYN.out.1 hne
        have HX := Lib.hid hx
        have HZN : Hid (∀ m, KhP W1 B4 n pc nc ps ns (pendL (qE g l i) n) us (nextL (qE g l i) n) (Z.drewN m)) := Lib.hid fun m => HZ2.out.below (below_drewN (Below.refl _ _) m)
        have HBE : Hid (∀ m, be < (Z.drewN m).heap.size) := Lib.hid fun m => Nat.lt_of_lt_of_le hbl (below_drewN (Below.refl Z.heap.size Z) m).size
        clear hne hx
        go_quiet (fail)
        clear u0 u1 v0 v1 x0 x1 hbl
        go_upto_region 9 with fail
        refine gen_code (fun Y => KhP W1 B4 n pc nc ps ns (pendL (qE g l i) n) us (nextL (qE g l i) n) Y ∧ be < Y.heap.size) ⟨HZN.out _, HBE.out _⟩ ?_
        intro Y hY
        have hya : ya < n := by have := HV.out.2; omega
        have hyb : yb < n := by have := HV.out.2; omega
        obtain ⟨k0, k1, k2⟩ := own_int hY.1.pend hY.1.plen hya
        have hst := hY.1.set hya (nth (pendL (qE g l i) n) ya + 1)
        have HST := Lib.hid (And.intro hst hY.2)
        obtain ⟨z, hz⟩ : ∃ z, z = nth (pendL (qE g l i) n) ya := ⟨_, rfl⟩
        have hwz : wrap64 (z + 1) = z + 1 := by
          rw [Go.Spl.pendL_nth hya] at hz
          have h1 := cnt_le (qE g l i) [] ya
          have h2 := qE_len g l i
          unfold wrap64; omega
        rw [← hz] at k0 HST
        have HZZ := Lib.hid hz
        clear HZN HBE hY hst hz
        go_upto_region 10 with fail
        clear k0 k1 k2 hwz
        refine gen_code (fun Y => KhP W1 B4 n pc nc ps ns ((pendL (qE g l i) n).set ya (z + 1)) us (nextL (qE g l i) n) Y ∧ be < Y.heap.size) ⟨HST.out.1, by rw [World.size_setCell]; exact HST.out.2⟩ ?_
        intro V hV
        have HVV := Lib.hid hV
        clear HST
        have hul : us.length = n := by rw [hV.1.rows.len]; exact hV.1.llen
        obtain ⟨a4, c4, he4, hm4, hidx4, hcell4, -⟩ := hV.1.rows.out.lst.out1 sRowsG
        rw [hul] at he4 hm4 hidx4 hcell4
        simp only [Value.slice.injEq] at he4
        obtain ⟨rfl, -, rfl⟩ := he4
        have ccl := hcell4 yb hyb
        have i4 := hidx4 .i64 (yb : Int) (by omega) (by omega)
        rw [Int.toNat_natCast] at i4
        have hcn : (nth (nextL (qE g l i) n) yb).length < 17592186044416 := by
          rw [Go.Spl.nextL_nth hyb, List.length_map]
          have h1 := row_le (qE g l i) yb
          have h2 := qE_len g l i
          omega
        have hown1 := hV.1.rows.inn yb (by rw [hV.1.llen]; exact hyb)
        have hB4V : B4 ≤ V.heap.size := by omega
        have HO1 := Lib.hid hown1
        have HC := Lib.hid ccl
        have hsh := hown1.shape (n := (nth (nextL (qE g l i) n) yb).length) rfl
        have HYB := Lib.hid hyb
        clear hidx4 hcell4 hm4 hV hown1 hsh hul
        go_wp2_with (at_builtin; refine wp_append1at (f := Value.int .i64) sIntG rfl _ rfl _ _ rfl B4 (nth us yb) (nth (nextL (qE g l i) n) yb) rfl (HO1.out.alloc _) (ya : Int) ⟨V.heap.size, 0, none⟩ rfl (cell_alloc1 _ _ _) rfl hcn (by omega) (le_alloc _ hB4V) ?_; intro v' w3 hown hgr hat; obtain ⟨s9, c9, rfl⟩ := hown.shape (n := (nth (nextL (qE g l i) n) yb).length + 1) (by simp); have HO := Lib.hid (HVV.out.1.push HYB.out hown hgr hat HC.out); obtain ⟨o1, o2, -⟩ := HO.out; clear hown hgr hat ccl)
        go_roundw
        case rel => exact ⟨i + 1, us.set yb (.slice s9 ((nth (nextL (qE g l i) n) yb).length + 1) c9), by omega, by go_num, by
          rw [HX.out, pendL_add (by have := HV.out.2; omega), nextL_add HYB.out, ← HZZ.out]; exact HO.out.2.2⟩
        case measure => simp [intOf]; omega
    · obtain rfl : i = g.es.length := by omega
      obtain ⟨c0, c1⟩ := H1.out.2.2.1.below HL.out.bel
      clear hit hci
      go_upto_region 13 with fail
      clear c0 c1
      have hnew := hpO_new (keep := fun q => q < wr.heap.size) wr (fun _ h => h)
      have hb6 := ((Below.refl wr.heap.size wr).alloc (Nat.le_refl _) (.cells #[] 3)).alloc (by rw [World.size_alloc]; omega) (.cells #[.slice (some ⟨wr.heap.size, 0, none⟩) 0 0] 64)
      refine gen_code (fun Y => HpO (fun q => q < wr.heap.size) (wr.heap.size + 1) wr.heap.size [] Y ∧ KhP W1 B4 n pc nc ps ns (pendL (qE g l g.es.length) n) us (nextL (qE g l g.es.length) n) Y) ⟨hnew, HL.out.below hb6⟩ ?_
      intro V hV
      have HV6 := Lib.hid hV
      have HFT : Hid (∀ q, Foot (.slice ns n nc) us q → q < wr.heap.size) := Lib.hid fun q hq => (HL.out.rows.foot kIIg q hq).2
      obtain ⟨B6, hB6⟩ : ∃ B6, B6 = wr.heap.size := ⟨_, rfl⟩
      rw [← hB6] at HV6 HFT ⊢
      obtain ⟨c0, c1⟩ := H1.out.2.2.1.below HV6.out.2.bel
      have HB46 : Hid ((∀ q, (Value.slice ps n pc).ownBlock = some q → q < B6) ∧ W1.heap.size ≤ B6) := Lib.hid ⟨fun q hq => by rw [hB6]; exact (HL.out.pend.lt q hq).2, by rw [hB6]; exact HL.out.bel.size⟩
      clear hnew hb6 hV hB6
      go_wp2_with fail
      clear c0 c1
      go_loopw [70] (fun x Z => ∃ (v : Nat) (R : List Nat), v ≤ n ∧ x = .int .i64 (v : Int) ∧ Hid (R.Perm (rdyK g l v) ∧ HpO (fun q => q < B6) (B6 + 1) B6 R Z ∧ KhP W1 B4 n pc nc ps ns (pendL (qE g l g.es.length) n) us (nextL (qE g l g.es.length) n) Z)) (fun x _ => n - (intOf x).toNat)
      case atStart => exact ⟨0, [], by omega, rfl, .refl _, HV6.out⟩
      case round =>
        obtain ⟨v, R, hv, rfl, hh⟩ := hrel
        have HL2 := Lib.hid hh.out
        clear hh
        by_cases hvn : v < n
        · have hvl : (v : Int) < (n : Int) := by omega
          have hho := H1.out.2.2.2.below HL2.out.2.2.bel
          have hll : l.length = n := by have := H1.out.1.1; have := HV.out.2; omega
          obtain ⟨u0, u1, -⟩ := own_int hho hll hvn
          obtain ⟨k0, k1, -⟩ := own_int HL2.out.2.2.pend HL2.out.2.2.plen hvn
          rw [(H1.out.1.hd (v := v) (by have := HV.out.2; omega)).1] at u0
          rw [Go.Spl.pendL_nth hvn] at k0
          clear hho hll
          have hyes := rdy_yes (g := g) (l := l) (k := v)
          have hno := rdy_no (g := g) (l := l) (k := v)
          generalize hdN l (v : Int) = y at *
          generalize Go.Kah.cnt (qE g l g.es.length) [] v = z at *
          have HYN := Lib.hid (And.intro hyes hno)
          clear hyes hno
          by_cases hy : y = v
          · by_cases hz : z = 0
            · subst hz
              have w1 : ((y : Int) == (v : Int)) = true := by simpa using (by omega : (y : Int) = (v : Int))
              have HX := Lib.hid (HYN.out.1 hy rfl)
              clear hy
              go_upto_region 17 with fail
              clear u0 u1 k0 k1
              refine gen_code (fun Y => HpO (fun q => q < B6) (B6 + 1) B6 R Y ∧ KhP W1 B4 n pc nc ps ns (pendL (qE g l g.es.length) n) us (nextL (qE g l g.es.length) n) Y) HL2.out.2 ?_
              intro Y hY
              have HY := Lib.hid hY
              have hpu := hPush_any (fun q => q < B6) (B6 + 1) B6 R v Y hY.1 (by have h1 := HL2.out.1.length_eq; have h2 : (rdyK g l v).length ≤ v := Nat.le_trans (List.length_filter_le _ _) (by simp); omega)
              unfold hpV at hpu
              clear hY
              go_wp2_with fail
              refine hpu.mono ?_
              rintro e W9 ⟨rfl, hf, R', hO, hp⟩
              have HR9 : Hid (R'.Perm (rdyK g l (v + 1)) ∧ HpO (fun q => q < B6) (B6 + 1) B6 R' W9 ∧ KhP W1 B4 n pc nc ps ns (pendL (qE g l g.es.length) n) us (nextL (qE g l g.es.length) n) W9) := Lib.hid ⟨by rw [HX.out]; exact hp.trans (HL2.out.1.append_right [v]), hO, HY.out.2.hpf hf (fun q hq => by have := HB46.out.2; show q < B6; omega) (fun q hq => HB46.out.1 q hq) (fun q hq => HFT.out q hq)⟩
              clear hf hO hp hpu
              go_wp2_with fail
              go_roundw
              case rel => exact ⟨v + 1, R', by omega, by go_num, HR9.out⟩
              case measure => simp [intOf]; omega
            · have w1 : ((y : Int) == (v : Int)) = true := by simpa using (by omega : (y : Int) = (v : Int))
              have w2 : ((z : Int) == 0) = false := by simpa using hz
              have HX := Lib.hid (HYN.out.2 (fun h => hz h.2))
              clear hy hz
              go_wp2_with fail
              go_roundw
              case rel => exact ⟨v + 1, R, by omega, by go_num, by rw [HX.out]; exact HL2.out⟩
              case measure => simp [intOf]; omega
          · have w1 : ((y : Int) == (v : Int)) = false := by simpa using (by omega : ¬ (y : Int) = (v : Int))
            have HX := Lib.hid (HYN.out.2 (fun h => hy h.1))
            clear hy
            go_wp2_with fail
            go_roundw
            case rel => exact ⟨v + 1, R, by omega, by go_num, by rw [HX.out]; exact HL2.out⟩
            case measure => simp [intOf]; omega
        · obtain rfl : n = v := by omega
          obtain ⟨c0, c1⟩ := H1.out.2.2.1.below HL2.out.2.2.bel
          clear hvn
          go_wp2_with (at_make; refine wp_make (f := Value.int .i64) 0 sIntG rfl _ rfl _ _ rfl .i64 .i64 _ _ n rfl rfl rfl rfl (by omega) (by unfold maxLen; omega) ?_)
          intro xs xc W8 hrow hb8
          have h8 := LpM.start HL2.out.2.1 HL2.out.2.2 hrow hb8 (List.length_replicate ..) HB46.out.2 HB46.out.1 HFT.out
          have hgn := HV.out.2
          have hs8 := rdy_start (g := g) (l := l) (R := R) (by rw [hgn, Int.toNat_natCast]; exact HL2.out.1)
          rw [hgn, Int.toNat_natCast] at hs8
          have H8 := Lib.hid (And.intro hs8 h8)
          obtain ⟨Bx, hBx⟩ : ∃ Bx, Bx = wr.heap.size := ⟨_, rfl⟩
          rw [← hBx] at H8
          clear hrow hb8 h8 hs8 c0 c1 hBx hgn
          go_wp2_with fail
          go_loopw [13] (fun x Z => ∃ (L R : List Nat) (P X : List Int), x = .int .i64 (L.length : Int) ∧ Hid (Go.Kah.HB (qE g l g.es.length) n (fun v => hdN l (v : Int) = v) L R P ∧ LpM W1 B4 B6 Bx n pc nc xc ps ns xs us (nextL (qE g l g.es.length) n) R P X Z ∧ ∀ j, j < L.length → nth X (nth L j) = (j : Int))) (fun x _ => n - (intOf x).toNat)
          case atStart => exact ⟨[], R, _, _, rfl, H8.out.1, H8.out.2, fun j hj => by simp at hj⟩
          case round =>
            obtain ⟨L, R, P, X, rfl, hh⟩ := hrel
            have HL3 := Lib.hid hh.out
            clear hh
            have hLR : L.length + R.length ≤ n := by
              have h9 := Go.Kah.nodup_le (L ++ R) (List.range n) HL3.out.1.nd (fun x hx => by
                rw [List.mem_append] at hx; rw [List.mem_range]; exact ((HL3.out.1.mem x).1 hx).2.1)
              rw [List.length_append, List.length_range] at h9; exact h9
            have HLR := Lib.hid hLR
            obtain ⟨⟨s, m, c, hvv⟩, hheap⟩ := HL3.out.2.1.hp
            have hml := hvv.len
            have q0 := hvv.cell
            have q1 := hvv.frz
            have hle := mLen_any s m c wr
            have HHV := Lib.hid (And.intro hheap hml)
            clear hvv hheap hml hLR
            by_cases hm : 0 < m
            · have w1 : (0 : Int) < (m : Int) := by omega
              go_wp2_with fail
              refine hle.mono ?_
              rintro e W' ⟨rfl, rfl⟩
              have hpo := hPop_any (kpX B6 (.slice xs n xc)) (B6 + 1) B6 R W' HL3.out.2.1.hp (by have := HHV.out.2; omega) (by have := HLR.out; omega)
              unfold hpV at hpo
              clear hle
              go_wp2_with fail
              refine hpo.mono ?_
              rintro e W9 ⟨rfl, hf, R', hO, hpm⟩
              have HP9 := Lib.hid (And.intro (HL3.out.2.1.op hf hO) hpm)
              clear hf hO hpm hpo q0 q1
              obtain ⟨u, hu⟩ : ∃ u, u = nth R 0 := ⟨_, rfl⟩
              rw [← hu] at HP9 ⊢
              have hpop := (HL3.out.1.perm HP9.out.2).pop (fun x hx => by
                rw [hu]
                obtain ⟨i, hi, he⟩ := mem_nth (HP9.out.2.mem_iff.1 (List.mem_cons_of_mem _ hx))
                rw [← he]; exact HHV.out.1.root i hi)
              have hun : u < n := ((HL3.out.1.mem u).1 (.inr (HP9.out.2.mem_iff.1 (by simp)))).2.1
              have hul : ¬ u ∈ L := fun hm => (List.nodup_append.1 hpop.nd).2.2 u hm u (by simp) rfl
              obtain ⟨x0, x1, x2⟩ := own_int HP9.out.1.ix HP9.out.1.xl hun
              have hsX := HP9.out.1.setX hun (L.length : Int)
              have hxx : ∀ j, j < (L ++ [u]).length → nth (X.set u (L.length : Int)) (nth (L ++ [u]) j) = (j : Int) := fun j hj => by
                rw [List.length_append] at hj
                simp only [List.length_cons, List.length_nil] at hj
                rw [nth_append]
                by_cases hjl : j < L.length
                · rw [if_pos hjl, nth_set, if_neg (fun e : u = nth L j ∧ _ => hul (by rw [e.1]; exact nth_mem _ _ hjl))]
                  exact HL3.out.2.2 j hjl
                · rw [if_neg hjl, show j - L.length = 0 by omega, show nth [u] 0 = u from rfl, nth_set, if_pos ⟨rfl, by rw [HP9.out.1.xl]; exact hun⟩, show j = L.length by omega]
              have HQ := Lib.hid (And.intro hpop (And.intro hsX hxx))
              have ta : ∀ (xt : Nat) (y : Int) (Y : World), (Instr.typeAssert (.iface 3 (.int .i64 y)) xt 3 true).run Try.prog Y = .ok (.tuple #[.int .i64 y, .bool true]) Y := fun _ _ _ => by kernel_rfl
              clear hpop hsX hxx hul hu
              go_upto_region 24 with fail
              clear x0 x1 x2 ta
              refine gen_code (fun Y => LpM W1 B4 B6 Bx n pc nc xc ps ns xs us (nextL (qE g l g.es.length) n) R' P (X.set u (L.length : Int)) Y) HQ.out.2.1 ?_
              intro Y hY
              have HY := Lib.hid hY
              have hwc : wrap64 ((L.length : Int) + 1) = (L.length : Int) + 1 := by have := HLR.out; unfold wrap64; omega
              have hul : us.length = n := by rw [hY.kh.rows.len]; exact hY.kh.llen
              obtain ⟨a4, c4, he4, hm4, hidx4, hcell4, -⟩ := hY.kh.rows.out.lst.out1 sRowsG
              rw [hul] at he4 hm4 hidx4 hcell4
              simp only [Value.slice.injEq] at he4
              obtain ⟨rfl, -, rfl⟩ := he4
              have ccl := hcell4 u hun
              have i4 := hidx4 .i64 (u : Int) (by omega) (by omega)
              rw [Int.toNat_natCast] at i4
              obtain ⟨m4, hm4e⟩ : ∃ m4, m4 = (Go.Kah.row (qE g l g.es.length) u).length := ⟨_, rfl⟩
              have hrl : (nth (nextL (qE g l g.es.length) n) u).length = m4 := by rw [Go.Spl.nextL_nth hun, List.length_map, hm4e]
              obtain ⟨s9, c9, hsh⟩ := (hY.kh.rows.inn u (by rw [hY.kh.llen]; exact hun)).shape (n := m4) hrl
              rw [hsh] at ccl
              have hm4b : m4 ≤ g.es.length := by
                have h1 := row_le (qE g l g.es.length) u
                have h2 := qE_len g l g.es.length
                omega
              have HR := Lib.hid (And.intro hun (And.intro hrl (And.intro hsh hm4e)))
              clear hidx4 hcell4 hm4 hY hul hsh hrl hm4e hun
              go_wp2_with fail
              clear ccl i4 hwc
              go_loopw [118] (fun x Z => ∃ (k : Nat) (R : List Nat) (P : List Int), k ≤ m4 ∧ x = .int .i64 (k : Int) ∧ Hid (Go.Kah.HM (qE g l g.es.length) n (fun v => hdN l (v : Int) = v) L u k R P ∧ LpM W1 B4 B6 Bx n pc nc xc ps ns xs us (nextL (qE g l g.es.length) n) R P (X.set u (L.length : Int)) Z)) (fun x _ => m4 - (intOf x).toNat)
              case atStart => exact ⟨0, R', P, by omega, rfl, HQ.out.1, HY.out⟩
              case round =>
                obtain ⟨k, R3, P3, hk, rfl, hh⟩ := hrel
                have HL4 := Lib.hid hh.out
                clear hh
                by_cases hkm : k < m4
                · have hkl : (k : Int) < (m4 : Int) := by omega
                  have hrn := HL4.out.2.kh.rows.inn u (by rw [HL4.out.2.kh.llen]; exact HR.out.1)
                  rw [HR.out.2.2.1] at hrn
                  obtain ⟨r0, r1, -⟩ := own_int hrn HR.out.2.1 hkm
                  obtain ⟨a, ha⟩ : ∃ a, nth (Go.Kah.row (qE g l g.es.length) u) k = a := ⟨_, rfl⟩
                  have hkr : k < (Go.Kah.row (qE g l g.es.length) u).length := by rw [← HR.out.2.2.2]; exact hkm
                  have hrk : nth (nth (nextL (qE g l g.es.length) n) u) k = (a : Int) := by
                    rw [Go.Spl.nextL_nth HR.out.1, nth_eq _ _ (by rw [List.length_map]; exact hkr), List.getElem_map, ← ha, nth_eq _ _ hkr]
                  rw [hrk] at r0
                  have hin := qE_inn H1.out.1 HV.out.1 g.es.length u a (Go.Kah.mem_row.1 (by rw [← ha]; exact nth_mem _ _ hkr))
                  have han : a < n := by have := HV.out.2; omega
                  obtain ⟨k0, k1, k2⟩ := own_int HL4.out.2.kh.pend HL4.out.2.kh.plen han
                  have hnx := HL4.out.1.next hkr ha han hin.2.1
                  have hpos := HL4.out.1.pos hkr (by rw [ha]; exact han)
                  rw [ha] at hpos
                  have hpl := HL4.out.1.p a han
                  have hcl := cnt_le (qE g l g.es.length) L a
                  have hql := qE_len g l g.es.length
                  have hgl := HV.out.1.len
                  obtain ⟨z, hz⟩ : ∃ z, z = nth P3 a := ⟨_, rfl⟩
                  have hst := HL4.out.2.setP han (nth P3 a - 1)
                  rw [← hz] at k0 hnx hpos hpl hst
                  have hwz : wrap64 (z - 1) = z - 1 := by unfold wrap64; omega
                  have HS := Lib.hid (And.intro hst hnx)
                  have HAN := Lib.hid (And.intro han (And.intro hin.2.1 HL4.out.1.nd))
                  clear hrn hkr hrk hin hnx hpos hpl hcl hql hst hz ha han
                  go_upto_region 29 with fail
                  clear r0 r1 k0 k1 k2 hwz
                  refine gen_code (fun Y => LpM W1 B4 B6 Bx n pc nc xc ps ns xs us (nextL (qE g l g.es.length) n) R3 (P3.set a (z - 1)) (X.set u (L.length : Int)) Y) HS.out.1 ?_
                  intro Y hY
                  obtain ⟨k0, k1, -⟩ := own_int hY.kh.pend hY.kh.plen HAN.out.1
                  have hpl : P3.length = n := HL4.out.2.kh.plen
                  rw [nth_set, if_pos ⟨rfl, by rw [hpl]; exact HAN.out.1⟩] at k0
                  have HY4 := Lib.hid hY
                  clear hpl hY
                  obtain ⟨y, hy⟩ : ∃ y, y = z - 1 := ⟨_, rfl⟩
                  rw [← hy] at HS HY4 k0
                  clear hy
                  by_cases hy0 : y = 0
                  · subst hy0
                    have hn3 := HS.out.2.2 rfl
                    have h2 := Go.Kah.nodup_le (L ++ u :: a :: R3) (List.range n) hn3.nd (fun x hx => by
                      rw [List.mem_append, List.mem_cons] at hx; rw [List.mem_range]; exact ((hn3.mem x).1 hx).2.1)
                    rw [List.length_append, List.length_cons, List.length_cons, List.length_range] at h2
                    have hpu := hPush_any (kpX B6 (.slice xs n xc)) (B6 + 1) B6 R3 a Y HY4.out.hp (by omega)
                    unfold hpV at hpu
                    have HN3 := Lib.hid hn3
                    clear hn3 h2
                    go_wp2_with fail
                    refine hpu.mono ?_
                    rintro e W9 ⟨rfl, hf, R5, hO, hpm⟩
                    have HR9 := Lib.hid (And.intro (HN3.out.perm (hpm.trans (List.perm_append_singleton a R3))) (HY4.out.op hf hO))
                    clear hf hO hpm hpu k0 k1
                    go_wp2_with fail
                    go_roundw
                    case rel => exact ⟨k + 1, R5, P3.set a 0, by omega, by go_num, HR9.out⟩
                    case measure => simp [intOf]; omega
                  · have w2 : ((y : Int) == 0) = false := by simpa using hy0
                    have HN3 := Lib.hid (HS.out.2.1 hy0)
                    clear hy0
                    go_wp2_with fail
                    go_roundw
                    case rel => exact ⟨k + 1, R3, P3.set a y, by omega, by go_num, HN3.out, HY4.out⟩
                    case measure => simp [intOf]; omega
                · obtain rfl : m4 = k := by omega
                  clear hkm
                  go_wp2_with fail
                  go_roundw
                  case rel => exact ⟨L ++ [u], R3, P3, X.set u (L.length : Int), by simp, by have h9 := HL4.out.1; rw [HR.out.2.2.2] at h9; exact h9.done, HL4.out.2, HQ.out.2.2⟩
                  case measure => have := HLR.out; have := HHV.out.2; simp [intOf]; omega
            · obtain rfl : m = 0 := by omega
              have hR0 : R = [] := List.eq_nil_of_length_eq_zero HHV.out.2
              subst hR0
              have hgn := HV.out.2
              have hwh : OrdIs g l L := by
                unfold OrdIs
                rw [hgn, Int.toNat_natCast]
                exact HL3.out.1.whole (fun a b hm => by
                  have h9 := (qE_inn H1.out.1 HV.out.1 _ a b hm).1
                  exact ⟨h9.1, by omega⟩) (qE_acyclic H1.out.1 HV.out.1 _)
              have HWH := Lib.hid hwh
              clear hwh hm hgn
              obtain ⟨c0, c1⟩ := H1.out.2.2.1.below HL3.out.2.1.kh.bel
              go_wp2_with fail
              refine hle.mono ?_
              rintro e W9 ⟨rfl, rfl⟩
              clear q0 q1 hle
              go_upto_region 32 with fail
              obtain ⟨cnt, hcnt⟩ : ∃ cnt, cnt = L.length := ⟨_, rfl⟩
              have hcn : cnt ≤ n := by have := HLR.out; omega
              rw [← hcnt]
              have HCN := Lib.hid hcnt
              clear hcnt
              refine Go.Dfl.N.wp_region_makesR [0, 2, 3] (mksP n cnt) 5 144 [1, 4] (fun b => .agg #[.slice (some ⟨b 1, 0, none⟩) cnt cnt, .slice (some ⟨b 4, 0, none⟩) n n]) [7] (fun w' => w'.cell? ⟨W.heap.size, 0, none⟩ = some (.int .i64 (n : Int))) W9.heap.size (Nat.le_refl _) (by kernel_rfl) (by simp [mksP, Go.Dfl.N.mkS, Go.Dfl.N.mkA]) (by simp [mksP, Go.Dfl.N.mkS, Go.Dfl.N.mkA]) (by simp) (by simp [mksP, Go.Dfl.N.mkS, Go.Dfl.N.mkA]) (by simp [mksP, Go.Dfl.N.mkS, Go.Dfl.N.mkA]) (fun b b' h => by rw [h 1 (by simp), h 4 (by simp)]) (by kernel_rfl) (by kernel_rfl) (fun w w' hg hh => hg.cell hh (by simp)) c0 ?_
              repeat (
                refine wpHeads_cons (v := ?_) rfl (Or.inl ⟨by rfl, ?_⟩) ?_
                rotate_left
                · (intro W hW; go_simp; try with_reducible rfl)
                simp only [Act.put, List.setIfInBounds_toArray])
              refine wpHeads_nil ?_
              simp only [List.getElem_toArray, List.getElem_cons_zero, List.getElem_cons_succ, List.setIfInBounds_toArray, List.set_cons_zero, List.set_cons_succ]
              refine ⟨?_, ⟨⟨_, rfl, rfl, fun b a' hb hsz => ?_⟩, ?_⟩, ?_⟩
              rotate_left
              · have h1 := hb _ (by simp [mksP] : Go.Dfl.N.mkS 1 140 139 32 cnt (.slice none 0 0) 1 ∈ mksP n cnt) (by simp [Go.Dfl.N.mkS])
                have h2 := hb _ (by simp [mksP] : Go.Dfl.N.mkS 4 143 142 3 n (.int .i64 0) 1 ∈ mksP n cnt) (by simp [Go.Dfl.N.mkS])
                simp only [Go.Dfl.N.mkS] at h1 h2
                refine Or.inl ⟨by simp [Region.wanted], fun w _ => ?_⟩
                simp only [List.getElem_toArray, List.getElem_cons_succ, List.getElem_cons_zero, execOp, List.map_toArray, List.map_cons, List.map_nil, h1, h2]
                go_simp
              · intro m hm
                simp only [mksP, List.mem_cons, List.not_mem_nil, or_false] at hm
                rcases hm with rfl | rfl | rfl <;> simp [Go.Dfl.N.mkS, Go.Dfl.N.mkA]
              rotate_left
              · intro m hm
                simp only [mksP, List.mem_cons, List.not_mem_nil, or_false] at hm
                rcases hm with rfl | rfl | rfl
                · exact Go.Dfl.N.mkS_at sRowsG ⟨_, rfl, rfl, rfl, rfl⟩ (by omega) (by unfold maxLen; omega) rfl
                · exact Go.Dfl.N.mkS_at sIntG ⟨_, rfl, rfl, rfl, rfl⟩ (by omega) (by unfold maxLen; omega) rfl
                · exact Go.Dfl.N.mkA_at (z := .agg #[.slice none 0 0, .slice none 0 0]) (by kernel_rfl) ⟨_, rfl, rfl, rfl, rfl⟩
              intro bq W2 hE hS2
              simp only [mksP, List.foldl_cons, List.foldl_nil, Go.Dfl.N.mkS, Go.Dfl.N.mkA, List.setIfInBounds_toArray, List.set_cons_zero, List.set_cons_succ]
              have hM := LoW.start (W0 := W9.drew) hE
              obtain ⟨e1, -, -⟩ := hE.is (Go.Dfl.N.mkA 6 18 2 48 #[.slice none 0 0, .slice none 0 0]) (by simp [mksP])
              simp only [Go.Dfl.N.mkA] at e1
              have HM := Lib.hid hM
              clear hM hE c0 c1
              obtain ⟨bt, hbt⟩ : ∃ bt, bt = bq 6 := ⟨_, rfl⟩
              obtain ⟨sl, hsl⟩ : ∃ sl : Option Addr, sl = some ⟨bq 1, 0, none⟩ := ⟨_, rfl⟩
              obtain ⟨so, hso⟩ : ∃ so : Option Addr, so = some ⟨bq 4, 0, none⟩ := ⟨_, rfl⟩
              obtain ⟨B1, hB1⟩ : ∃ B1, B1 = W2.heap.size := ⟨_, rfl⟩
              have HM1 := HM.out
              rw [← hB1, ← hbt, ← hsl, ← hso] at HM1
              rw [← hbt] at e1
              rw [← hsl, ← hso, ← hbt]
              clear HM hbt hB1 hsl hso
              have w0 : W2.cell? ⟨bt, 0, none⟩ = some (.slice none 0 0) := by simp [World.cell?, e1]
              have w1 : W2.cell? ⟨bt, 1, none⟩ = some (.slice none 0 0) := by simp [World.cell?, e1]
              have w3 : W2.frozen? ⟨bt, 0, none⟩ = false := by simp [World.frozen?, e1]
              have w4 : W2.frozen? ⟨bt, 1, none⟩ = false := by simp [World.frozen?, e1]
              have hnb : W.heap.size ≠ bt := by
                intro e9
                rw [World.cell?, e9, e1] at hS2
                simp at hS2
              clear e1
              refine wpTailsH_cons rfl ?_
              go_wp2_with fail
              refine tail_mk (by
                have h8 : ∀ (Z : World) (j : Nat) (v : Value), Z.cell? ⟨W.heap.size, 0, none⟩ = some (.int .i64 (n : Int)) → (Z.setCell ⟨bt, j, none⟩ v).cell? ⟨W.heap.size, 0, none⟩ = some (.int .i64 (n : Int)) := fun Z j v hZ => by
                  rw [World.cell?_setCell_other _ _ _ _ (by simp only [ne_eq, Addr.mk.injEq, not_and]; intro h; exact absurd h.symm hnb)]; exact hZ
                exact h8 _ _ _ (h8 _ _ _ hS2)) ?_
              refine wpTailsH_nil ?_
              refine K_gen (fun Z => LoW W9.drew n cnt bt B1 sl so (List.replicate n 0) (List.replicate cnt (.slice none 0 0)) (List.replicate cnt []) Z) HM1 ?_
              clear HM1 hS2 w0 w1 w3 w4 hnb
              intro W3 h3
              have hb9 : ∀ Z, Below W9.drew.heap.size W9.drew Z → Below W9.heap.size W9 Z := fun Z hZ => ((Below.refl _ _).drew).trans hZ
              have hcz : (L.map fun h => compK l h 0) = List.replicate cnt [] := by
                rw [HCN.out]; exact List.map_const' ..
              rw [← hcz] at h3
              have H3 := Lib.hid h3
              have HB9 := Lib.hid hb9
              clear h3 hcz hb9
              obtain ⟨c0, c1⟩ := (H1.out.2.2.1.below HL3.out.2.1.kh.bel).below (HB9.out _ H3.out.bel)
              go_wp2_with fail
              clear c0 c1
              go_loopw [147] (fun x Z => ∃ (v : Nat) (ol : List Int) (vs : List Value), v ≤ n ∧ x = .int .i64 (v : Int) ∧ Hid (LoW W9.drew n cnt bt B1 sl so ol vs (L.map fun h => compK l h v) Z ∧ ∀ w, w < v → nth ol w = nth X (hdN l (w : Int)))) (fun x _ => n - (intOf x).toNat)
              case atStart => exact ⟨0, _, _, by omega, rfl, H3.out, fun w hw => by omega⟩
              case round =>
                obtain ⟨v, ol, vs, hv, rfl, hh⟩ := hrel
                have HL5 := Lib.hid hh.out
                clear hh
                by_cases hvn : v < n
                · have hvl : (v : Int) < (n : Int) := by omega
                  have hgn := HV.out.2
                  have hbz := HB9.out _ HL5.out.1.bel
                  obtain ⟨u0, u1, -⟩ := own_int ((H1.out.2.2.2.below HL3.out.2.1.kh.bel).below hbz) (by have := H1.out.1.1; omega : l.length = n) hvn
                  rw [(H1.out.1.hd (v := v) (by omega)).1] at u0
                  have hyn := H1.out.1.lt HV.out.1 (v := v) (by omega)
                  have hself := H1.out.1.self HV.out.1 (v := v) (by omega)
                  obtain ⟨y, hy⟩ : ∃ y, y = hdN l (v : Int) := ⟨_, rfl⟩
                  rw [← hy] at u0 hyn hself
                  obtain ⟨j, hj, hje⟩ := mem_nth ((HWH.out.mem y).2 ⟨hself, hyn⟩)
                  have hyn' : y < n := by omega
                  obtain ⟨x0, x1, -⟩ := own_int (HL3.out.2.1.ix.below hbz) HL3.out.2.1.xl hyn'
                  have hxj := HL3.out.2.2 j hj
                  rw [hje] at hxj
                  rw [hxj] at x0
                  obtain ⟨o0, o1, o2⟩ := HL5.out.1.rdO hvn
                  have d1 := HL5.out.1.c1
                  have hst := HL5.out.1.setO v (j : Int)
                  have hj' : j < cnt := by rw [HCN.out]; exact hj
                  have hol : ∀ w, w < v + 1 → nth (ol.set v (j : Int)) w = nth X (hdN l (w : Int)) := fun w hw => by
                    rw [nth_set]
                    by_cases e : v = w
                    · subst e
                      rw [if_pos ⟨rfl, by rw [HL5.out.1.lo]; exact hvn⟩, ← hy, hxj]
                    · rw [if_neg (fun h9 : v = w ∧ _ => e h9.1)]
                      exact HL5.out.2 w (by omega)
                  have HS5 := Lib.hid (And.intro hst (And.intro hol (And.intro hj (And.intro hje hy))))
                  clear hgn hbz hyn hself hje hxj hst hol hj hy
                  go_upto_region 38 with fail
                  clear u0 u1 x0 x1 o0 o1 o2 d1
                  refine gen_code (fun Y => LoW W9.drew n cnt bt B1 sl so (ol.set v (j : Int)) vs (L.map fun h => compK l h v) Y) HS5.out.1 ?_
                  intro V hV
                  have hbd : Below V.heap.size V V.drew := (Below.refl _ _).drew
                  have hv1 := hV.below hbd
                  have d2 := hv1.c0
                  obtain ⟨ccl, i4, hfz⟩ := hv1.rdP hj'
                  obtain ⟨n1, ⟨n2, n3⟩, ⟨n4, n5⟩, n6, n7, n8⟩ := hv1.ne
                  have hvl2 := hv1.lv
                  have hna : ∀ q, (nth vs j).ownBlock = some q → q ≠ blk sl ∧ q ≠ bt := fun q hq => by
                    have h9 := hv1.rows j hj' q hq
                    exact ⟨by omega, by omega⟩
                  have hlen : (nth (L.map fun h => compK l h v) j).length ≤ v := by
                    rw [comps_nth HS5.out.2.2.1]; exact compK_le _ _ _
                  have HS := Lib.hid (And.intro d2 ccl)
                  have HH := Lib.hid (And.intro hv1 (And.intro hna (And.intro hlen hvl2)))
                  clear hna hlen ccl hv1 d2 n1 n2 n3 n4 n5 n6 n7 n8 hV hbd hvl2
                  refine wp_region_mix [0, 1, 2, 3, 4, 5, 6, 7, 8] [9, 10, 11, 12] (fun w' => w'.cell? ⟨bt, 0, none⟩ = some (.slice sl cnt cnt) ∧ w'.cell? ⟨blk sl, ofs sl + j, none⟩ = some (nth vs j)) (by kernel_rfl) (by kernel_rfl) (by kernel_rfl) HS.out ?_
                  repeat (
                    refine wpHeads_cons (v := ?_) rfl (Or.inl ⟨by rfl, ?_⟩) ?_
                    rotate_left
                    · (intro W hW; obtain ⟨q1, q2⟩ := hW; go_simp; try with_reducible rfl)
                    simp only [Act.put, List.setIfInBounds_toArray, List.getElem_toArray, List.getElem_cons_zero, List.getElem_cons_succ, List.set_cons_succ, List.set_cons_zero])
                  refine wpHeads_nil ?_
                  generalize V.drew = Z at *
                  refine wpTails_cons rfl ?_
                  go_wp2_with fail
                  have gA := grownBy_alloc Z (.cells #[.int .i64 (v : Int)] 3)
                  have HS2 := Lib.hid (HS.out.imp (fun h => gA.cell h (by simp)) fun h => gA.cell h (by simp))
                  have HA := Lib.hid (And.intro (HH.out.1.grown gA (by simp)) (cell_alloc1 Z (.int .i64 (v : Int)) 3))
                  clear gA
                  refine tail_mk HS2.out ?_
                  refine wpTails_cons rfl ?_
                  refine wp_append1at (f := Value.int .i64) sIntG rfl _ rfl _ _ rfl W9.drew.heap.size (nth vs j) (nth (L.map fun h => compK l h v) j) rfl (HA.out.1.p.inn j (by rw [HA.out.1.lp]; exact hj')) (v : Int) ⟨Z.heap.size, 0, none⟩ rfl HA.out.2 rfl (by have := HH.out.2.2.1; omega) (by omega) (HA.out.1.bel.size) ?_
                  intro v31 w31 o31 g31 l31
                  obtain ⟨s31, c31, rfl⟩ := o31.shape (n := (nth (L.map fun h => compK l h v) j).length + 1) (by simp)
                  have hS3 := HS2.out.imp (fun h => g31.cell h (fun e => (HH.out.2.1 _ e.symm).2 rfl)) fun h => g31.cell h (fun e => (HH.out.2.1 _ e.symm).1 rfl)
                  have HS3 := Lib.hid hS3
                  clear hS3
                  refine tail_mk HS3.out ?_
                  refine wpTails_cons rfl ?_
                  go_wp2_with fail
                  refine tail_mk HS3.out ?_
                  refine wpTails_one rfl ?_
                  have hf31 := (HA.out.1.p.outAt (by rw [HA.out.1.lp]; exact hj') g31).frozen (by rw [HH.out.2.2.2]; omega) (ofs sl + j)
                  have hc31 := HS3.out.2
                  have hput := HA.out.1.put hj' g31 o31 (fun q hq => by
                    rcases l31 with e | e
                    · left; rw [← e, hq]
                    · right; rw [e] at hq; have := Option.some.inj hq; omega)
                  rw [comps_step HWH.out.nd HS5.out.2.2.1 (by rw [HS5.out.2.2.2.1, HS5.out.2.2.2.2])] at hput
                  have HQ := Lib.hid hput
                  clear o31 g31 l31 hput
                  go_wp2_with fail
                  refine thenQ_mk ?_
                  go_wp2_with fail
                  go_roundw
                  case rel => exact ⟨v + 1, ol.set v (j : Int), vs.set j (.slice s31 ((nth (L.map fun h => compK l h v) j).length + 1) c31), by omega, by go_num, HQ.out, HS5.out.2.1⟩
                  case measure => simp [intOf]; omega
                · obtain rfl : n = v := by omega
                  clear hvn
                  have hbz := HL3.out.2.1.kh.bel.trans ((HB9.out _ HL5.out.1.bel).mono HL3.out.2.1.kh.bel.size)
                  have hrb := (hbz.block _ HRB.out.2).trans HRB.out.1
                  have w0 : wr.cell? ⟨W.heap.size + 1, 0, none⟩ = some (.slice none 0 0) := by simp [World.cell?, hrb]
                  have w1 : wr.cell? ⟨W.heap.size + 1, 1, none⟩ = some (.slice none 0 0) := by simp [World.cell?, hrb]
                  have w2 : wr.frozen? ⟨W.heap.size + 1, 0, none⟩ = false := by simp [World.frozen?, hrb]
                  have w3 : wr.frozen? ⟨W.heap.size + 1, 1, none⟩ = false := by simp [World.frozen?, hrb]
                  have d0 := HL5.out.1.c0
                  have d1 := HL5.out.1.c1
                  have HBZ := Lib.hid hbz
                  clear hbz hrb
                  go_wp2_with fail
                  refine bodyPost_ret (v := .agg #[.slice sl cnt cnt, .slice so n n]) (by rw [results_cell1 rfl]; go_simp; try rfl) rfl ?_
                  have gf := grownBy_trans (grownBy_setCell wr ⟨W.heap.size + 1, 0, none⟩ (.slice sl cnt cnt)) (grownBy_setCell _ ⟨W.heap.size + 1, 1, none⟩ (.slice so n n))
                  dsimp only at gf
                  have f3 := HL5.out.1
                  have hnn : g.n.toNat = n := by have := HV.out.2; omega
                  have hsz : W.heap.size + 1 < W9.drew.heap.size := by
                    have h1 := HRB.out.2
                    have h2 := HL3.out.2.1.kh.bel.size
                    show W.heap.size + 1 < W9.heap.size
                    omega
                  have ho1 := f3.o.grown gf (.inr (by rw [f3.bo]; intro e; have h9 := (f3.o.lt _ f3.bo).1; have := Option.some.inj e; omega))
                  have hp1 := f3.p.grown kIIg gf (fun q e hf => by have h9 := (f3.p.foot kIIg q hf).1; have := Option.some.inj e; omega)
                  have hbW := H1.out.2.1.trans (HBZ.out.mono H1.out.2.1.size)
                  refine ⟨L.map fun h => compK l h n, ol, _, vs, _, rfl, ⟨⟨l, L, H1.out.1, HWH.out, by rw [hnn], by rw [hnn]; exact f3.lo, fun v hv => ?_⟩⟩, OwnN.mono hp1 (by omega), ho1.mono (by omega), hbW.grown gf hbW.size (fun q e => by have := Option.some.inj e; omega)⟩
                  have hyn := H1.out.1.lt HV.out.1 hv
                  have hself := H1.out.1.self HV.out.1 hv
                  obtain ⟨j, hj, hje⟩ := mem_nth ((HWH.out.mem _).2 ⟨hself, hyn⟩)
                  exact ⟨j, by rw [HL5.out.2 v (by omega), ← hje]; exact HL3.out.2.2 j hj, hj, hje⟩
end Go.Proofs.Ytchmjgjagaaomaa
