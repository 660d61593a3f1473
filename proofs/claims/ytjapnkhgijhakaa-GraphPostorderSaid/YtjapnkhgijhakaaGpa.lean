/- Contract of Path. -/
import Derived.Test.YtjapnkhgijhakaaGpm
import Derived.Test.YtjapnkhgijhakaaGrs
namespace Go.Proofs.Ytjapnkhgijhakaa
open Go.RowKit Go.Dfl Go.Gra Go.Shelf
attribute [local go_sem] Oper.semAt_some

def PathR (g : G) (a b : Int) (W : World) (e : Ending) (W' : World) : Prop := ∃ o s c l, e = .returned (.tuple #[.slice s l.length c, .bool o]) ∧ Ints W' (.slice s l.length c) (l.map fun x : Nat => (x : Int)) ∧ Below W.heap.size W W' ∧ PathIs g a b o l
set_option maxHeartbeats 3200000 in
set_option maxRecDepth 100000 in
theorem gPath_any (g : G) (cv : Value) (a b : Int) (W : World) (h : Pairs W cv g.es) : Calls Try.prog 20 #[GV g cv, .int .i64 a, .int .i64 b] W (PathR g a b W) := by
  obtain ⟨ca, cc, rfl, -, -, -⟩ := pairs_rd h
  have hal := (Below.refl W.heap.size W).alloc (Nat.le_refl _) (.cells #[.int .i64 g.n, .slice ca g.es.length cc] 25)
  have H0 := Lib.hid (And.intro (h.below hal) (And.intro hal (BoxG.new W g.n (.slice ca g.es.length cc) 25)))
  clear h hal
  unfold GV
  refine (callsIn_wide (n := 5)).1 ?_
  refine callsIn_of_wp_marks Try.func20 rfl trivial ?_ rfl
  simp only [Try.ntmps20, List.size_toArray, List.length_cons, List.length_nil, Nat.reduceAdd, Nat.reduceSub, Array.replicate_succ, Array.replicate_zero, List.push_toArray, List.append_toArray, List.nil_append, List.cons_append]
  refine wpIn_wide.2 ?_
  go_wp2_with fail
  have hck := gCheck_any g (.slice ca g.es.length cc) _ H0.out.1
  unfold GV at hck
  refine hck.mono ?_
  rintro e W1 ⟨rfl, r1⟩
  have H1 := Lib.hid (And.intro (H0.out.1.below r1) (And.intro (H0.out.2.1.trans (r1.mono H0.out.2.1.size)) (H0.out.2.2.below r1)))
  clear r1 hck
  obtain ⟨c0, c1⟩ := H1.out.2.2
  have n1 : W.heap.size < W1.heap.size := H1.out.2.2.lt
  generalize hbs : W.heap.size = bs at *
  have HBS := Lib.hid hbs
  have n2 : bs ≠ W1.heap.size := by omega
  clear hbs
  by_cases hc : gCode g = 0
  · have q0 : (gCode g != 0) = false := by simpa using hc
    cases hnd : nodeB g.n a
    · have HN : Hid (PathIs g a b false []) := Lib.hid (.bad fun h => by rw [hnd] at h; simp at h)
      clear hc
      cases hne : nodeB g.n b <;> clear hne
      all_goals
        go_wp2_with (go_at_call 30; refine (node_any _ _ _).mono ?_; rintro e w' ⟨rfl, hw⟩; rw [hw]; clear hw w')
        exact ⟨_, results_tmp2 rfl _ _ _, false, none, 0, [], rfl, Lst.nil _ _, by rw [HBS.out]; exact H1.out.2.1, HN.out⟩
    · cases hne : nodeB g.n b
      · have HN : Hid (PathIs g a b false []) := Lib.hid (.bad fun h => by rw [hne] at h; simp at h)
        clear hc
        go_wp2_with (go_at_call 30; refine (node_any _ _ _).mono ?_; rintro e w' ⟨rfl, hw⟩; rw [hw]; clear hw w')
        exact ⟨_, results_tmp2 rfl _ _ _, false, none, 0, [], rfl, Lst.nil _ _, by rw [HBS.out]; exact H1.out.2.1, HN.out⟩
      · have hvg := gCode_ok.1 hc
        obtain ⟨ha0, ha1⟩ := nodeB_iff.1 hnd
        obtain ⟨hb0, hb1⟩ := nodeB_iff.1 hne
        obtain ⟨n, hn⟩ : ∃ n : Nat, g.n = n := ⟨g.n.toNat, by omega⟩
        obtain ⟨a, rfl⟩ : ∃ k : Nat, a = k := ⟨a.toNat, by omega⟩
        obtain ⟨b, rfl⟩ : ∃ k : Nat, b = k := ⟨b.toNat, by omega⟩
        have hn8 : n ≤ 8192 := by have := hvg.n1; omega
        have han : a < n := by omega
        have hbn : b < n := by omega
        have HV := Lib.hid (And.intro hvg (And.intro hn (And.intro hc (And.intro hnd hne))))
        have hre : ∀ Z, Below W1.heap.size W1 Z → Calls Try.prog 43 #[.agg #[.int .i64 n, .slice ca g.es.length cc]] Z (RevR g Z) := fun Z hZ => by
          have := reversed_any g (.slice ca g.es.length cc) Z (H1.out.1.below hZ) hvg
          unfold GV at this; rw [hn] at this; exact this
        have HRE := Lib.hid hre
        rw [hn] at c0 hnd hne ⊢
        clear hvg hn ha0 ha1 hb0 hb1 hc hre
        go_wp2_with (first | (go_at_call 30; refine (node_any _ _ _).mono ?_; rintro e w' ⟨rfl, hw⟩; rw [hw]; clear hw w') | (go_at_call 43; refine (HRE.out W1 (Below.refl _ _)).mono ?_; rintro e W2 ⟨ra, rc, r, rfl, hr1, hr2, hr3⟩; have HR := Lib.hid (And.intro hr1 (And.intro hr2 hr3)); clear hr1 hr2 hr3; unfold GV))
        have hvr := HV.out.1.rev HR.out.2.1
        have hdi := distances_any ⟨g.n, r⟩ (.slice ra r.length rc) b W2 (own_pairs HR.out.1) hvr (by rw [HV.out.2.1]; omega)
        unfold GV at hdi
        refine hdi.mono ?_
        rintro e W3 ⟨s, cap, rfl, d1, d2⟩
        dsimp only at d1 d2 ⊢
        have hfl : (farL g.n r b).length = n := by unfold farL; rw [distL_len hvr, HV.out.2.1]; rfl
        change OwnI W3 W2.heap.size 3 _ (farL g.n r b) at d1
        rw [HV.out.2.1, Int.toNat_natCast] at d1 ⊢
        obtain ⟨far, hfar⟩ : ∃ far, far = farL n r b := ⟨_, rfl⟩
        rw [← hfar] at d1
        have hfl' : far.length = n := by rw [hfar, ← HV.out.2.1]; exact hfl
        have htop : nth far a ≤ (n : Int) := by
          have e1 := distL_top hvr (r := b) (by rw [HV.out.2.1]; exact hbn) (w := a) (by rw [HV.out.2.1]; exact han)
          dsimp only at e1
          rw [hfar]; unfold farL
          rw [HV.out.2.1, Int.toNat_natCast] at e1
          exact e1
        have hb13 : Below W1.heap.size W1 W3 := HR.out.2.2.trans (d2.mono HR.out.2.2.size)
        have hnx : ∀ (v k : Nat), v < n → nth far v = (k : Int) + 1 → nxt g.es far v ∈ suc g.es v ∧ nth far (nxt g.es far v) = k ∧ nxt g.es far v < n := fun v k hv hk => by
          have e1 := nxt_spec HV.out.1 HR.out.2.1 (b := b) HV.out.2.2.2.2 (v := v) (k := k) (by rw [HV.out.2.1]; exact hv) (by rw [HV.out.2.1, ← hfar]; exact hk)
          rw [HV.out.2.1, ← hfar] at e1; exact e1
        have hfz : ∀ v, v < n → 0 ≤ nth far v → (nth far v = 0 ↔ v = b) := fun v hv h0 => by
          have e1 := far_zero HV.out.1 HR.out.2.1 (b := b) HV.out.2.2.2.2 (v := v) (by rw [HV.out.2.1]; exact hv) (by rw [HV.out.2.1, ← hfar]; exact h0)
          rw [HV.out.2.1, ← hfar] at e1; exact e1
        obtain ⟨ps, pb⟩ := PW.start hb13 d1 HR.out.2.2.size hfl' a
        obtain ⟨a9, c9, he, hm9, hidx, hcell, -⟩ := (d1.alloc (.cells #[.slice s n cap] 33)).lst.out1 sIntG
        rw [hfl'] at he hm9 hidx hcell
        simp only [Value.slice.injEq] at he
        obtain ⟨rfl, -, rfl⟩ := he
        have hci := hcell a han
        have hii := hidx .i64 (a : Int) (by omega) (by omega)
        rw [Int.toNat_natCast] at hii
        obtain ⟨y, hy⟩ : ∃ y, y = nth far a := ⟨_, rfl⟩
        rw [← hy] at hci
        have HF := Lib.hid (And.intro hfar (And.intro hnx (And.intro hfz (And.intro ps (And.intro pb (And.intro hb13 (And.intro hy (And.intro hfl' htop))))))))
        clear hvr hdi hfl hfar hfl' htop hb13 hnx hfz ps pb hidx hcell hy d1 d2
        by_cases hyn : y < 0
        · have qy : decide (y < 0) = true := by simpa using hyn
          have HN : Hid (PathIs g a b false []) := Lib.hid (.no ⟨HV.out.2.2.1, HV.out.2.2.2.1, HV.out.2.2.2.2⟩ r HR.out.2.1 (by rw [HV.out.2.1, Int.toNat_natCast, Int.toNat_natCast, ← HF.out.1, ← HF.out.2.2.2.2.2.2.1]; exact hyn))
          clear hyn
          go_wp2_with fail
          exact ⟨_, results_tmp2 rfl _ _ _, false, none, 0, [], rfl, Lst.nil _ _, by rw [HBS.out]; exact (H1.out.2.1.trans (HF.out.2.2.2.2.2.1.mono (Nat.le_of_lt n1))).alloc (by have := HF.out.2.2.2.2.2.1.size; omega) _, HN.out⟩
        · have qy : decide (y < 0) = false := by simpa using hyn
          obtain ⟨k, rfl⟩ : ∃ k : Nat, y = k := ⟨y.toNat, by omega⟩
          have hk8 : k ≤ 8192 := by have h1 := HF.out.2.2.2.2.2.2.2.2; have h2 := HF.out.2.2.2.2.2.2.1; omega
          clear hyn
          go_wp2_with fail
          refine gen_code (fun Z => PW W3.heap.size (W3.heap.size + 1 + 1) W1.heap.size n cap s far (.slice (some ⟨W3.heap.size + 1, 0, none⟩) 1 1) [a] a Z ∧ Below W1.heap.size W1 Z) ⟨HF.out.2.2.2.1, HF.out.2.2.2.2.1⟩ ?_
          intro Z0 hz0
          have HZ := Lib.hid hz0
          clear hz0 hci hii
          generalize W3.heap.size = bf at *
          refine wp_loop_marks [false, false, false, false, false, false, true, false, false, true, true, false, false, false, false, false, false, false, false, false, false, false, false, false, false, false, false, false, false, false, false, false, false, false, false, false, false, false, false, false, true, true, true, true, true, true, true, true, true, true, true, true, true, true, true, true, true, true, true, true, true, true, true, false] k (fun m l Ds wr => ∃ (v : Nat) (p : List Nat) (bi : Nat) (ps : Option Addr) (pc : Nat), slot l 9 = .pointer (some ⟨bi, 0, none⟩) ∧ slot l 6 = .slice ps (p.length + 1) pc ∧ v < n ∧ p.length + m = k ∧ Hid (nth far v = m) ∧ Hid (p ++ pathL g.es far m v = pathL g.es far k a ∧ OpenM W1.heap.size Ds wr ∧ Below W1.heap.size W1 wr ∧ PW bf bi W1.heap.size n cap s far (.slice ps (p.length + 1) pc) (p ++ [v]) v wr)) ?atStart ?round
          case atStart => exact ⟨a, [], bf + 1 + 1, _, _, rfl, rfl, han, by simp, HF.out.2.2.2.2.2.2.1.symm, rfl, OpenM.nil _ _, HZ.out.2, HZ.out.1⟩
          case round =>
            (intro gk wr Ds; dsimp only [FrA, slot]; intros; rename_i hrel Jm Km hJm hKm)
            obtain ⟨v, p, bi, ps, pc, rfl, rfl, hvn, hpk, hvm, hh⟩ := hrel
            obtain ⟨hpl, hop, hbel, hpw⟩ := hh.out
            have i1 := hpw.ix
            obtain ⟨d0, d1⟩ := H1.out.2.2.below hbel
            rw [HV.out.2.1] at d0
            have HR2 := Lib.hid (And.intro hpl (And.intro hop (And.intro hbel hpw)))
            clear hpl hop hh hpw hbel
            have hzr := HF.out.2.2.1 v hvn (by rw [hvm.out]; omega)
            rw [hvm.out] at hzr
            cases gk with
            | zero =>
              obtain rfl := hzr.1 rfl
              have HPL := Lib.hid HR2.out.1
              clear hzr d0 d1
              go_wp2_with fail
              have ho4 := HR2.out.2.1
              obtain ⟨f1, f2⟩ := shut_inv (B := W1.heap.size) (p := fun X => OwnI X W1.heap.size 3 (.slice ps (p.length + 1) pc) ((p ++ [v]).map fun x : Nat => (x : Int)) ∧ Below bs W X) (fun X D hD hX hp => ⟨hp.1.grown (grownBy_putObj' X D (.deferred none)) (own_ne_obj hp.1 hX rfl), hp.2.grown (grownBy_putObj' X D (.deferred none)) (by rw [← HBS.out]; exact hp.2.size) (fun k e => by have e2 := Option.some.inj e; omega)⟩) ho4 ⟨HR2.out.2.2.2.lst, H1.out.2.1.trans (HR2.out.2.2.1.mono (Nat.le_of_lt n1))⟩
              have hfull : p ++ [v] = pathL g.es far k a := HPL.out
              refine leaves_marks ho4 ⟨_, results_tmp2 rfl _ _ _, true, ps, pc, p ++ [v], ?_, ?_, ?_, ?_⟩
              · rw [List.length_append]; rfl
              · rw [show (p ++ [v]).length = p.length + 1 by rw [List.length_append]; rfl]; exact f1.lst
              · rw [HBS.out]; exact f2
              · have h9 := PathIs.yes (a := (a : Int)) (b := (v : Int)) ⟨HV.out.2.2.1, HV.out.2.2.2.1, HV.out.2.2.2.2⟩ r HR.out.2.1 k (by rw [HV.out.2.1, Int.toNat_natCast, Int.toNat_natCast, ← HF.out.1, ← HF.out.2.2.2.2.2.2.1])
                rw [HV.out.2.1, Int.toNat_natCast, Int.toNat_natCast, ← HF.out.1, ← hfull] at h9
                exact h9
            | succ kk =>
              have hvb : v ≠ b := fun e => by have := hzr.2 e; omega
              have hvb' : ¬ (v : Int) = (b : Int) := by omega
              obtain ⟨hx1, hx2, hx3⟩ := HF.out.2.1 v kk hvn (by rw [hvm.out]; omega)
              have HX := Lib.hid (And.intro hx1 (And.intro hx2 hx3))
              clear hzr hvb hx1 hx2 hx3
              have hsu : ∀ Z, Calls Try.prog 37 #[.agg #[.int .i64 n, .slice ca g.es.length cc], .int .i64 (v : Int)] Z fun e W' => e = .returned (.func (.func 51) #[] #[.pointer (some ⟨Z.heap.size, 0, none⟩), .pointer (some ⟨Z.heap.size + 1, 0, none⟩)]) ∧ W' = (Z.alloc (.cells #[.int .i64 n, .slice ca g.es.length cc] 25)).alloc (.cells #[.int .i64 (v : Int)] 3) := fun Z => by have h1 := succ_any g (.slice ca g.es.length cc) v Z; unfold GV at h1; rw [HV.out.2.1] at h1; exact h1
              have HSU := Lib.hid hsu
              clear hsu
              go_wp2_with (go_at_call 37; refine (HSU.out _).mono ?_; rintro e w' ⟨rfl, hw⟩; rw [hw]; clear hw w')
              have hbz : Below wr.heap.size wr ((wr.alloc (.cells #[.int .i64 (n : Int), .slice ca g.es.length cc] 25)).alloc (.cells #[.int .i64 (v : Int)] 3)) := (((Below.refl wr.heap.size wr).alloc (Nat.le_refl _) _).alloc (by rw [World.size_alloc]; omega) _)
              have hpw := H1.out.1.below HR2.out.2.2.1
              have hrd := RdS.new (v := v) hpw
              rw [HV.out.2.1] at hrd
              have hsz3 : ((wr.alloc (.cells #[.int .i64 (n : Int), .slice ca g.es.length cc] 25)).alloc (.cells #[.int .i64 (v : Int)] 3)).heap.size = wr.heap.size + 2 := by
                rw [World.size_alloc, World.size_alloc]
              have hlts := HR2.out.2.2.2.lts
              have hBz := HR2.out.2.2.2.ne
              have hDs : ∀ D ∈ Ds, D < wr.heap.size := fun D hD => (Array.getElem?_eq_some_iff.1 (HR2.out.2.1.op D hD).2).1
              have hrz : ∀ q, (Value.slice s n cap).ownBlock = some q → q < wr.heap.size := fun q e => (HR2.out.2.2.2.row.lt q e).2
              have hovz : ∀ q, (Value.slice ps (p.length + 1) pc).ownBlock = some q → q < wr.heap.size := fun q e => (HR2.out.2.2.2.lst.lt q e).2
              have hP := And.intro (HR2.out.2.2.2.grown (grownBy_below hbz) (by simp)) (And.intro (HR2.out.2.1.grown (grownBy_below hbz) (by simp)) (And.intro (hpw.below hbz) (And.intro hrd (And.intro hsz3 (HR2.out.2.2.1.trans (hbz.mono HR2.out.2.2.1.size))))))
              refine gen_code (fun Z => PW bf bi W1.heap.size n cap s far (.slice ps (p.length + 1) pc) (p ++ [v]) v Z ∧ OpenM W1.heap.size Ds Z ∧ Pairs Z (.slice ca g.es.length cc) g.es ∧ RdS g v wr.heap.size (wr.heap.size + 1) ca cc Z ∧ Z.heap.size = wr.heap.size + 2 ∧ Below W1.heap.size W1 Z) hP ?_
              intro Z3 hz3
              have H3 := Lib.hid (And.intro hz3 (And.intro hlts (And.intro hBz (And.intro hDs (And.intro hrz hovz)))))
              have HBF := Lib.hid HR2.out.1
              clear hP hz3 hbz hpw hrd hsz3 hlts hBz hDs hrz hovz i1 d0 d1 HR2 HSU
              generalize wr.heap.size = z at *
              refine (wpIn_wide (n := 5)).1 ?_
              refine wpIn_rangeFunc_ownG rfl (by omega) (gf := 51) (lb := #[.pointer (some ⟨z, 0, none⟩), .pointer (some ⟨z + 1, 0, none⟩)]) rfl trivial (enters_of Try.func51 (by kernel_rfl) rfl)
                (suc_stops g HV.out.1 v z (z + 1) ca cc _ 4 (by omega) H3.out.1.2.2.1 H3.out.1.2.2.2.1) (fun h k => h.trans k) ?hKb (Below.refl _ _) (fun _ => rfl)
                (fun pre Z => PW bf bi W1.heap.size n cap s far (.slice ps (p.length + 1) pc) (p ++ [v]) v Z ∧ (∀ y ∈ vals pre, nth far y ≠ (kk : Int)) ∧ OpenM W1.heap.size Ds Z ∧ z + 2 ≤ Z.heap.size ∧ Below W1.heap.size W1 Z)
                (fun c pre Z => c = .exit 2 ∧ ∃ q x, vals pre = q ++ [x] ∧ (∀ y ∈ q, nth far y ≠ (kk : Int)) ∧ nth far x = (kk : Int) ∧ PW bf bi W1.heap.size n cap s far (.slice ps (p.length + 1) pc) (p ++ [v]) x Z ∧ OpenM W1.heap.size Ds Z ∧ z + 2 ≤ Z.heap.size ∧ Below W1.heap.size W1 Z)
                ?own ?ownx ⟨H3.out.1.1, (fun y hy => by simp [vals] at hy), H3.out.1.2.1, by have := H3.out.1.2.2.2.2.1; omega, H3.out.1.2.2.2.2.2⟩ ?a1 ?assign ?body ?done ?stop
              case hKb =>
                intro Z l' o' o'' hlz hlo ho hwk
                have hbc : bcOf g ca z < z + 1 := bcOf_lt (H1.out.1) (by have := H3.out.2.2.1; omega) (by omega)
                rw [H3.out.1.2.2.2.2.1] at hlz
                exact KpS.grown (grownBy_putObj' Z l' o'') (fun k e => by have e2 := Option.some.inj e; omega)
              case own =>
                rintro pre A B row ⟨h1, h2, h3, h4, h5⟩ hg hr
                rw [H3.out.1.2.2.2.2.1] at hr
                obtain ⟨z1, z2⟩ := H3.out.2.1
                have hBz := H3.out.2.2.1
                exact ⟨h1.grown hg (fun q e => ⟨by have := (hr q e).1; omega, by have := (hr q e).1; omega, fun e2 => by have := (hr q e).1; have := H3.out.2.2.2.2.1 q e2; omega, fun e2 => by have := (hr q e).1; have := H3.out.2.2.2.2.2 q e2; omega⟩), h2, h3.grown hg (fun q e hm => by have := (hr q e).1; have := H3.out.2.2.2.1 q hm; omega), Nat.le_trans h4 hg.size, h5.grown hg h5.size (fun q e => by have := (hr q e).1; omega)⟩
              case ownx =>
                rintro c pre A B row ⟨rfl, q, x, x1, x2, x3, h1, h3, h4, h5⟩ hg hr
                rw [H3.out.1.2.2.2.2.1] at hr
                obtain ⟨z1, z2⟩ := H3.out.2.1
                have hBz := H3.out.2.2.1
                exact ⟨rfl, q, x, x1, x2, x3, h1.grown hg (fun q e => ⟨by have := (hr q e).1; omega, by have := (hr q e).1; omega, fun e2 => by have := (hr q e).1; have := H3.out.2.2.2.2.1 q e2; omega, fun e2 => by have := (hr q e).1; have := H3.out.2.2.2.2.2 q e2; omega⟩), h3.grown hg (fun q e hm => by have := (hr q e).1; have := H3.out.2.2.2.1 q hm; omega), Nat.le_trans h4 hg.size, h5.grown hg h5.size (fun q e => by have := (hr q e).1; omega)⟩
              case assign =>
                intro l' x Z K hK
                gi_wp2
                exact hK
              case body =>
                rintro l' pre x Z ⟨h1, h2, h3, h4, h5⟩ hlt'
                have e9 := HV.out.2.1
                have hx : x.1 < n := by have h9 := x.2; omega
                have HI := Lib.hid (And.intro h1 (And.intro h2 (And.intro h3 (And.intro h4 h5))))
                clear h2 h3 h4 h5 e9 hlt'
                have hrd : ∀ Y, OwnI Y W1.heap.size 3 (.slice s n cap) far → ∀ j, j < n → Y.cell? ⟨blk s, ofs s + j, none⟩ = some (.int .i64 (nth far j)) ∧ (∀ Y', (Instr.indexAt 33 (.slice s n cap) (.int .i64 (j : Int))).run Try.prog Y' = .ok (.pointer (some ⟨blk s, ofs s + j, none⟩)) Y') := fun Y hY j hj => by
                  obtain ⟨a9, c9, he, hm9, hidx, hcell, -⟩ := hY.lst.out1 sIntG
                  rw [h1.len] at he hm9 hidx hcell
                  simp only [Value.slice.injEq] at he
                  obtain ⟨rfl, -, rfl⟩ := he
                  exact ⟨hcell j hj, fun Y' => by have := hidx .i64 (j : Int) (by omega) (by omega) Y'; rw [Int.toNat_natCast] at this; exact this⟩
                have HRD := Lib.hid hrd
                clear hrd h1
                gi_upto_region 11 with fail
                refine wpIn_region_tail 9 (by kernel_rfl) (by kernel_rfl) (by kernel_rfl) ?_
                intro w2 hw2
                have g2 : Z.grownBy w2 none := by rw [hw2]; exact grownBy_below ((Below.refl _ _).drew)
                have ko2 : KeepsOthers Z w2 := by rw [hw2]; exact KeepsOthers.drew Z
                have k2 := HI.out.1.grown g2 (by simp)
                have hz2' : w2.heap.size = Z.heap.size := by rw [hw2]; rfl
                have HG := Lib.hid (And.intro g2 (And.intro ko2 (And.intro k2 hz2')))
                clear hw2 g2 ko2 hz2'
                obtain ⟨cx, ixx⟩ := HRD.out w2 k2.row x.1 hx
                obtain ⟨cv, ivv⟩ := HRD.out w2 k2.row v hvn
                rw [hvm.out] at cv
                have b1 := k2.bx
                have i1 := k2.ix
                have if1 := k2.ifr
                obtain ⟨y, hy⟩ : ∃ y, y = nth far x.1 := ⟨_, rfl⟩
                rw [← hy] at cx
                have HY := Lib.hid hy
                have hwr : IntKind.i64.wrap ((kk : Int) + 1 - 1) = (kk : Int) := by rw [show (kk : Int) + 1 - 1 = kk by omega]; exact IntWalk.i64_in _ (by omega)
                have hcs : ((kk + 1 : Nat) : Int) = (kk : Int) + 1 := by omega
                rw [hcs] at cv
                clear hy k2 hcs
                simp only [List.take_succ_cons, List.take_zero, List.drop_succ_cons, List.drop_zero]
                repeat still_step
                refine wpStill_nil ?_
                by_cases hyk : y = (kk : Int)
                · have qd : (y == (kk : Int)) = true := by simpa using hyk
                  have HQ := Lib.hid hyk
                  clear hyk
                  gi_wp2
                  obtain ⟨j1, j2, j3, j4, j5⟩ := HI.out
                  obtain ⟨g2, ko2, k2, hz2'⟩ := HG.out
                  refine ⟨(ko2.trans (KeepsOthers.setCell _ _ _)).from _, rfl, vals pre, x.1, vals_snoc _ _, j2, by rw [← HY.out]; exact HQ.out, k2.goto x.1, ?_, ?_, ?_⟩
                  · exact j3.kept fun D hD => by
                      have h9 := (ko2.trans (KeepsOthers.setCell w2 ⟨bi, 0, none⟩ (.int .i64 (x.1 : Int)))).same D _ (j3.op D hD).2 rfl
                      rw [h9, (j3.op D hD).2]
                  · rw [World.size_setCell]; omega
                  · exact (j5.grown g2 j5.size (by simp)).setCell (p := ⟨bi, 0, none⟩) k2.ne.2.2.1 _
                · have qd : (y == (kk : Int)) = false := by simpa using hyk
                  have HQ := Lib.hid hyk
                  clear hyk
                  gi_wp2
                  obtain ⟨j1, j2, j3, j4, j5⟩ := HI.out
                  obtain ⟨g2, ko2, k2, hz2'⟩ := HG.out
                  refine ⟨ko2.from _, KpS.grown g2 (by simp), k2, fun u hu => ?_, ?_, ?_, ?_⟩
                  · rw [vals_snoc] at hu
                    rcases List.mem_append.1 hu with hu | hu
                    · exact j2 u hu
                    · rw [List.mem_singleton.1 hu, ← HY.out]; exact HQ.out
                  · exact j3.grown g2 (by simp)
                  · omega
                  · exact j5.grown g2 j5.size (by simp)
              case done =>
                rintro D ys Z hD hys ⟨h1, h2, -, -, -⟩ -
                exact absurd HX.out.2.1 (h2 _ (by rw [hys]; exact HX.out.1))
              case stop =>
                rintro D c pre Z hD hsp ⟨rfl, q, x, x1, x2, x3, h1, h3, h4, h5⟩ hK
                have hnxx : nxt g.es far v = x := by
                  obtain ⟨tl, htl⟩ := hsp
                  unfold nxt
                  rw [← htl, x1, hvm.out, show ((kk + 1 : Nat) : Int) - 1 = kk by omega, List.append_assoc, List.find?_append, List.find?_eq_none.2 (fun y hy => by simpa using x2 y hy)]
                  simp [x3]
                rw [H3.out.1.2.2.2.2.1] at hD
                have hBz := H3.out.2.2.1
                have hop : OpenM W1.heap.size (D :: Ds) Z := h3.cons (by omega) (fun hm => by have := H3.out.2.2.2.1 D hm; omega) hK
                have hxn : x < n := by rw [← hnxx]; exact HX.out.2.2
                have hp2 : (p ++ [v]) ++ pathL g.es far kk x = pathL g.es far k a := by
                  rw [← HBF.out, ← hnxx, List.append_assoc]; rfl
                have hpl : p.length < 17592186044415 := by omega
                have i1 := h1.ix
                have HE := Lib.hid (And.intro hp2 (And.intro hop (And.intro h1 (And.intro h5 (And.intro x3 h4)))))
                clear hp2 hop h1 h3 h5 x1 x2 hnxx h4 hsp hK
                refine wpIn_wide.2 ?_
                have hll : ((p ++ [v]).map fun x : Nat => (x : Int)).length < 17592186044416 := by rw [List.length_map, List.length_append, List.length_singleton]; omega
                have HL := Lib.hid hll
                clear hll hpl
                go_wp2_with (at_builtin; refine wp_append1at (f := Value.int .i64) sIntG rfl _ rfl _ _ rfl W1.heap.size _ ((p ++ [v]).map fun x : Nat => (x : Int)) rfl (HE.out.2.2.1.lst.alloc _) (x : Int) ⟨Z.heap.size, 0, none⟩ rfl (cell_alloc1 _ _ _) rfl HL.out (by omega) (le_alloc _ (by have := HE.out.2.2.2.1.size; omega)) ?_; intro v' w3 hown hgr hat; obtain ⟨s9, c9, rfl⟩ := hown.shape (n := p.length + 1 + 1) (by rw [List.length_append, List.length_map, List.length_append]; rfl); have i3 := hgr.cell ((grownBy_alloc Z (.cells #[.int .i64 (x : Int)] 3)).cell i1 (by simp)) (fun e => (HE.out.2.2.1.sep2 _ e.symm).2 rfl); have HO := Lib.hid (And.intro hown (And.intro hgr hat)); clear hown hgr hat)
                (refine Handed.intro (kk) ?measure ?_; rotate_left; go_step; refine InvD.intro (D :: Ds) ?_; dsimp only [FrE, slot]; (repeat apply Exists.intro); refine ⟨?rel, rfl⟩; try dsimp only)
                case rel =>
                  obtain ⟨m1, m2, m3⟩ := HE.out.2.2.1.push HO.out.1 HO.out.2.1 HO.out.2.2
                  refine ⟨x, p ++ [v], w3.heap.size, s9, c9, rfl, ?_, hxn, by rw [List.length_append, List.length_singleton]; omega, HE.out.2.2.2.2.1, HE.out.1, ?_, HE.out.2.2.2.1.trans m3, ?_⟩
                  · rw [List.length_append]; rfl
                  · exact HE.out.2.1.kept fun D hD => by rw [m2.same D _ (HE.out.2.1.op D hD).2 rfl, (HE.out.2.1.op D hD).2]
                  · rw [show (p ++ [v]).length + 1 = p.length + 1 + 1 by rw [List.length_append]; rfl]
                    exact m1
                case measure => omega
  · have hz : (gCode g != 0) = true := by simpa using hc
    have HN : Hid (PathIs g a b false []) := Lib.hid (.bad fun h => hc h.1)
    clear hc
    go_wp2_with fail
    exact ⟨_, results_tmp2 rfl _ _ _, false, none, 0, [], rfl, Lst.nil _ _, by rw [HBS.out]; exact H1.out.2.1, HN.out⟩
end Go.Proofs.Ytjapnkhgijhakaa
