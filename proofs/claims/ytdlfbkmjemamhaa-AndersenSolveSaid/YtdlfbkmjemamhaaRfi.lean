/- Contracts of the reference's Closed, Same, Derive. -/
import Derived.Test.YtdlfbkmjemamhaaRfh
import Derived.Test.YtdlfbkmjemamhaaRft
namespace Go.And
open Go.Dfl (nth nth_mem mem_nth nth_eq nth_append)
theorem setsB_ok {a1 a2 : List (List Int)} {n : Int} : (setsB a1 n = true ∧ setsB a2 n = true) ↔ ∀ i, i < (a1 ++ a2).length → subB (nth (a1 ++ a2) i) n = true ∧ ascB (nth (a1 ++ a2) i) = true := by
  unfold setsB
  rw [← Bool.and_eq_true, ← List.all_append, List.all_eq_true]
  constructor
  · intro h i hi
    have := h _ (nth_mem _ _ hi)
    rwa [Bool.and_eq_true] at this
  · intro h l hl
    obtain ⟨i, hi, rfl⟩ := mem_nth hl
    rw [Bool.and_eq_true]; exact h i hi
end Go.And
namespace Go.Proofs.Ytdlfbkmjemamhaa
open Go.RowKit Go.Dfl Go.And

/-- What a round of Closed reads. -/
def ClsIn (w : World) (bs bp : Nat) (s : Sy) (cv u1 u2 : Value) (ca : Option Addr) (k : Nat) (c : C) (sv : Value) : Prop :=
  BoxS w bs s cv ∧ (w.cell? ⟨bp, 0, none⟩ = some u1 ∧ w.cell? ⟨bp, 1, none⟩ = some u2) ∧ w.cell? ⟨blk ca, ofs ca + k * 5, none⟩ = some (.int .i64 (c.k : Int)) ∧ w.cell? ⟨blk ca, ofs ca + k * 5 + 1, none⟩ = some (.int .i64 (c.a : Int)) ∧ w.cell? ⟨blk ca, ofs ca + k * 5 + 2, none⟩ = some (.int .i64 (c.b : Int)) ∧ w.cell? ⟨blk ca, ofs ca + k * 5 + 3, none⟩ = some (.int .i64 (c.f : Int)) ∧ w.cell? ⟨blk ca, ofs ca + k * 5 + 4, none⟩ = some sv
theorem ClsIn.grown {w w' : World} {bs bp : Nat} {s : Sy} {cv u1 u2 : Value} {ca : Option Addr} {k : Nat} {c : C} {sv : Value} (h : ClsIn w bs bp s cv u1 u2 ca k c sv) (hg : w.grownBy w' none) : ClsIn w' bs bp s cv u1 u2 ca k c sv :=
  ⟨h.1.grown hg (by simp), ⟨hg.cell h.2.1.1 (by simp), hg.cell h.2.1.2 (by simp)⟩, hg.cell h.2.2.1 (by simp), hg.cell h.2.2.2.1 (by simp), hg.cell h.2.2.2.2.1 (by simp), hg.cell h.2.2.2.2.2.1 (by simp), hg.cell h.2.2.2.2.2.2 (by simp)⟩

set_option maxHeartbeats 6400000 in
set_option maxRecDepth 100000 in
theorem rClosed_any (s : Sy) (cv u1 u2 : Value) (a1 a2 : List (List Int)) (W : World) (hc : ConsIn W cv s.cons) (hs : Sm s) (hu : PtsIn W u1 u2 a1 a2) (_hl1 : a1.length ≤ 100) (_hl2 : a2.length ≤ 100) :
    Calls Try.prog 14 #[SysV s cv, .agg #[u1, u2]] W fun e W' => ∃ b, e = .returned (.bool b) ∧ (b = true ↔ ClosedP s a1 a2) ∧ Below W.heap.size W W' := by
  obtain ⟨ua1, uc1, ua2, uc2, rfl, rfl⟩ := hu.shape
  obtain ⟨ca, cc, rfl, hlen, hci, hcc⟩ := hc.out
  have HC := Lib.hid (And.intro hc (And.intro hs (And.intro hu hcc)))
  have hlc := hs.cons
  clear hc hs hu hcc
  unfold SysV
  have hbs := BoxS.new W s (.slice ca s.cons.length cc) 24
  have gB := grownBy_alloc (W.alloc (.cells #[.int .i64 s.vars, .int .i64 s.sites, .int .i64 s.fields, .slice ca s.cons.length cc] 24)) (.cells #[.slice ua1 a1.length uc1, .slice ua2 a2.length uc2] 29)
  have hbs2 := hbs.grown gB (by simp)
  have hpn := cells_new (W := W.alloc (.cells #[.int .i64 s.vars, .int .i64 s.sites, .int .i64 s.fields, .slice ca s.cons.length cc] 24)) (cs := [.slice ua1 a1.length uc1, .slice ua2 a2.length uc2]) (t := 29) (B := W.heap.size + 1) (by simp)
  have hbb := below2' W (.cells #[.int .i64 s.vars, .int .i64 s.sites, .int .i64 s.fields, .slice ca s.cons.length cc] 24) (.cells #[.slice ua1 a1.length uc1, .slice ua2 a2.length uc2] 29)
  have H0 := Lib.hid (And.intro hbs2 (And.intro (hpn 0 _ rfl) (And.intro (hpn 1 _ rfl) hbb)))
  clear hbs gB hbs2 hpn hbb
  go_enter Try.func14, Try.ntmps14
  go_wp2_with fail
  refine (rCheck_any s (.slice ca s.cons.length cc) _ (HC.out.1.below H0.out.2.2.2) HC.out.2.1).mono ?_
  rintro e W1 ⟨rfl, q1⟩
  have g1 := grownBy_below q1
  have hb1 : Below W.heap.size W W1 := H0.out.2.2.2.trans (q1.mono H0.out.2.2.2.size)
  have bx1 := H0.out.1.grown g1 (by simp)
  have p0 : W1.cell? ⟨W.heap.size + 1, 0, none⟩ = some (.slice ua1 a1.length uc1) := g1.cell H0.out.2.1 (by simp)
  have p1 : W1.cell? ⟨W.heap.size + 1, 1, none⟩ = some (.slice ua2 a2.length uc2) := g1.cell H0.out.2.2.1 (by simp)
  have HBX := Lib.hid (And.intro bx1 (And.intro p0 p1))
  obtain ⟨d0, d1, d2, d3⟩ := bx1
  have H1 := Lib.hid hb1
  clear q1 g1 hb1 H0
  by_cases h0 : chkCode s = 0
  · have hv := chkCode_ok.1 h0
    have ev : s.vars = (s.S.vars : Int) := (Int.toNat_of_nonneg hv.vars).symm
    have es : s.sites = (s.S.sites : Int) := (Int.toNat_of_nonneg hv.sites).symm
    have ef : s.fields = (s.S.fields : Int) := (Int.toNat_of_nonneg hv.fields).symm
    have hmul : s.sites * s.fields = ((s.S.sites * s.S.fields : Nat) : Int) := by rw [es, ef]; simp
    have hm0 : 0 ≤ s.sites * s.fields := by rw [hmul]; omega
    have hm1' : s.sites * s.fields ≤ 60 := by
      have b2 := HC.out.2.1.sites
      have b3 := HC.out.2.1.fields
      have h : s.sites * s.fields ≤ 12 * 5 := Int.mul_le_mul (by omega) (by omega) hv.fields (by omega)
      omega
    rw [h0]
    have HV := Lib.hid (And.intro h0 (And.intro hv (And.intro ev (And.intro es (And.intro ef hmul)))))
    clear h0 hv
    by_cases hl : (a1.length : Int) = s.vars
    · have hne1 : ((a1.length : Int) != s.vars) = false := by simpa using hl
      by_cases hl' : (a2.length : Int) = s.sites * s.fields
      · have hne2 : ((a2.length : Int) != s.sites * s.fields) = false := by simpa using hl'
        have HL := Lib.hid (And.intro hl hl')
        clear hl hl' ev es ef hmul
        go_wp2_with fail
        obtain ⟨⟨us1, hg1⟩, us2, hg2⟩ := HC.out.2.2.1.below H1.out
        have HG := Lib.hid (And.intro hg1 hg2)
        clear hg1 hg2
        refine (rSets_any _ us1 a1 s.sites _ HG.out.1).mono ?_
        rintro e W2 ⟨rfl, n2, rfl⟩
        obtain ⟨t1, ht1⟩ : ∃ t, t = setsB a1 s.sites := ⟨_, rfl⟩
        rw [← ht1]
        have HT1 := Lib.hid ht1
        clear ht1
        cases t1
        · go_wp2_with fail
          go_ret
          refine ⟨false, rfl, ⟨fun h => absurd h Bool.false_ne_true, fun h => ?_⟩, below_drewN H1.out _⟩
          have := (setsB_ok.2 h.ok).1
          rw [← HT1.out] at this; cases this
        · go_wp2_with fail
          refine (rSets_any _ us2 a2 s.sites _ (HG.out.2.qt (Qt.drewN _ _))).mono ?_
          rintro e W3 ⟨rfl, n3, rfl⟩
          obtain ⟨t2, ht2⟩ : ∃ t, t = setsB a2 s.sites := ⟨_, rfl⟩
          rw [← ht2]
          have HT2 := Lib.hid ht2
          clear ht2
          cases t2
          · go_wp2_with fail
            go_ret
            refine ⟨false, rfl, ⟨fun h => absurd h Bool.false_ne_true, fun h => ?_⟩, by first | exact below_drewN H1.out _ | exact below_drewN (below_drewN H1.out _) _⟩
            have := (setsB_ok.2 h.ok).2
            rw [← HT2.out] at this; cases this
          · go_wp2_with fail
            refine wp_gen (fun Z => BoxS Z W.heap.size s (.slice ca s.cons.length cc) ∧ (Z.cell? ⟨W.heap.size + 1, 0, none⟩ = some (.slice ua1 a1.length uc1) ∧ Z.cell? ⟨W.heap.size + 1, 1, none⟩ = some (.slice ua2 a2.length uc2)) ∧ Below W.heap.size W Z) ⟨HBX.out.1.grown (grownBy_qt (by first | exact Qt.refl _ | exact Qt.drewN _ _ | exact (Qt.drewN _ _).trans (Qt.drewN _ _) | exact ((Qt.drewN _ _).trans (Qt.drewN _ _)).trans (Qt.drewN _ _) | exact Qt.drew _ | exact (Qt.drewN _ _).trans (Qt.drew _))) (by simp), ⟨(grownBy_qt (by first | exact Qt.refl _ | exact Qt.drewN _ _ | exact (Qt.drewN _ _).trans (Qt.drewN _ _) | exact ((Qt.drewN _ _).trans (Qt.drewN _ _)).trans (Qt.drewN _ _) | exact Qt.drew _ | exact (Qt.drewN _ _).trans (Qt.drew _))).cell HBX.out.2.1 (by simp), (grownBy_qt (by first | exact Qt.refl _ | exact Qt.drewN _ _ | exact (Qt.drewN _ _).trans (Qt.drewN _ _) | exact ((Qt.drewN _ _).trans (Qt.drewN _ _)).trans (Qt.drewN _ _) | exact Qt.drew _ | exact (Qt.drewN _ _).trans (Qt.drew _))).cell HBX.out.2.2 (by simp)⟩, by first | exact below_drewN H1.out _ | exact below_drewN (below_drewN H1.out _) _⟩ ?_
            clear d0 d1 d2 d3 p0 p1 hm0 hm1' hne1 hne2
            rintro W2 h2
            obtain ⟨bs, hbs⟩ : ∃ bs, bs = W.heap.size := ⟨_, rfl⟩
            obtain ⟨bp, hbp⟩ : ∃ bp, bp = W.heap.size + 1 := ⟨_, rfl⟩
            have H2 : Hid (BoxS W2 bs s (.slice ca s.cons.length cc) ∧ (W2.cell? ⟨bp, 0, none⟩ = some (.slice ua1 a1.length uc1) ∧ W2.cell? ⟨bp, 1, none⟩ = some (.slice ua2 a2.length uc2)) ∧ Below W.heap.size W W2) := by rw [hbs, hbp]; exact h2
            rw [← hbp, ← hbs]
            clear hbp hbs h2 HBX
            have hok := setsB_ok.1 ⟨HT1.out.symm, HT2.out.symm⟩
            have HOK := Lib.hid hok
            clear hok
            go_loopw [5] (fun x wr => ∃ k : Nat, k ≤ s.cons.length ∧ x = .int .i64 k ∧ Hid (Below W2.heap.size W2 wr ∧ ∀ i, i < k → Holds s.S (fun i x => (x : Int) ∈ nth (a1 ++ a2) i) (nth s.S.cons i))) (fun x _ => s.cons.length - (intOf x).toNat)
            case atStart => exact ⟨0, by omega, rfl, Below.refl _ _, fun i hi => by omega⟩
            case round =>
              obtain ⟨k, hk, rfl, hh⟩ := hrel
              have hbx := H2.out.1.grown (grownBy_below hh.out.1) (by simp)
              have hp0 : wr.cell? ⟨bp, 0, none⟩ = some (.slice ua1 a1.length uc1) := (grownBy_below hh.out.1).cell H2.out.2.1.1 (by simp)
              have hp1 : wr.cell? ⟨bp, 1, none⟩ = some (.slice ua2 a2.length uc2) := (grownBy_below hh.out.1).cell H2.out.2.1.2 (by simp)
              by_cases hlt : k < s.cons.length
              · obtain ⟨sa, sn, sc, c0, c1, c2, c3, c4, hset, hbl⟩ := HC.out.2.2.2 k hlt
                have hbw : Below W.heap.size W wr := H2.out.2.2.trans (hh.out.1.mono H2.out.2.2.size)
                rw [← hbw.cell (p := ⟨blk ca, ofs ca + k * 5, none⟩) hbl] at c0
                rw [← hbw.cell (p := ⟨blk ca, ofs ca + k * 5 + 1, none⟩) hbl] at c1
                rw [← hbw.cell (p := ⟨blk ca, ofs ca + k * 5 + 2, none⟩) hbl] at c2
                rw [← hbw.cell (p := ⟨blk ca, ofs ca + k * 5 + 3, none⟩) hbl] at c3
                rw [← hbw.cell (p := ⟨blk ca, ofs ca + k * 5 + 4, none⟩) hbl] at c4
                have hvc := HV.out.2.1.cons _ (nth_mem _ _ hlt)
                have hjS : k < s.S.cons.length := by show k < (s.cons.map R.C).length; rw [List.length_map]; exact hlt
                have hcn : nth s.S.cons k = (nth s.cons k).C := nth_map' _ _ _ hlt
                have hok := HV.out.2.1.ok _ (nth_mem _ _ hjS)
                have k0 : (nth s.cons k).k = ((nth s.S.cons k).k : Int) := by rw [hcn]; have := hvc.kind; show _ = (((nth s.cons k).k.toNat : Nat) : Int); omega
                have k1 : (nth s.cons k).a = ((nth s.S.cons k).a : Int) := by rw [hcn]; have := hvc.a.1; show _ = (((nth s.cons k).a.toNat : Nat) : Int); omega
                have k2 : (nth s.cons k).b = ((nth s.S.cons k).b : Int) := by rw [hcn]; have := hvc.b.1; show _ = (((nth s.cons k).b.toNat : Nat) : Int); omega
                have k3 : (nth s.cons k).f = ((nth s.S.cons k).f : Int) := by rw [hcn]; have := hvc.f'; show _ = (((nth s.cons k).f.toNat : Nat) : Int); omega
                have k4 : (nth s.cons k).s = (nth s.S.cons k).s.map (fun x : Nat => (x : Int)) := by
                  rw [hcn]; exact (cast_toNat fun x hx => (hvc.s x hx).1).symm
                rw [k0] at c0
                rw [k1] at c1
                rw [k2] at c2
                rw [k3] at c3
                rw [k4] at hset
                obtain ⟨c, hc⟩ : ∃ c, c = nth s.S.cons k := ⟨_, rfl⟩
                rw [← hc] at c0 c1 c2 c3 hset hok
                obtain ⟨a8, c8, e8, -⟩ := id hset
                simp only [Value.slice.injEq, List.length_map] at e8
                obtain ⟨rfl, rfl, rfl⟩ := e8
                have hIn : ClsIn wr bs bp s (.slice ca s.cons.length cc) (.slice ua1 a1.length uc1) (.slice ua2 a2.length uc2) ca k c (.slice sa c.s.length sc) := ⟨hbx, ⟨hp0, hp1⟩, c0, c1, c2, c3, c4⟩
                have HS := Lib.hid (And.intro hok (And.intro hset (And.intro hc (And.intro hIn hbw))))
                obtain ⟨b0, b1, b2, b3⟩ := hbx
                clear hbw hvc hjS hcn hok k0 k1 k2 k3 k4 hset hc hbl hIn c0 c1 c2 c3 c4 b0 b1 b2 hp0 hp1
                go_wp2_with fail
                clear b3
                refine wp_region_mix [0, 1, 2, 3, 4, 5, 6] [7, 8] (fun w' => ClsIn w' bs bp s (.slice ca s.cons.length cc) (.slice ua1 a1.length uc1) (.slice ua2 a2.length uc2) ca k c (.slice sa c.s.length sc)) (by kernel_rfl) (by kernel_rfl) (by kernel_rfl) (HS.out.2.2.2.1.grown (grownBy_drew0 _)) ?_
                repeat (
                  refine wpHeads_cons (v := ?_) rfl (Or.inl ⟨by rfl, ?_⟩) ?_
                  rotate_left
                  · (intro W hW; obtain ⟨⟨q1, q2, q3, q4⟩, ⟨q5, q6⟩, q7, q8, q9, q10, q11⟩ := hW; go_simp; try with_reducible rfl)
                  simp only [Act.put, List.setIfInBounds_toArray])
                refine wpHeads_nil ?_
                refine wpTails_cons rfl ?_
                go_wp2_with fail
                have hbd : Below W.heap.size W wr.drew := below_drewN HS.out.2.2.2.2 1
                have hsat := rHolds_any s.S (.slice ca s.cons.length cc) c sa sc (.slice ua1 a1.length uc1) (.slice ua2 a2.length uc2) a1 a2 wr.drew (HC.out.2.2.1.below hbd) (by have h2 := HL.out.1; rw [HV.out.2.2.1] at h2; omega) (by have h2 := HL.out.2; rw [HV.out.2.2.2.2.2] at h2; omega)
                  (fun i hi x hx => by
                    have hi2 : i < (a1 ++ a2).length := by
                      have h2 := HL.out.1
                      have h3 := HL.out.2
                      rw [HV.out.2.2.1] at h2
                      rw [HV.out.2.2.2.2.2] at h3
                      unfold Syst.N at hi
                      simp; omega
                    obtain ⟨q, hq, rfl⟩ := mem_nth hx
                    have h3 := (subB_iff _ _).1 (HOK.out i hi2).1 q hq
                    have h4 := HV.out.2.2.2.1
                    omega) HS.out.1
                  ⟨by have := HC.out.2.1.vars; show s.vars.toNat ≤ 40; omega, by have := HC.out.2.1.sites; show s.sites.toNat ≤ 12; omega, by have := HC.out.2.1.fields; show s.fields.toNat ≤ 5; omega, HC.out.2.1.bnd.N⟩
                  (HS.out.2.1.below hbd)
                rw [← HV.out.2.2.1, ← HV.out.2.2.2.1, ← HV.out.2.2.2.2.1] at hsat
                refine hsat.mono ?_
                clear hsat hbd
                rintro e W8 ⟨b, rfl, hb, q8⟩
                have g8 := grownBy_trans (grownBy_drew0 wr) (grownBy_below q8)
                have H8 := Lib.hid (And.intro hb (And.intro (hh.out.1.grown g8 hh.out.1.size (by simp)) (HS.out.2.2.2.1.grown g8)))
                clear hb g8 q8
                go_wp2_with fail
                refine tail_mk H8.out.2.2 ?_
                refine wpTails_one rfl ?_
                cases b
                · go_wp2_with fail
                  refine thenQ_mk ?_
                  go_wp2_with fail
                  go_ret
                  refine ⟨false, rfl, ⟨fun h => absurd h Bool.false_ne_true, fun h => ?_⟩, H2.out.2.2.trans (H8.out.2.1.mono H2.out.2.2.size)⟩
                  refine absurd (H8.out.1.2 ?_) Bool.false_ne_true
                  exact h.shut c (by rw [HS.out.2.2.1]; exact nth_mem _ _ (by show k < (s.cons.map R.C).length; rw [List.length_map]; exact hlt))
                · go_wp2_with fail
                  refine thenQ_mk ?_
                  go_wp2_with fail
                  go_roundw
                  case rel => exact ⟨k + 1, by omega, by go_num, H8.out.2.1, fun i hi => by
                    by_cases e : i = k
                    · subst e
                      rw [← HS.out.2.2.1]
                      exact H8.out.1.1 (by first | rfl | trivial)
                    · exact hh.out.2 i (by omega)⟩
                  case measure => simp [intOf]; omega
              · have HE := Lib.hid hh.out
                obtain ⟨b0, b1, b2, b3⟩ := hbx
                clear hh
                go_wp2_with fail
                go_ret
                refine ⟨true, rfl, ⟨fun _ => ⟨HV.out.1, ?_, ?_, HOK.out, ?_⟩, fun _ => rfl⟩, H2.out.2.2.trans (HE.out.1.mono H2.out.2.2.size)⟩
                · have h2 := HL.out.1
                  rw [HV.out.2.2.1] at h2; omega
                · have h2 := HL.out.2
                  rw [HV.out.2.2.2.2.2] at h2; omega
                · intro c hc
                  obtain ⟨i, hi, rfl⟩ := mem_nth hc
                  exact HE.out.2 i (by have : i < (s.cons.map R.C).length := hi; rw [List.length_map] at this; omega)
      · have hne2 : ((a2.length : Int) != s.sites * s.fields) = true := by simpa using hl'
        clear ev es ef hmul
        go_wp2_with fail
        go_ret
        refine ⟨false, rfl, ⟨fun h => absurd h Bool.false_ne_true, fun h => ?_⟩, H1.out⟩
        exact absurd (by rw [HV.out.2.2.2.2.2, h.l2]) hl'
    · have hne1 : ((a1.length : Int) != s.vars) = true := by simpa using hl
      clear ev es ef hmul
      go_wp2_with fail
      go_ret
      refine ⟨false, rfl, ⟨fun h => absurd h Bool.false_ne_true, fun h => ?_⟩, H1.out⟩
      exact absurd (by rw [HV.out.2.2.1, h.l1]) hl
  · have hz : (chkCode s != 0) = true := by simpa using h0
    have HZ := Lib.hid h0
    clear h0
    go_wp2_with fail
    go_ret
    exact ⟨false, rfl, ⟨fun h => absurd h Bool.false_ne_true, fun h => absurd h.chk HZ.out⟩, H1.out⟩

set_option maxHeartbeats 3200000 in
set_option maxRecDepth 100000 in
theorem rDerive_any (s : Sy) (cv u1 u2 : Value) (a1 a2 : List (List Int)) (W : World) (hc : ConsIn W cv s.cons) (hs : Sm s) (hu : PtsIn W u1 u2 a1 a2) (hl1 : a1.length ≤ 100) (hl2 : a2.length ≤ 100) :
    Calls Try.prog 19 #[SysV s cv, .agg #[u1, u2]] W fun e W' => ∃ b, e = .returned (.bool b) ∧ (b = true ↔ DeriveP s a1 a2) ∧ Below W.heap.size W W' := by
  obtain ⟨ua1, uc1, ua2, uc2, rfl, rfl⟩ := hu.shape
  obtain ⟨ca, cc, rfl, -⟩ := hc.out
  have HC := Lib.hid (And.intro hc (And.intro hs hu))
  clear hc hs hu
  unfold SysV
  have hbs := BoxS.new W s (.slice ca s.cons.length cc) 24
  have gB := grownBy_alloc (W.alloc (.cells #[.int .i64 s.vars, .int .i64 s.sites, .int .i64 s.fields, .slice ca s.cons.length cc] 24)) (.cells #[.slice ua1 a1.length uc1, .slice ua2 a2.length uc2] 29)
  have hbs2 := hbs.grown gB (by simp)
  have hpn := cells_new (W := W.alloc (.cells #[.int .i64 s.vars, .int .i64 s.sites, .int .i64 s.fields, .slice ca s.cons.length cc] 24)) (cs := [.slice ua1 a1.length uc1, .slice ua2 a2.length uc2]) (t := 29) (B := W.heap.size + 1) (by simp)
  have hbb := below2' W (.cells #[.int .i64 s.vars, .int .i64 s.sites, .int .i64 s.fields, .slice ca s.cons.length cc] 24) (.cells #[.slice ua1 a1.length uc1, .slice ua2 a2.length uc2] 29)
  have H0 := Lib.hid (And.intro hbs2 (And.intro (hpn 0 _ rfl) (And.intro (hpn 1 _ rfl) hbb)))
  clear hbs gB hbs2 hpn hbb
  go_enter Try.func19, Try.ntmps19
  go_wp2_with fail
  refine (rClosed_any s (.slice ca s.cons.length cc) _ _ a1 a2 _ (HC.out.1.below H0.out.2.2.2) HC.out.2.1 (HC.out.2.2.below H0.out.2.2.2) hl1 hl2).mono ?_
  rintro e W1 ⟨b, rfl, hb, q1⟩
  have g1 := grownBy_below q1
  have hb1 : Below W.heap.size W W1 := H0.out.2.2.2.trans (q1.mono H0.out.2.2.2.size)
  obtain ⟨d0, d1, d2, d3⟩ := H0.out.1.grown g1 (by simp)
  have p0 : W1.cell? ⟨W.heap.size + 1, 0, none⟩ = some (.slice ua1 a1.length uc1) := g1.cell H0.out.2.1 (by simp)
  have p1 : W1.cell? ⟨W.heap.size + 1, 1, none⟩ = some (.slice ua2 a2.length uc2) := g1.cell H0.out.2.2.1 (by simp)
  have H1 := Lib.hid (And.intro hb1 hb)
  clear q1 g1 hb1 hb H0
  cases b
  · go_wp2_with fail
    go_ret
    exact ⟨false, rfl, ⟨fun h => absurd h Bool.false_ne_true, fun h => absurd (H1.out.2.2 h.1) Bool.false_ne_true⟩, H1.out.1⟩
  · have hcl : ClosedP s a1 a2 := H1.out.2.1 rfl
    have HCL := Lib.hid hcl
    clear hcl
    go_wp2_with fail
    refine (rSolve_any s (.slice ca s.cons.length cc) _ (HC.out.1.below H1.out.1) HC.out.2.1).mono ?_
    rintro e W2 (⟨hbad, -⟩ | ⟨-, xa, xc, ya, yc, lu, lv, rfl, hpts, hsol, q2⟩)
    · exact absurd HCL.out.chk hbad
    have g2 := grownBy_below q2
    have p2 : W2.cell? ⟨W.heap.size + 1, 0, none⟩ = some (.slice ua1 a1.length uc1) := g2.cell p0 (by simp)
    have p3 : W2.cell? ⟨W.heap.size + 1, 1, none⟩ = some (.slice ua2 a2.length uc2) := g2.cell p1 (by simp)
    have hb2 : Below W.heap.size W W2 := H1.out.1.trans (q2.mono H1.out.1.size)
    have hb3 : Below W.heap.size W (W2.alloc (.cells #[.slice xa s.S.vars xc, .slice ya (s.S.sites * s.S.fields) yc] 29)) := hb2.alloc hb2.size _
    have hpt3 := hpts.below (W' := W2.alloc (.cells #[.slice xa s.S.vars xc, .slice ya (s.S.sites * s.S.fields) yc] 29)) ((Below.refl _ _).alloc (Nat.le_refl _) _)
    have hInR := hsol.inR (chkCode_ok.1 HCL.out.chk).ok (by have := HC.out.2.1.sites; show s.sites.toNat ≤ 12; omega)
    have hplt : W.heap.size + 1 < W2.heap.size := World.block_lt_of_cell? W2 ⟨W.heap.size + 1, 0, none⟩ p2
    have hpn : W.heap.size + 1 ≠ W2.heap.size := by omega
    have H2 := Lib.hid (And.intro hb3 (And.intro hpt3 (And.intro hsol hInR)))
    clear hb2 hb3 hpt3 hsol hInR hpts q2 g2 p0 p1 d0 d1 d2 d3
    go_wp2_with fail
    refine (rWithin_any _ _ _ _ a1 a2 lu lv _ (HC.out.2.2.below H2.out.1) H2.out.2.1).mono ?_
    rintro e W3 ⟨rfl, q3⟩
    have H3 := Lib.hid (H2.out.1.trans (q3.mono H2.out.1.size))
    clear q3 p2 p3
    generalize hw : (winB a1 lu && winB a2 lv) = bb at *
    have HW := Lib.hid hw
    clear hw
    go_wp2_with fail
    go_ret
    refine ⟨bb, rfl, ?_, H3.out⟩
    rw [← HW.out, Bool.and_eq_true]
    constructor
    · intro h
      exact ⟨HCL.out, lu, lv, H2.out.2.2.1, h⟩
    · rintro ⟨-, lu', lv', hs', h'⟩
      obtain ⟨rfl, rfl⟩ := H2.out.2.2.1.unique hs'
      exact h'


theorem winB_self (a : List (List Int)) : winB a a = true := (winB_iff _ _).2 ⟨rfl, fun _ _ _ h => h⟩
end Go.Proofs.Ytdlfbkmjemamhaa
