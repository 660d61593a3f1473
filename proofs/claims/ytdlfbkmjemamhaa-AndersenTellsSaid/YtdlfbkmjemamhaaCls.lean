/- Contract of Closed. -/
import Derived.Test.YtdlfbkmjemamhaaSat
namespace Go.And
open Go.Dfl (nth nth_mem mem_nth nth_eq nth_append)
/-- What Closed asks. -/
structure ClosedP (s : Sy) (a1 a2 : List (List Int)) : Prop where
  chk : chkCode s = 0
  l1 : a1.length = s.S.vars
  l2 : a2.length = s.S.sites * s.S.fields
  ok : ∀ i, i < (a1 ++ a2).length → subB (nth (a1 ++ a2) i) s.sites = true ∧ ascB (nth (a1 ++ a2) i) = true
  shut : Shut s.S (fun i x => (x : Int) ∈ nth (a1 ++ a2) i)
def memP (ll : List (List Int)) (i x : Nat) : Bool := decide ((x : Int) ∈ nth ll i)
end Go.And
namespace Go.Proofs.Ytdlfbkmjemamhaa
open Go.RowKit Go.Dfl Go.And

theorem IsS.zero {rl : Nat → Nat} {W : World} {v : Value} {p : Nat → Bool} (h : IsS rl W v p) : IsS (fun _ => 0) W v p := by
  obtain ⟨r, h1, h2, h3, h4, -⟩ := h
  exact ⟨r, h1, h2, h3, h4, fun _ _ _ => rfl⟩
theorem _root_.Go.And.Sm.bnd {s : Sy} (h : Sm s) : Bnd s.S := ⟨by have := h.vars; show s.vars.toNat ≤ 40; omega, by have := h.sites; show s.sites.toNat ≤ 12; omega, by have := h.fields; show s.fields.toNat ≤ 5; omega, by show (s.cons.map R.C).length ≤ 101; rw [List.length_map]; exact h.cons⟩
/-- The sets so far. -/
structure Gath (B n : Nat) (ll : List (List Int)) (sites : Int) (rl : Nat → Nat) (W0 W : World) (v : Value) (vs : List Value) : Prop where
  sets : SetsC n rl B 1 W v vs (memP ll)
  fr : ∀ k, W.heap.size ≤ k → rl k = 0
  ok : ∀ i, i < n → subB (nth ll i) sites = true ∧ ascB (nth ll i) = true
  bel : Below B W0 W
theorem Gath.start {B : Nat} {ll : List (List Int)} {sites : Int} {W : World} : Gath B 0 ll sites (fun _ => 0) W W (.slice none 0 0) [] :=
  ⟨⟨Own.nil _ _ _ _, fun k hk => by simp [Value.ownBlock] at hk, rfl, fun i hi => by omega⟩, fun _ _ => rfl, fun i hi => by omega, Below.refl _ _⟩
theorem Gath.keep {B n : Nat} {ll : List (List Int)} {sites : Int} {rl : Nat → Nat} {W0 W W' : World} {v : Value} {vs : List Value} (h : Gath B n ll sites rl W0 W v vs) (hB : B ≤ W.heap.size) (hg : W.grownBy W' none) : Gath B n ll sites rl W0 W' v vs := by
  have hs : Stp rl rl 99 W W' none := ⟨hg, by simp, .inr rfl, fun _ _ => rfl⟩
  exact ⟨h.sets.step hs (by omega), fun k hk => h.fr k (Nat.le_trans hg.size hk), h.ok, h.bel.grown hg hB (by simp)⟩
theorem Gath.push {B n : Nat} {ll : List (List Int)} {sites : Int} {rl : Nat → Nat} {W0 W W' : World} {v v' u : Value} {vs : List Value} (h : Gath B n ll sites rl W0 W v vs) (hB : B ≤ W.heap.size) (hu : IsS rl W u (memP ll n)) (hok : subB (nth ll n) sites = true ∧ ascB (nth ll n) = true)
    (ho : Own (fun x : Value => x) W' B 45 v' (vs ++ [u])) (hg : W.grownBy W' v.ownBlock) (hl : v'.ownBlock = v.ownBlock ∨ v'.ownBlock = some W.heap.size) : Gath B (n + 1) ll sites (rol rl 1 v') W0 W' v' (vs ++ [u]) := by
  have hs := stp_app hg (X := 1) (by omega) h.sets.role hl
  refine ⟨⟨ho, fun k hk => by unfold rol; rw [if_pos hk], by simp [h.sets.len], fun i hi => ?_⟩, rol_fr h.fr hg.size (fun k hk => (ho.lt k hk).2), fun i hi => ?_, h.bel.grown hg hB (fun k hk => (h.sets.own.lt k hk).1)⟩
  · rw [nth_append]
    by_cases e : i < vs.length
    · rw [if_pos e]
      exact (h.sets.mean i (by rw [← h.sets.len]; exact e)).step hs
    · rw [if_neg e]
      have hi' : i = n := by have := h.sets.len; omega
      subst hi'
      have : i - vs.length = 0 := by have := h.sets.len; omega
      rw [this]
      exact hu.step hs
  · by_cases e : i < n
    · exact h.ok i e
    · have : i = n := by omega
      subst this; exact hok

def posn (a1 a2 : List (List Int)) : Nat → Nat
  | 0 => 0
  | 1 => a1.length
  | _ => a1.length + a2.length
set_option maxHeartbeats 12800000 in
set_option maxRecDepth 100000 in
theorem Closed_any (s : Sy) (cv u1 u2 : Value) (a1 a2 : List (List Int)) (W : World) (hc : ConsIn W cv s.cons) (hs : Sm s) (hu : PtsIn W u1 u2 a1 a2) (hl1 : a1.length ≤ 100) (hl2 : a2.length ≤ 100) :
    Calls Try.prog 15 #[SysV s cv, .agg #[u1, u2]] W fun e W' => ∃ b, e = .returned (.bool b) ∧ (b = true ↔ ClosedP s a1 a2) ∧ Below W.heap.size W W' := by
  obtain ⟨⟨us1, hu1⟩, us2, hu2⟩ := hu
  obtain ⟨ua1, uc1, e1, hm1, hi1, hcl1, hb1⟩ := hu1.1.out1 sInt2
  obtain ⟨ua2, uc2, e2, hm2, hi2, hcl2, hb2⟩ := hu2.1.out1 sInt2
  rw [hu1.2.1] at e1 hm1 hi1 hcl1 hb1
  rw [hu2.2.1] at e2 hm2 hi2 hcl2 hb2
  subst e1 e2
  obtain ⟨ca, cc, rfl, hlen, hci, hcc⟩ := hc.out
  have HC := Lib.hid (And.intro hc (And.intro hs (And.intro hu1 (And.intro hu2 (And.intro hcl1 (And.intro hb1 (And.intro hcl2 (And.intro hb2 hcc))))))))
  have hlc := hs.cons
  clear hc hs hu1 hu2 hcl1 hb1 hcl2 hb2 hcc
  unfold SysV
  have hbs := BoxS.new W s (.slice ca s.cons.length cc) 24
  have gB := grownBy_alloc (W.alloc (.cells #[.int .i64 s.vars, .int .i64 s.sites, .int .i64 s.fields, .slice ca s.cons.length cc] 24)) (.cells #[.slice ua1 a1.length uc1, .slice ua2 a2.length uc2] 29)
  have hbs2 := hbs.grown gB (by simp)
  have hpn := cells_new (W := W.alloc (.cells #[.int .i64 s.vars, .int .i64 s.sites, .int .i64 s.fields, .slice ca s.cons.length cc] 24)) (cs := [.slice ua1 a1.length uc1, .slice ua2 a2.length uc2]) (t := 29) (B := W.heap.size + 1) (by simp)
  have hbb := below2' W (.cells #[.int .i64 s.vars, .int .i64 s.sites, .int .i64 s.fields, .slice ca s.cons.length cc] 24) (.cells #[.slice ua1 a1.length uc1, .slice ua2 a2.length uc2] 29)
  have H0 := Lib.hid (And.intro hbs2 (And.intro (hpn 0 _ rfl) (And.intro (hpn 1 _ rfl) hbb)))
  clear hbs gB hbs2 hpn hbb
  go_enter Try.func15, Try.ntmps15
  go_wp2_with fail
  refine (Check_any s (.slice ca s.cons.length cc) _ (HC.out.1.below H0.out.2.2.2) HC.out.2.1).mono ?_
  rintro e W1 ⟨rfl, q1⟩
  have g1 := grownBy_below q1
  have hb1 : Below W.heap.size W W1 := H0.out.2.2.2.trans (q1.mono H0.out.2.2.2.size)
  have bx1 := H0.out.1.grown g1 (by simp)
  have p0 : W1.cell? ⟨W.heap.size + 1, 0, none⟩ = some (.slice ua1 a1.length uc1) := g1.cell H0.out.2.1 (by simp)
  have p1 : W1.cell? ⟨W.heap.size + 1, 1, none⟩ = some (.slice ua2 a2.length uc2) := g1.cell H0.out.2.2.1 (by simp)
  obtain ⟨d0, d1, d2, d3⟩ := bx1
  have H1 := Lib.hid hb1
  clear q1 g1 hb1 H0
  by_cases h0 : chkCode s = 0
  · have hv := chkCode_ok.1 h0
    have ev : s.vars = (s.S.vars : Int) := (Int.toNat_of_nonneg hv.vars).symm
    have es : s.sites = (s.S.sites : Int) := (Int.toNat_of_nonneg hv.sites).symm
    have ef : s.fields = (s.S.fields : Int) := (Int.toNat_of_nonneg hv.fields).symm
    have hmul : s.sites * s.fields = ((s.S.sites * s.S.fields : Nat) : Int) := by rw [es, ef]; simp
    have hm0 : 0 ≤ s.sites * s.fields := by rw [hmul]; omega
    have hm1' : s.sites * s.fields ≤ 60 := by
      have b2 := HC.out.2.1.sites
      have b3 := HC.out.2.1.fields
      have h : s.sites * s.fields ≤ 12 * 5 := Int.mul_le_mul (by omega) (by omega) hv.fields (by omega)
      omega
    rw [h0]
    have HV := Lib.hid (And.intro h0 (And.intro hv (And.intro ev (And.intro es (And.intro ef hmul)))))
    clear h0 hv
    by_cases hl : (a1.length : Int) = s.vars
    · have hne1 : ((a1.length : Int) != s.vars) = false := by simpa using hl
      by_cases hl' : (a2.length : Int) = s.sites * s.fields
      · have hne2 : ((a2.length : Int) != s.sites * s.fields) = false := by simpa using hl'
        have HL := Lib.hid (And.intro hl hl')
        clear hl hl' ev es ef hmul
        go_wp2_with fail
        have gA := grownBy_alloc W1 (.cells #[.slice ua1 a1.length uc1, .slice ua2 a2.length uc2] 27)
        have ln := cells_new (W := W1) (cs := [.slice ua1 a1.length uc1, .slice ua2 a2.length uc2]) (t := 27) rfl
        refine wp_gen (fun Z => BoxS Z W.heap.size s (.slice ca s.cons.length cc) ∧ Z.cell? ⟨W1.heap.size, 0, none⟩ = some (.slice ua1 a1.length uc1) ∧ Z.cell? ⟨W1.heap.size, 1, none⟩ = some (.slice ua2 a2.length uc2) ∧ Below W.heap.size W Z ∧ W1.heap.size < Z.heap.size) ⟨⟨gA.cell d0 (by simp), gA.cell d1 (by simp), gA.cell d2 (by simp), gA.cell d3 (by simp)⟩, ln 0 _ rfl, ln 1 _ rfl, H1.out.grown gA H1.out.size (by simp), by simp⟩ ?_
        clear gA ln d0 d1 d2 d3 p0 p1 hm0 hm1'
        rintro W2 ⟨bx2, l0, l1, be2, lt2⟩
        obtain ⟨B, hB⟩ : ∃ B, B = W2.heap.size := ⟨_, rfl⟩
        obtain ⟨lb, hlb⟩ : ∃ lb, lb = W1.heap.size := ⟨_, rfl⟩
        obtain ⟨bs, hbs⟩ : ∃ bs, bs = W.heap.size := ⟨_, rfl⟩
        obtain ⟨bp, hbp⟩ : ∃ bp, bp = W.heap.size + 1 := ⟨_, rfl⟩
        have hbsB : bs < B := by rw [hB, hbs]; exact World.block_lt_of_cell? W2 ⟨W.heap.size, 0, none⟩ bx2.1
        have HB := Lib.hid (And.intro hB (And.intro be2 hbsB))
        rw [← hbs] at bx2
        have HBX := Lib.hid bx2
        have hlbB : lb < B := by omega
        rw [← hlb] at l0 l1
        have HLB := Lib.hid (And.intro l0 (And.intro l1 hlbB))
        rw [← hlb, ← hbp, ← hbs]
        have HBS := Lib.hid hbs
        clear hlb hbp hbs hB be2 lt2 bx2 l0 l1 hlbB hbsB
        have HU1 := Lib.hid (And.intro (fun j hj => by rw [HB.out.2.1.cell (p := ⟨blk ua1, ofs ua1 + j, none⟩) (HC.out.2.2.2.2.2.1 j hj)]; exact HC.out.2.2.2.2.1 j hj : ∀ j, j < a1.length → W2.cell? ⟨blk ua1, ofs ua1 + j, none⟩ = some (nth us1 j)) (And.intro (fun j hj => by have h1 := HC.out.2.2.2.2.2.1 j hj; have h2 := HB.out.2.1.size; have h3 := HB.out.1; omega : ∀ j, j < a1.length → blk ua1 < B) (HC.out.2.2.1.below HB.out.2.1)))
        have HU2 := Lib.hid (And.intro (fun j hj => by rw [HB.out.2.1.cell (p := ⟨blk ua2, ofs ua2 + j, none⟩) (HC.out.2.2.2.2.2.2.2.1 j hj)]; exact HC.out.2.2.2.2.2.2.1 j hj : ∀ j, j < a2.length → W2.cell? ⟨blk ua2, ofs ua2 + j, none⟩ = some (nth us2 j)) (And.intro (fun j hj => by have h1 := HC.out.2.2.2.2.2.2.2.1 j hj; have h2 := HB.out.2.1.size; have h3 := HB.out.1; omega : ∀ j, j < a2.length → blk ua2 < B) (HC.out.2.2.2.1.below HB.out.2.1)))
        go_loopw [5, 7, 42] (fun o _ x wr => ∃ (q n : Nat) (xa : Option Addr) (xc : Nat) (vs : List Value) (rl : Nat → Nat), q ≤ 2 ∧ x = .int .i64 q ∧ o = .slice xa n xc ∧ Hid (n = posn a1 a2 q ∧ Gath B n (a1 ++ a2) s.sites rl W2 wr (.slice xa n xc) vs)) (fun _ _ x _ => 2 - (intOf x).toNat)
        case atStart => exact ⟨0, 0, none, 0, [], _, by omega, rfl, rfl, rfl, Gath.start⟩
        case round =>
          obtain ⟨q, b0, xa0, xc0, vs0, rl0, hq, rfl, rfl, hhp⟩ := hrel
          have k0 : wr.cell? ⟨lb, 0, none⟩ = some (.slice ua1 a1.length uc1) := by rw [hhp.out.2.bel.cell (p := ⟨lb, 0, none⟩) HLB.out.2.2]; exact HLB.out.1
          have k1 : wr.cell? ⟨lb, 1, none⟩ = some (.slice ua2 a2.length uc2) := by rw [hhp.out.2.bel.cell (p := ⟨lb, 1, none⟩) HLB.out.2.2]; exact HLB.out.2.1
          have hh := Lib.hid hhp.out.2
          have hq3 : q = 0 ∨ q = 1 ∨ q = 2 := by omega
          rcases hq3 with rfl | rfl | rfl
          · rw [show ((0 : Nat) : Int) = 0 from rfl]
            have Hb0 := Lib.hid (show b0 = 0 from hhp.out.1)
            have HU := HU1
            clear hhp
            go_wp2_with fail
            clear k0 k1
            go_loopw [5, 9, 10, 11, 48] (fun o _ _ _ x wr2 => ∃ (j : Nat) (xa : Option Addr) (xc : Nat) (vs : List Value) (rl : Nat → Nat), j ≤ a1.length ∧ x = .int .i64 j ∧ o = .slice xa (b0 + j) xc ∧ Hid (Gath B (b0 + j) (a1 ++ a2) s.sites rl W2 wr2 (.slice xa (b0 + j) xc) vs)) (fun _ _ _ _ x _ => a1.length - (intOf x).toNat)
            case atStart => exact ⟨0, _, _, vs0, rl0, by omega, rfl, rfl, hh.out⟩
            case round =>
              obtain ⟨j, xa, xc, vs, rl, hj, rfl, rfl, hg⟩ := hrel
              by_cases hlt : j < a1.length
              · have hcu : wr.cell? ⟨blk ua1, ofs ua1 + j, none⟩ = some (nth us1 j) := by rw [hg.out.bel.cell (p := ⟨blk ua1, ofs ua1 + j, none⟩) (HU.out.2.1 j hlt)]; exact HU.out.1 j hlt
                have hint : Ints W2 (nth us1 j) (nth a1 j) := HU.out.2.2.2.2 j hlt
                obtain ⟨ea, ec, hea, hem, -⟩ := hint.out1 sInt
                rw [hea] at hcu hint
                have hnl : nth (a1 ++ a2) (b0 + j) = nth a1 j := by rw [nth_append]; rw [if_pos (by have := Hb0.out; omega), Hb0.out, Nat.zero_add]
                have dsites : wr.cell? ⟨bs, 1, none⟩ = some (.int .i64 s.sites) := by rw [hg.out.bel.cell (p := ⟨bs, 1, none⟩) HB.out.2.2]; exact HBX.out.2.1
                have hintr : Ints wr (.slice ea (nth a1 j).length ec) (nth a1 j) := hint.below (by rw [← HB.out.1]; exact hg.out.bel)
                have hin : b0 + j < (a1 ++ a2).length := by have := Hb0.out; simp; omega
                have HI := Lib.hid (And.intro hintr (And.intro hnl hin))
                obtain ⟨l, hl⟩ : ∃ l, l = nth a1 j := ⟨_, rfl⟩
                rw [← hl] at HI hcu
                have hBw : B ≤ wr.heap.size := by rw [HB.out.1]; exact hg.out.bel.size
                clear hint hea hintr hnl hl hin
                go_wp2_with fail
                refine (subset_any _ l s.sites _ HI.out.1).mono ?_
                rintro e W3 ⟨rfl, hq3⟩
                have hg3 := hg.out.keep hBw (grownBy_qt hq3)
                have HG3 := Lib.hid (And.intro hg3 (HI.out.1.qt hq3))
                have hB3 : B ≤ W3.heap.size := Nat.le_trans hBw (grownBy_qt hq3).size
                clear hg3 hq3
                cases hsb : subB l s.sites
                · go_wp2_with fail
                  go_ret
                  refine ⟨false, rfl, ⟨fun h => absurd h Bool.false_ne_true, fun h => ?_⟩, HB.out.2.1.trans (HG3.out.1.bel.mono (by have := HB.out.1; have := HB.out.2.1.size; omega))⟩
                  have := (h.ok (b0 + j) HI.out.2.2).1
                  rw [HI.out.2.1, hsb] at this; cases this
                · go_wp2_with fail
                  refine (ascending_any _ l _ HG3.out.2).mono ?_
                  rintro e W4 ⟨rfl, hq4⟩
                  have hg4 := HG3.out.1.keep hB3 (grownBy_qt hq4)
                  have HG4 := Lib.hid (And.intro hg4 (HG3.out.2.qt hq4))
                  have hB4 : B ≤ W4.heap.size := Nat.le_trans hB3 (grownBy_qt hq4).size
                  clear hg4 hq4
                  cases has : ascB l
                  · go_wp2_with fail
                    go_ret
                    refine ⟨false, rfl, ⟨fun h => absurd h Bool.false_ne_true, fun h => ?_⟩, HB.out.2.1.trans (HG4.out.1.bel.mono (by have := HB.out.1; have := HB.out.2.1.size; omega))⟩
                    have := (h.ok (b0 + j) HI.out.2.2).2
                    rw [HI.out.2.1, has] at this; cases this
                  · have hpos : ∀ x ∈ l, 0 ≤ x ∧ x < s.sites := fun x hx => by
                      obtain ⟨i, hi, rfl⟩ := mem_nth hx
                      exact (subB_iff _ _).1 hsb i hi
                    have hcast := cast_toNat (l := l) fun x hx => (hpos x hx).1
                    have HO := Lib.hid (And.intro hpos (And.intro hcast (And.intro hsb has)))
                    clear hpos hcast
                    go_wp2_with fail
                    refine (Of_S (rl := rl) (s := l.map Int.toNat) (by rw [HO.out.2.1]; exact HG4.out.2) (fun x hx => by obtain ⟨y, hy, rfl⟩ := List.mem_map.1 hx; have := HO.out.1 y hy; have := HC.out.2.1.sites; omega) HG4.out.1.fr).mono ?_
                    rintro e W5 ⟨oa, on, oc, os, rfl, hos, hosm, q5⟩
                    have hg5 := HG4.out.1.keep hB4 (grownBy_below q5)
                    have hmem : IsS rl W5 (.slice oa on oc) (memP (a1 ++ a2) (b0 + j)) := hos.ext fun x => by
                      have h1 : os x = true ↔ (x : Int) ∈ l := by
                        rw [hosm]
                        constructor
                        · intro h
                          obtain ⟨y, hy, e⟩ := List.mem_map.1 h
                          have := (HO.out.1 y hy).1
                          have e2 : (x : Int) = y := by omega
                          rw [e2]; exact hy
                        · intro h
                          exact List.mem_map.2 ⟨_, h, by simp⟩
                      unfold memP
                      rw [HI.out.2.1]
                      rw [Bool.eq_iff_iff, h1]; simp
                    have hB5 : B ≤ W5.heap.size := Nat.le_trans hB4 q5.size
                    have hgA := hg5.keep hB5 (grownBy_alloc W5 (.cells #[.slice oa on oc] 45))
                    have HG5 := Lib.hid (And.intro hgA (hmem.ex (Ext.grown (rl := rl) (grownBy_alloc W5 (.cells #[.slice oa on oc] 45)))))
                    have hb200 : b0 + j ≤ 300 := by have := Hb0.out; omega
                    clear hg5 hmem hgA q5 hos hosm dsites hcu
                    go_wp2_with (at_builtin; refine wp_appendS (f := fun x : Value => x) sBits2 rfl rfl _ _ rfl B (.slice xa (b0 + j) xc) vs rfl (.slice (some ⟨W5.heap.size, 0, none⟩) 1 1) [.slice oa on oc] rfl HG5.out.1.sets.own (src_one _ (cell_at1 rfl)) (fun y hy => by simp at hy; subst hy; rfl) (by have := HG5.out.1.sets.len; simp; omega) (by omega) (by simp; omega) ?_; intro v6 W6 o6 g6 l6)
                    obtain ⟨s6, c6, rfl⟩ := o6.shape (n := b0 + (j + 1)) (by have := HG5.out.1.sets.len; simp; omega)
                    have hp6 := HG5.out.1.push (by simp; omega) HG5.out.2 (by rw [HI.out.2.1]; exact HO.out.2.2) o6 g6 l6
                    have H6 := Lib.hid hp6
                    clear hp6 o6 g6 l6
                    go_wp2_with fail
                    go_roundw
                    case rel => exact ⟨j + 1, s6, c6, _, _, by omega, by go_num, rfl, H6.out⟩
                    case measure => simp [intOf]; omega
              · obtain rfl : j = a1.length := by omega
                have H7 := Lib.hid hg.out
                clear hg
                go_wp2_with fail
                go_roundw
                case rel => exact ⟨1, b0 + a1.length, xa, xc, vs, rl, by omega, rfl, rfl, (by rw [Hb0.out, Nat.zero_add]; rfl), H7.out⟩
                case measure => simp [intOf]
          · rw [show ((1 : Nat) : Int) = 1 from rfl]
            have Hb0 := Lib.hid (show b0 = a1.length from hhp.out.1)
            have HU := HU2
            clear hhp
            go_wp2_with fail
            clear k0 k1
            go_loopw [5, 9, 10, 11, 48] (fun o _ _ _ x wr2 => ∃ (j : Nat) (xa : Option Addr) (xc : Nat) (vs : List Value) (rl : Nat → Nat), j ≤ a2.length ∧ x = .int .i64 j ∧ o = .slice xa (b0 + j) xc ∧ Hid (Gath B (b0 + j) (a1 ++ a2) s.sites rl W2 wr2 (.slice xa (b0 + j) xc) vs)) (fun _ _ _ _ x _ => a2.length - (intOf x).toNat)
            case atStart => exact ⟨0, _, _, vs0, rl0, by omega, rfl, rfl, hh.out⟩
            case round =>
              obtain ⟨j, xa, xc, vs, rl, hj, rfl, rfl, hg⟩ := hrel
              by_cases hlt : j < a2.length
              · have hcu : wr.cell? ⟨blk ua2, ofs ua2 + j, none⟩ = some (nth us2 j) := by rw [hg.out.bel.cell (p := ⟨blk ua2, ofs ua2 + j, none⟩) (HU.out.2.1 j hlt)]; exact HU.out.1 j hlt
                have hint : Ints W2 (nth us2 j) (nth a2 j) := HU.out.2.2.2.2 j hlt
                obtain ⟨ea, ec, hea, hem, -⟩ := hint.out1 sInt
                rw [hea] at hcu hint
                have hnl : nth (a1 ++ a2) (b0 + j) = nth a2 j := by rw [nth_append]; rw [if_neg (by have := Hb0.out; omega), Hb0.out, Nat.add_sub_cancel_left]
                have dsites : wr.cell? ⟨bs, 1, none⟩ = some (.int .i64 s.sites) := by rw [hg.out.bel.cell (p := ⟨bs, 1, none⟩) HB.out.2.2]; exact HBX.out.2.1
                have hintr : Ints wr (.slice ea (nth a2 j).length ec) (nth a2 j) := hint.below (by rw [← HB.out.1]; exact hg.out.bel)
                have hin : b0 + j < (a1 ++ a2).length := by have := Hb0.out; simp; omega
                have HI := Lib.hid (And.intro hintr (And.intro hnl hin))
                obtain ⟨l, hl⟩ : ∃ l, l = nth a2 j := ⟨_, rfl⟩
                rw [← hl] at HI hcu
                have hBw : B ≤ wr.heap.size := by rw [HB.out.1]; exact hg.out.bel.size
                clear hint hea hintr hnl hl hin
                go_wp2_with fail
                refine (subset_any _ l s.sites _ HI.out.1).mono ?_
                rintro e W3 ⟨rfl, hq3⟩
                have hg3 := hg.out.keep hBw (grownBy_qt hq3)
                have HG3 := Lib.hid (And.intro hg3 (HI.out.1.qt hq3))
                have hB3 : B ≤ W3.heap.size := Nat.le_trans hBw (grownBy_qt hq3).size
                clear hg3 hq3
                cases hsb : subB l s.sites
                · go_wp2_with fail
                  go_ret
                  refine ⟨false, rfl, ⟨fun h => absurd h Bool.false_ne_true, fun h => ?_⟩, HB.out.2.1.trans (HG3.out.1.bel.mono (by have := HB.out.1; have := HB.out.2.1.size; omega))⟩
                  have := (h.ok (b0 + j) HI.out.2.2).1
                  rw [HI.out.2.1, hsb] at this; cases this
                · go_wp2_with fail
                  refine (ascending_any _ l _ HG3.out.2).mono ?_
                  rintro e W4 ⟨rfl, hq4⟩
                  have hg4 := HG3.out.1.keep hB3 (grownBy_qt hq4)
                  have HG4 := Lib.hid (And.intro hg4 (HG3.out.2.qt hq4))
                  have hB4 : B ≤ W4.heap.size := Nat.le_trans hB3 (grownBy_qt hq4).size
                  clear hg4 hq4
                  cases has : ascB l
                  · go_wp2_with fail
                    go_ret
                    refine ⟨false, rfl, ⟨fun h => absurd h Bool.false_ne_true, fun h => ?_⟩, HB.out.2.1.trans (HG4.out.1.bel.mono (by have := HB.out.1; have := HB.out.2.1.size; omega))⟩
                    have := (h.ok (b0 + j) HI.out.2.2).2
                    rw [HI.out.2.1, has] at this; cases this
                  · have hpos : ∀ x ∈ l, 0 ≤ x ∧ x < s.sites := fun x hx => by
                      obtain ⟨i, hi, rfl⟩ := mem_nth hx
                      exact (subB_iff _ _).1 hsb i hi
                    have hcast := cast_toNat (l := l) fun x hx => (hpos x hx).1
                    have HO := Lib.hid (And.intro hpos (And.intro hcast (And.intro hsb has)))
                    clear hpos hcast
                    go_wp2_with fail
                    refine (Of_S (rl := rl) (s := l.map Int.toNat) (by rw [HO.out.2.1]; exact HG4.out.2) (fun x hx => by obtain ⟨y, hy, rfl⟩ := List.mem_map.1 hx; have := HO.out.1 y hy; have := HC.out.2.1.sites; omega) HG4.out.1.fr).mono ?_
                    rintro e W5 ⟨oa, on, oc, os, rfl, hos, hosm, q5⟩
                    have hg5 := HG4.out.1.keep hB4 (grownBy_below q5)
                    have hmem : IsS rl W5 (.slice oa on oc) (memP (a1 ++ a2) (b0 + j)) := hos.ext fun x => by
                      have h1 : os x = true ↔ (x : Int) ∈ l := by
                        rw [hosm]
                        constructor
                        · intro h
                          obtain ⟨y, hy, e⟩ := List.mem_map.1 h
                          have := (HO.out.1 y hy).1
                          have e2 : (x : Int) = y := by omega
                          rw [e2]; exact hy
                        · intro h
                          exact List.mem_map.2 ⟨_, h, by simp⟩
                      unfold memP
                      rw [HI.out.2.1]
                      rw [Bool.eq_iff_iff, h1]; simp
                    have hB5 : B ≤ W5.heap.size := Nat.le_trans hB4 q5.size
                    have hgA := hg5.keep hB5 (grownBy_alloc W5 (.cells #[.slice oa on oc] 45))
                    have HG5 := Lib.hid (And.intro hgA (hmem.ex (Ext.grown (rl := rl) (grownBy_alloc W5 (.cells #[.slice oa on oc] 45)))))
                    have hb200 : b0 + j ≤ 300 := by have := Hb0.out; omega
                    clear hg5 hmem hgA q5 hos hosm dsites hcu
                    go_wp2_with (at_builtin; refine wp_appendS (f := fun x : Value => x) sBits2 rfl rfl _ _ rfl B (.slice xa (b0 + j) xc) vs rfl (.slice (some ⟨W5.heap.size, 0, none⟩) 1 1) [.slice oa on oc] rfl HG5.out.1.sets.own (src_one _ (cell_at1 rfl)) (fun y hy => by simp at hy; subst hy; rfl) (by have := HG5.out.1.sets.len; simp; omega) (by omega) (by simp; omega) ?_; intro v6 W6 o6 g6 l6)
                    obtain ⟨s6, c6, rfl⟩ := o6.shape (n := b0 + (j + 1)) (by have := HG5.out.1.sets.len; simp; omega)
                    have hp6 := HG5.out.1.push (by simp; omega) HG5.out.2 (by rw [HI.out.2.1]; exact HO.out.2.2) o6 g6 l6
                    have H6 := Lib.hid hp6
                    clear hp6 o6 g6 l6
                    go_wp2_with fail
                    go_roundw
                    case rel => exact ⟨j + 1, s6, c6, _, _, by omega, by go_num, rfl, H6.out⟩
                    case measure => simp [intOf]; omega
              · obtain rfl : j = a2.length := by omega
                have H7 := Lib.hid hg.out
                clear hg
                go_wp2_with fail
                go_roundw
                case rel => exact ⟨2, b0 + a2.length, xa, xc, vs, rl, by omega, rfl, rfl, (by rw [Hb0.out]; rfl), H7.out⟩
                case measure => simp [intOf]
          · have hn : b0 = s.S.N := by
              have h1 : b0 = a1.length + a2.length := hhp.out.1
              have h2 := HL.out.1
              have h3 := HL.out.2
              rw [HV.out.2.2.1] at h2
              rw [HV.out.2.2.2.2.2] at h3
              rw [h1]; unfold Syst.N; omega
            have hN := Lib.hid (And.intro hn hhp.out.1)
            clear hhp k0 k1
            rw [show ((2 : Nat) : Int) = 2 from rfl]
            subst hn
            have dc : wr.cell? ⟨bs, 3, none⟩ = some (.slice ca s.cons.length cc) := by rw [hh.out.bel.cell (p := ⟨bs, 3, none⟩) HB.out.2.2]; exact HBX.out.2.2.2
            go_wp2_with fail
            clear dc
            obtain ⟨W6, hW6⟩ : ∃ W6, W6 = wr := ⟨_, rfl⟩
            have hB6 : Below W.heap.size W W6 := by rw [hW6]; exact HB.out.2.1.trans (hh.out.bel.mono (by have := HB.out.1; have := HB.out.2.1.size; omega))
            have hsets : SetsIn s.S.N W6 (.slice xa0 s.S.N xc0) vs0 (memP (a1 ++ a2)) := by rw [hW6]; exact ⟨hh.out.sets.own.lst, hh.out.sets.len, fun i hi => (hh.out.sets.mean i hi).zero⟩
            have hbx6 : BoxS W6 bs s (.slice ca s.cons.length cc) := by rw [hW6]; exact HBX.out.grown (row := none) ⟨hh.out.bel.os, hh.out.bel.tape, hh.out.bel.output, hh.out.bel.size, fun k hk _ => hh.out.bel.block k (by rw [HB.out.1]; exact hk)⟩ (by simp)
            have hok6 : ∀ i, i < s.S.N → subB (nth (a1 ++ a2) i) s.sites = true ∧ ascB (nth (a1 ++ a2) i) = true := hh.out.ok
            have H6 := Lib.hid (And.intro hB6 (And.intro hsets (And.intro hbx6 hok6)))
            rw [← hW6]
            clear hW6 hB6 hsets hbx6 hok6 hh
            go_loopw [13, 76] (fun _ x wr => ∃ k : Nat, k ≤ s.cons.length ∧ x = .int .i64 k ∧ Hid (Below W6.heap.size W6 wr ∧ ∀ i, i < k → Holds s.S (fun i x => memP (a1 ++ a2) i x = true) (nth s.S.cons i))) (fun _ x _ => s.cons.length - (intOf x).toNat)
            case atStart => exact ⟨0, by omega, rfl, Below.refl _ _, fun i hi => by omega⟩
            case round =>
              obtain ⟨k, hk, rfl, hh⟩ := hrel
              by_cases hlt : k < s.cons.length
              · obtain ⟨sa, sn, sc, c0, c1, c2, c3, c4, hset, hbl⟩ := HC.out.2.2.2.2.2.2.2.2 k hlt
                have hbw : Below W.heap.size W wr := H6.out.1.trans (hh.out.1.mono H6.out.1.size)
                rw [← hbw.cell (p := ⟨blk ca, ofs ca + k * 5, none⟩) hbl] at c0
                rw [← hbw.cell (p := ⟨blk ca, ofs ca + k * 5 + 1, none⟩) hbl] at c1
                rw [← hbw.cell (p := ⟨blk ca, ofs ca + k * 5 + 2, none⟩) hbl] at c2
                rw [← hbw.cell (p := ⟨blk ca, ofs ca + k * 5 + 3, none⟩) hbl] at c3
                rw [← hbw.cell (p := ⟨blk ca, ofs ca + k * 5 + 4, none⟩) hbl] at c4
                have hvc := HV.out.2.1.cons _ (nth_mem _ _ hlt)
                have hjS : k < s.S.cons.length := by show k < (s.cons.map R.C).length; rw [List.length_map]; exact hlt
                have hcn : nth s.S.cons k = (nth s.cons k).C := nth_map' _ _ _ hlt
                have hok := HV.out.2.1.ok _ (nth_mem _ _ hjS)
                have k0 : (nth s.cons k).k = ((nth s.S.cons k).k : Int) := by rw [hcn]; have := hvc.kind; show _ = (((nth s.cons k).k.toNat : Nat) : Int); omega
                have k1 : (nth s.cons k).a = ((nth s.S.cons k).a : Int) := by rw [hcn]; have := hvc.a.1; show _ = (((nth s.cons k).a.toNat : Nat) : Int); omega
                have k2 : (nth s.cons k).b = ((nth s.S.cons k).b : Int) := by rw [hcn]; have := hvc.b.1; show _ = (((nth s.cons k).b.toNat : Nat) : Int); omega
                have k3 : (nth s.cons k).f = ((nth s.S.cons k).f : Int) := by rw [hcn]; have := hvc.f'; show _ = (((nth s.cons k).f.toNat : Nat) : Int); omega
                have k4 : (nth s.cons k).s = (nth s.S.cons k).s.map (fun x : Nat => (x : Int)) := by
                  rw [hcn]; exact (cast_toNat fun x hx => (hvc.s x hx).1).symm
                rw [k0] at c0
                rw [k1] at c1
                rw [k2] at c2
                rw [k3] at c3
                rw [k4] at hset
                obtain ⟨d0, d1, d2, d3⟩ := H6.out.2.2.1.grown (grownBy_below hh.out.1) (by simp)
                obtain ⟨c, hc⟩ : ∃ c, c = nth s.S.cons k := ⟨_, rfl⟩
                rw [← hc] at c0 c1 c2 c3 hset hok
                have hg9 := grownBy_alloc wr (.cells #[.int .i64 (c.k : Int), .int .i64 c.a, .int .i64 c.b, .int .i64 c.f, .slice sa sn sc] 39)
                have HS := Lib.hid (And.intro hok (And.intro (hset.below hbw) (And.intro hc hg9)))
                have hbwl : bs < wr.heap.size := World.block_lt_of_cell? wr ⟨bs, 0, none⟩ d0
                have n1 : bs ≠ wr.heap.size := by omega
                clear hbw hvc hjS hcn hok k0 k1 k2 k3 k4 hset hc hbl hg9
                go_wp2_with fail
                have hsat := satisfied_any s.S (.slice ca s.cons.length cc) c sa sn sc xa0 xc0 vs0 (memP (a1 ++ a2)) (wr.alloc (.cells #[.int .i64 (c.k : Int), .int .i64 c.a, .int .i64 c.b, .int .i64 c.f, .slice sa sn sc] 39)) ((H6.out.2.1.below hh.out.1).below ((Below.refl _ _).alloc (Nat.le_refl _) _)) HS.out.1
                  ⟨by have := HC.out.2.1.vars; show s.vars.toNat ≤ 40; omega, by have := HC.out.2.1.sites; show s.sites.toNat ≤ 12; omega, by have := HC.out.2.1.fields; show s.fields.toNat ≤ 5; omega, HC.out.2.1.bnd.N⟩
                  (HS.out.2.1.grown HS.out.2.2.2 (by simp)) (fun i x hx => by
                    unfold memP at hx
                    simp only [decide_eq_true_eq] at hx
                    by_cases hi : i < s.S.N
                    · have := (H6.out.2.2.2 i hi).1
                      obtain ⟨q, hq, e⟩ := mem_nth hx
                      have h3 := (subB_iff _ _).1 this q hq
                      rw [e] at h3
                      show x < s.sites.toNat
                      omega
                    · rw [nth_out _ _ (by have h1 : s.S.N = a1.length + a2.length := hN.out.2; simp; omega)] at hx
                      cases hx)
                rw [← HV.out.2.2.1, ← HV.out.2.2.2.1, ← HV.out.2.2.2.2.1] at hsat
                refine hsat.mono ?_
                clear hsat
                rintro e W8 ⟨b, rfl, hb, q8⟩
                have g8 := grownBy_trans HS.out.2.2.2 (grownBy_below q8)
                have H8 := Lib.hid (And.intro hb (hh.out.1.grown g8 hh.out.1.size (by simp)))
                clear hb g8 q8 c0 c1 c2 c3 c4 d0 d1 d2 d3
                cases b
                · go_wp2_with fail
                  go_ret
                  refine ⟨false, rfl, ⟨fun h => absurd h Bool.false_ne_true, fun h => ?_⟩, H6.out.1.trans (H8.out.2.mono H6.out.1.size)⟩
                  refine absurd (H8.out.1.2 ?_) Bool.false_ne_true
                  have := h.shut c (by rw [HS.out.2.2.1]; exact nth_mem _ _ (by show k < (s.cons.map R.C).length; rw [List.length_map]; exact hlt))
                  simpa [memP] using this
                · go_wp2_with fail
                  go_roundw
                  case rel => exact ⟨k + 1, by omega, by go_num, H8.out.2, fun i hi => by
                    by_cases e : i = k
                    · subst e
                      rw [← HS.out.2.2.1]
                      exact H8.out.1.1 (by first | rfl | trivial)
                    · exact hh.out.2 i (by omega)⟩
                  case measure => simp [intOf]; omega
              · have HE := Lib.hid hh.out
                clear hh
                go_wp2_with fail
                go_ret
                refine ⟨true, rfl, ⟨fun _ => ⟨HV.out.1, ?_, ?_, ?_, ?_⟩, fun _ => rfl⟩, H6.out.1.trans (HE.out.1.mono H6.out.1.size)⟩
                · have h2 := HL.out.1
                  rw [HV.out.2.2.1] at h2; omega
                · have h2 := HL.out.2
                  rw [HV.out.2.2.2.2.2] at h2; omega
                · intro i hi
                  refine H6.out.2.2.2 i ?_
                  have h1 : s.S.N = a1.length + a2.length := hN.out.2
                  simp at hi; omega
                · intro c hc
                  obtain ⟨i, hi, rfl⟩ := mem_nth hc
                  have := HE.out.2 i (by have : i < (s.cons.map R.C).length := hi; rw [List.length_map] at this; omega)
                  simpa [memP] using this
      · have hne2 : ((a2.length : Int) != s.sites * s.fields) = true := by simpa using hl'
        clear ev es ef hmul
        go_wp2_with fail
        go_ret
        refine ⟨false, rfl, ⟨fun h => absurd h Bool.false_ne_true, fun h => ?_⟩, H1.out⟩
        exact absurd (by rw [HV.out.2.2.2.2.2, h.l2]) hl'
    · have hne1 : ((a1.length : Int) != s.vars) = true := by simpa using hl
      clear ev es ef hmul
      go_wp2_with fail
      go_ret
      refine ⟨false, rfl, ⟨fun h => absurd h Bool.false_ne_true, fun h => ?_⟩, H1.out⟩
      exact absurd (by rw [HV.out.2.2.1, h.l1]) hl
  · have hz : (chkCode s != 0) = true := by simpa using h0
    have HZ := Lib.hid h0
    clear h0
    go_wp2_with fail
    go_ret
    exact ⟨false, rfl, ⟨fun h => absurd h Bool.false_ne_true, fun h => absurd h.chk HZ.out⟩, H1.out⟩
end Go.Proofs.Ytdlfbkmjemamhaa
