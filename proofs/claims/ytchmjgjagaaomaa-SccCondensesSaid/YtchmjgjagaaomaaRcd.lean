/- Contracts of the reference's Of and Bottomup. -/
import Derived.Test.YtchmjgjagaaomaaRcb
import Derived.Test.YtchmjgjagaaomaaScd
namespace Go.Proofs.Ytchmjgjagaaomaa
open Go.RowKit Go.Dfl Go.Gra Go.Tj
/-- The index of each node that stands among the first m of F, and 0. -/
def ofM (F of : List Int) (n m : Nat) : List Int := (List.range n).map fun v : Nat => if (v : Int) ∈ F.take m then nth of v else 0
theorem ofM_len (F of : List Int) (n m : Nat) : (ofM F of n m).length = n := by simp [ofM]
theorem ofM_nth {F of : List Int} {n m v : Nat} (hv : v < n) : nth (ofM F of n m) v = if (v : Int) ∈ F.take m then nth of v else 0 := by
  unfold ofM; rw [nth_eq _ _ (by simpa using hv)]; simp
theorem ofM_zero (F of : List Int) (n : Nat) : ofM F of n 0 = List.replicate n 0 := nth_ext (by simp [ofM]) fun i hi => by
  rw [ofM_len] at hi
  rw [ofM_nth hi, List.take_zero, if_neg (by simp), nth_eq _ _ (by simpa using hi), List.getElem_replicate]
theorem ofM_step {F of : List Int} {n m u : Nat} (hm : m < F.length) (hu : nth F m = (u : Int)) (hun : u < n) : (ofM F of n m).set u (nth of u) = ofM F of n (m + 1) := nth_ext (by rw [List.length_set, ofM_len, ofM_len]) fun i hi => by
  rw [List.length_set, ofM_len] at hi
  rw [nth_set, ofM_len, ofM_nth hi, ofM_nth hi, take_snoc _ _ hm, hu]
  by_cases e : u = i
  · subst e; rw [if_pos ⟨rfl, hun⟩, if_pos (by simp)]
  · rw [if_neg (fun h9 : u = i ∧ _ => e h9.1)]
    have e2 : ¬ (i : Int) = (u : Int) := by omega
    simp [e2]
theorem ofM_all {F of : List Int} {n : Nat} (hF : ∀ v, v < n → (v : Int) ∈ F) (hl : of.length = n) : ofM F of n F.length = of := nth_ext (by rw [ofM_len, hl]) fun i hi => by
  rw [ofM_len] at hi
  rw [ofM_nth hi, List.take_length, if_pos (hF i hi)]
/-- The index of a member of the i-th list. -/
theorem PartsAre.idx {g : G} {ls : List (List Int)} {of : List Int} (h : PartsAre g ls of) {i : Nat} (hi : i < ls.length) {u : Nat} (hu : (u : Int) ∈ nth ls i) : nth of u = (i : Int) := by
  obtain ⟨l, L, h1, h2, rfl, h4, h5⟩ := h.ex
  rw [List.length_map] at hi
  rw [comps_nth hi] at hu
  obtain ⟨v, hv, he, e⟩ := mem_compK.1 hu
  obtain rfl : u = v := by omega
  obtain ⟨j, j1, j2, j3⟩ := h5 u hv
  have := (List.getElem_inj h2.nd (i := i) (j := j) (h₀ := hi) (h₁ := j2)).1 (by rw [← nth_eq _ _ hi, ← nth_eq _ _ j2, j3, he])
  rw [j1, this]
set_option maxHeartbeats 3200000 in
set_option maxRecDepth 100000 in
theorem rOf_any (g : G) (cv : Value) (W : World) (h : Pairs W cv g.es) : Calls Try.prog 18 #[GV g cv] W (OfR g W) := by
  obtain ⟨ca, cc, rfl, -, -, -⟩ := pairs_rd h
  have hal := (Below.refl W.heap.size W).alloc (Nat.le_refl _) (.cells #[.int .i64 g.n, .slice ca g.es.length cc] 24)
  have H0 := Lib.hid (And.intro (h.below hal) (And.intro hal (BoxG.new W g.n (.slice ca g.es.length cc) 24)))
  clear h hal
  unfold GV
  go_enter Try.func18, Try.ntmps18
  go_wp2_with fail
  have hck := rComps_any g (.slice ca g.es.length cc) _ H0.out.1
  unfold GV at hck
  refine hck.mono ?_
  rintro e W1 ⟨ls, of, v, vs, rfl, hcm, hG, r1⟩
  obtain ⟨la, lc, rfl, -, -, -⟩ := rows_rd hG
  have H1 := Lib.hid (And.intro (H0.out.2.2.below r1) (And.intro (H0.out.2.1.trans (r1.mono H0.out.2.1.size)) (And.intro hcm hG)))
  clear r1 hck hcm hG
  by_cases hc : gCode g = 0
  · have q0 : (gCode g != 0) = false := by simpa using hc
    have HV := Lib.hid (And.intro (gCode_ok.1 hc) hc)
    have hpa : PartsAre g ls of := by
      rcases H1.out.2.2.1 with h9 | h9
      · exact absurd hc h9.1
      · exact h9.2
    obtain ⟨n, hn⟩ : ∃ n : Nat, n = g.n.toNat := ⟨_, rfl⟩
    have hgn : g.n = (n : Int) := by have := HV.out.1.n0; omega
    have hn8 : n ≤ 8192 := by have := HV.out.1.n1; omega
    have HPA := Lib.hid (And.intro hpa (hpa.cov HV.out.1))
    have hls8 : ls.length ≤ 8192 := H1.out.2.2.1.le.2
    have HN := Lib.hid (show g.n = (n : Int) ∧ of.length = n ∧ g.n.toNat = n by rw [hpa.len]; omega)
    obtain ⟨c0, c1⟩ := H1.out.1
    rw [hgn] at c0
    clear hc hpa hn hgn
    go_wp2_with (at_make; refine wp_make (f := Value.int .i64) 0 sIntG rfl _ rfl _ _ rfl .i64 .i64 _ _ n rfl rfl rfl rfl (by omega) (by unfold maxLen; omega) ?_)
    intro sa sc W2 hrow hb2
    rw [← ofM_zero ls.flatten of n] at hrow
    have H2 := Lib.hid (And.intro hrow hb2)
    clear hrow hb2 c0 c1 q0
    go_wp2_with fail
    go_loopw [7] (fun x wr => ∃ i : Nat, i ≤ ls.length ∧ x = .int .i64 (i : Int) ∧ Hid (OwnI wr W1.heap.size 3 (.slice sa n sc) (ofM ls.flatten of n (offs ls i)) ∧ Below W1.heap.size W1 wr)) (fun x _ => ls.length - (intOf x).toNat)
    case atStart => exact ⟨0, by omega, rfl, H2.out⟩
    case round =>
      obtain ⟨i, hi, rfl, hh⟩ := hrel
      have HL := Lib.hid hh.out
      clear hh
      by_cases hil : i < ls.length
      · have hili : (i : Int) < (ls.length : Int) := by omega
        go_wp2_with fail
        go_loopw [8] (fun x wr => ∃ k : Nat, k ≤ (nth ls i).length ∧ x = .int .i64 (k : Int) ∧ Hid (OwnI wr W1.heap.size 3 (.slice sa n sc) (ofM ls.flatten of n (offs ls i + k)) ∧ Below W1.heap.size W1 wr)) (fun x _ => (nth ls i).length - (intOf x).toNat)
        case atStart => exact ⟨0, by omega, rfl, HL.out⟩
        case round =>
          obtain ⟨k, hk, rfl, hh⟩ := hrel
          have HI := Lib.hid hh.out
          clear hh
          obtain ⟨la', lc', he, -, -, hr⟩ := rows_rd (H1.out.2.2.2.below HI.out.2)
          simp only [Value.slice.injEq] at he
          obtain ⟨rfl, -, rfl⟩ := he
          obtain ⟨i1, -, r1, hI⟩ := hr i hil
          obtain ⟨ra, rc, he1, hm1, hi1, hc1, -⟩ := hI.out1 sIntG
          rw [he1] at r1
          obtain ⟨R, hR⟩ : ∃ R, R = nth ls i := ⟨_, rfl⟩
          rw [← hR] at r1 hm1 hi1 hc1 hk ⊢
          clear hr hI he1
          by_cases hkl : k < R.length
          · have hkli : (k : Int) < (R.length : Int) := by omega
            have x1 := hc1 k hkl
            have j1 := hi1 .i64 (k : Int) (by omega) (by omega)
            rw [Int.toNat_natCast] at j1
            obtain ⟨f1, f2⟩ := nth_flat hil (k := k) (by rw [← hR]; exact hkl)
            have hmem := (HPA.out.2.mem _).1 (nth_mem _ _ f1)
            obtain ⟨u, hu⟩ : ∃ u : Nat, nth R k = (u : Int) := ⟨(nth R k).toNat, by rw [hR, ← f2]; omega⟩
            have hun : u < n := by have := HN.out; rw [f2, ← hR, hu] at hmem; omega
            rw [← hR, hu] at f2
            have hix := HPA.out.1.idx hil (u := u) (by rw [← hR, ← hu]; exact nth_mem _ _ hkl)
            obtain ⟨s0, s1, s2⟩ := own_int HI.out.1 (ofM_len _ _ _ _) hun
            have hst := HI.out.1.set u (i : Int)
            rw [← hix, ofM_step f1 f2 hun] at hst
            have hsb : W1.heap.size ≤ blk sa := by
              have hob : (Value.slice sa n sc).ownBlock = some (blk sa) := by
                obtain ⟨-, ⟨h2, h3⟩ | ⟨q, cap2, cur, hv, -⟩⟩ := HI.out.1
                · rw [ofM_len] at h3; omega
                · simp only [Value.slice.injEq] at hv
                  obtain ⟨rfl, -, -⟩ := hv; rfl
              exact (HI.out.1.lt _ hob).1
            have hb4 := HI.out.2.setCell (p := ⟨blk sa, ofs sa + u, none⟩) hsb (.int .i64 (i : Int))
            rw [hix] at hst
            have HS := Lib.hid (And.intro hst hb4)
            rw [hu] at x1
            clear f1 f2 hmem hst hb4 hix hsb hR hu hc1 hi1
            go_wp2_with fail
            go_roundw
            case rel => exact ⟨k + 1, by omega, by go_num, by rw [show offs ls i + (k + 1) = offs ls i + k + 1 by omega]; exact HS.out⟩
            case measure => simp [intOf]; omega
          · obtain rfl : k = R.length := by omega
            have HX := Lib.hid (show offs ls (i + 1) = offs ls i + R.length by rw [offs_succ hil, hR])
            clear hkl hR
            go_wp2_with fail
            go_roundw
            case rel => exact ⟨i + 1, by omega, by go_num, by rw [HX.out]; exact HI.out⟩
            case measure => simp [intOf]; omega
      · obtain rfl : i = ls.length := by omega
        have hof : ofM ls.flatten of n (offs ls ls.length) = of := by rw [offs_all]; exact ofM_all (fun v hv => (HPA.out.2.mem _).2 ⟨by omega, by have := HN.out.1; omega⟩) HN.out.2.1
        have HE := Lib.hid (show OwnI wr W1.heap.size 3 (.slice sa n sc) of by have h9 := HL.out.1; rw [hof] at h9; exact h9)
        clear hof hil
        go_wp2_with fail
        go_ret2
        exact ⟨ls, of, _, by rw [HV.out.2]; rfl, .inr ⟨HV.out.2, HPA.out.1⟩, HE.out.lst, bel_trans H1.out.2.1 HL.out.2⟩
  · have q0 : (gCode g != 0) = true := by simpa using hc
    have HC := Lib.hid hc
    clear hc
    go_wp2_with fail
    go_ret2
    exact ⟨[], [], _, rfl, .inl ⟨HC.out, rfl, rfl⟩, ints_nil _, H1.out.2.1⟩
set_option maxHeartbeats 3200000 in
set_option maxRecDepth 100000 in
theorem rBottomup_any (g : G) (cv : Value) (W : World) (h : Pairs W cv g.es) : Calls Try.prog 20 #[GV g cv] W (BotR g W) := by
  obtain ⟨ca, cc, rfl, -, -, -⟩ := pairs_rd h
  have hal := (Below.refl W.heap.size W).alloc (Nat.le_refl _) (.cells #[.int .i64 g.n, .slice ca g.es.length cc] 24)
  have H0 := Lib.hid (And.intro (h.below hal) (And.intro hal (BoxG.new W g.n (.slice ca g.es.length cc) 24)))
  clear h hal
  unfold GV
  go_enter Try.func20, Try.ntmps20
  go_wp2_with fail
  have hck := rComps_any g (.slice ca g.es.length cc) _ H0.out.1
  unfold GV at hck
  refine hck.mono ?_
  rintro e W1 ⟨ls, of, v, vs, rfl, hcm, hG, r1⟩
  obtain ⟨la, lc, rfl, -, -, -⟩ := rows_rd hG
  have H1 := Lib.hid (And.intro (H0.out.2.2.below r1) (And.intro (H0.out.2.1.trans (r1.mono H0.out.2.1.size)) (And.intro hcm hG)))
  clear r1 hck hcm hG
  have hle := H1.out.2.2.1.le
  have hls8 : ls.length ≤ 8192 := hle.2
  have HLE := Lib.hid hle
  clear hle
  obtain ⟨W1', hW1⟩ : ∃ Z, Z = W1 := ⟨_, rfl⟩
  have HB1 := Lib.hid (show Below W1'.heap.size W1' W1 by rw [hW1]; exact Below.refl _ _)
  have HG1 := Lib.hid (show Grid (Value.int .i64) W1' (.slice la ls.length lc) vs ls by rw [hW1]; exact H1.out.2.2.2)
  have HC1 := Lib.hid (show Below W.heap.size W W1' by rw [hW1]; exact H1.out.2.1)
  clear hW1
  go_wp2_with fail
  go_loopw [6, 7] (fun o x wr => ∃ (i m : Nat) (oa : Option Addr) (oc : Nat), i ≤ ls.length ∧ x = .int .i64 (i : Int) ∧ o = .slice oa m oc ∧ Hid (m = (ls.take i).flatten.length ∧ OwnI wr W1'.heap.size 3 (.slice oa m oc) (ls.take i).flatten ∧ Below W1'.heap.size W1' wr)) (fun _ x _ => ls.length - (intOf x).toNat)
  case atStart => exact ⟨0, 0, none, 0, by omega, rfl, rfl, rfl, Go.Dfl.Own.nil _ _ _ _, HB1.out⟩
  case round =>
    obtain ⟨i, m, oa, oc, hi, rfl, rfl, hh⟩ := hrel
    have HL := Lib.hid hh.out
    clear hh
    by_cases hil : i < ls.length
    · have hili : (i : Int) < (ls.length : Int) := by omega
      obtain ⟨la', lc', he, -, -, hr⟩ := rows_rd (HG1.out.below HL.out.2.2)
      simp only [Value.slice.injEq] at he
      obtain ⟨rfl, -, rfl⟩ := he
      obtain ⟨i1, -, r1, hI⟩ := hr i hil
      obtain ⟨ra, rc, he1, -, -, -, -⟩ := hI.out1 sIntG
      rw [he1] at r1 hI
      obtain ⟨R, hR⟩ : ∃ R, R = nth ls i := ⟨_, rfl⟩
      rw [← hR] at r1 hI
      have hfl : (ls.take (i + 1)).flatten = (ls.take i).flatten ++ R := by rw [take_snoc _ _ hil, List.flatten_append, ← hR]; simp
      have hlen : (ls.take i).flatten.length + R.length < 5864062014805 := by
        have h8 := offs_le ls (i + 1)
        unfold offs at h8
        rw [hfl, List.length_append] at h8
        have := HLE.out.1
        omega
      have HX := Lib.hid (And.intro hfl (And.intro hlen hI.src))
      have hsz := HL.out.2.2.size
      clear hr he1 hR hfl hlen hI
      go_wp2_with (at_builtin; refine wp_appendS (f := Value.int .i64) sIntG rfl rfl _ _ rfl W1'.heap.size (.slice oa m oc) (ls.take i).flatten rfl (.slice ra R.length rc) R rfl HL.out.2.1 HX.out.2.2 (fun _ _ => rfl) HX.out.2.1 (by omega) hsz ?_; intro v' w3 hown hgr hat; rw [← HX.out.1] at hown; obtain ⟨m2, hm2⟩ : ∃ m2, m2 = (ls.take (i + 1)).flatten.length := ⟨_, rfl⟩; obtain ⟨s9, c9, rfl⟩ := hown.shape hm2.symm; have HO := Lib.hid (And.intro hown (And.intro hgr hm2)); clear hown hgr hat hm2)
      go_roundw
      case rel => exact ⟨i + 1, m2, s9, c9, by omega, by go_num, rfl, HO.out.2.2, HO.out.1, HL.out.2.2.grown HO.out.2.1 hsz (fun q e => (HL.out.2.1.lt q e).1)⟩
      case measure => simp [intOf]; omega
    · obtain rfl : i = ls.length := by omega
      have HE := Lib.hid (show Ints wr (.slice oa m oc) ls.flatten by have h9 := HL.out.2.1.lst; rw [List.take_length] at h9; exact h9)
      clear hil
      go_wp2_with fail
      go_ret2
      exact ⟨ls, of, _, rfl, H1.out.2.2.1, HE.out, bel_trans HC1.out HL.out.2.2⟩
end Go.Proofs.Ytchmjgjagaaomaa
