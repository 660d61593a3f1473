/- Contracts of the reference's check and Table. -/
import Derived.Test.YtlijimdkadobmaaDnk
namespace Go.Gra
open Go.Dfl (nth nth_mem mem_nth nth_eq nth_ext nth_set nth_append take_snoc)
def tabRow (g : G) (r a : Nat) : List Bool := (List.range g.n.toNat).map (domB g r a)
def tabK (g : G) (r k : Nat) : List (List Bool) := (List.range k).map (tabRow g r)
theorem tabRow_len (g : G) (r a : Nat) : (tabRow g r a).length = g.n.toNat := by simp [tabRow]
theorem tabRow_nth {g : G} {r a b : Nat} (h : b < g.n.toNat) : nth (tabRow g r a) b = domB g r a b := by
  rw [nth_eq _ _ (by rw [tabRow_len]; exact h)]; simp [tabRow]
theorem tabK_len (g : G) (r k : Nat) : (tabK g r k).length = k := by simp [tabK]
theorem tabK_succ (g : G) (r k : Nat) : tabK g r (k + 1) = tabK g r k ++ [tabRow g r k] := by simp [tabK, List.range_succ]
theorem tabK_nth {g : G} {r k a : Nat} (h : a < k) : nth (tabK g r k) a = tabRow g r a := by
  rw [nth_eq _ _ (by rw [tabK_len]; exact h)]; simp [tabK]
end Go.Gra
namespace Go.Proofs.Ytlijimdkadobmaa
open Go.RowKit Go.Dfl Go.Gra
set_option maxHeartbeats 800000 in
set_option maxRecDepth 100000 in
theorem rcheck_any (g : G) (cv : Value) (r : Int) (W : World) (h : Pairs W cv g.es) : Calls Try.prog 36 #[GV g cv, .int .i64 r] W (CodeR (dcode g r) W) := by
  obtain ⟨ca, cc, rfl, -, -, -⟩ := pairs_rd h
  have hal := (Below.refl W.heap.size W).alloc (Nat.le_refl _) (.cells #[.int .i64 g.n, .slice ca g.es.length cc] 24)
  have H0 := Lib.hid (And.intro (h.below hal) (And.intro hal (BoxG.new W g.n (.slice ca g.es.length cc) 24)))
  clear h hal
  unfold GV
  go_enter Try.func36, Try.ntmps36
  go_wp2_with fail
  have hck := rCheck_any g (.slice ca g.es.length cc) _ H0.out.1
  unfold GV at hck
  refine hck.mono ?_
  rintro e W1 ⟨rfl, r1⟩
  have H1 := Lib.hid (And.intro (H0.out.2.1.trans (r1.mono H0.out.2.1.size)) (H0.out.2.2.below r1))
  clear r1 hck
  obtain ⟨c0, c1⟩ := H1.out.2
  by_cases hc : gCode g = 0
  · have q0 : (gCode g != 0) = false := by simpa using hc
    by_cases h0 : 0 ≤ r
    · have q1 : decide (r < 0) = false := decide_eq_false (by omega)
      by_cases h1 : r < g.n
      · have q2 : decide (r ≥ g.n) = false := decide_eq_false (by omega)
        have HD : Hid (dcode g r = 0) := Lib.hid (by unfold dcode; rw [if_neg (by simpa using hc), if_pos (nodeB_iff.2 ⟨h0, h1⟩)])
        clear hc h0 h1
        go_wp2_with fail
        go_ret
        exact ⟨by rw [HD.out]; rfl, H1.out.1⟩
      · have q2 : decide (r ≥ g.n) = true := decide_eq_true (by omega)
        have HD : Hid (dcode g r = 4) := Lib.hid (by unfold dcode; rw [if_neg (by simpa using hc), if_neg (by rw [nodeB_iff]; omega)])
        clear hc h0 h1
        go_wp2_with fail
        go_ret
        exact ⟨by rw [HD.out]; rfl, H1.out.1⟩
    · have q1 : decide (r < 0) = true := decide_eq_true (by omega)
      have HD : Hid (dcode g r = 4) := Lib.hid (by unfold dcode; rw [if_neg (by simpa using hc), if_neg (by rw [nodeB_iff]; omega)])
      clear hc h0
      go_wp2_with fail
      go_ret
      exact ⟨by rw [HD.out]; rfl, H1.out.1⟩
  · have q0 : (gCode g != 0) = true := by simpa using hc
    have HD : Hid (dcode g r = gCode g) := Lib.hid (by unfold dcode; rw [if_pos hc])
    clear hc
    go_wp2_with fail
    go_ret
    exact ⟨by rw [HD.out]; rfl, H1.out.1⟩
theorem sBoolsG : SliceOf Try.prog 61 49 (.slice none 0 0) 1 24 := ⟨Try.underlying61, info_parts (P := Try.prog) (e := 49) (by kernel_rfl)⟩
abbrev BBg (w : World) (base : Nat) (v : Value) (l : List Bool) : Prop := Go.Dfl.Own Value.bool w base 4 v l
theorem kBBg : Kind BBg := Kind.own _ _
def TabR (g : G) (r : Nat) (W : World) (e : Ending) (W' : World) : Prop := ∃ a c vs, e = .returned (.slice a g.n.toNat c) ∧ Grid Value.bool W' (.slice a g.n.toNat c) vs (tabK g r g.n.toNat) ∧ Below W.heap.size W W'
set_option maxHeartbeats 3200000 in
set_option maxRecDepth 100000 in
theorem rTable_any (g : G) (cv : Value) (r : Nat) (W : World) (h : Pairs W cv g.es) (hvg : VG g) : Calls Try.prog 37 #[GV g cv, .int .i64 (r : Int)] W (TabR g r W) := by
  obtain ⟨ca, cc, rfl, -, -, -⟩ := pairs_rd h
  have hal := (Below.refl W.heap.size W).alloc (Nat.le_refl _) (.cells #[.int .i64 g.n, .slice ca g.es.length cc] 24)
  have H0 := Lib.hid (And.intro (h.below hal) (And.intro hal (BoxG.new W g.n (.slice ca g.es.length cc) 24)))
  obtain ⟨n, hn⟩ : ∃ n : Nat, g.n = n := ⟨g.n.toNat, by have := hvg.n0; omega⟩
  have hn8 : n ≤ 8192 := by have := hvg.n1; omega
  have HV := Lib.hid (And.intro hvg hn)
  unfold GV
  rw [hn] at H0 ⊢
  clear h hal hvg hn
  obtain ⟨c0, c1⟩ := H0.out.2.2
  go_enter Try.func37, Try.ntmps37
  go_wp2_with fail
  have hw := rWithout_any g (.slice ca g.es.length cc) r (-1) _ H0.out.1 HV.out.1
  unfold GV at hw
  rw [HV.out.2] at hw
  refine hw.mono ?_
  rintro e W1 ⟨s1, k1, rfl, o1, b1⟩
  rw [HV.out.2, Int.toNat_natCast] at o1 ⊢
  obtain ⟨s1', k1', he, am, ai, ac, ab⟩ := o1.lst.out1 sBoolG
  rw [withoutL_len, HV.out.2, Int.toNat_natCast] at he am ai ac ab
  simp only [Value.slice.injEq] at he
  obtain ⟨rfl, -, rfl⟩ := he
  have H1 := Lib.hid (And.intro (H0.out.1.below b1) (And.intro (H0.out.2.1.trans (b1.mono H0.out.2.1.size)) (And.intro (H0.out.2.2.below b1) (And.intro ac ab))))
  clear hw o1 b1 ac ab c0 c1 am
  obtain ⟨c0, c1⟩ := H1.out.2.2.1
  have hbW : W.heap.size < W1.heap.size := World.block_lt_of_cell? W1 ⟨W.heap.size, 0, none⟩ c0
  go_wp2_with fail
  clear c0 c1
  obtain ⟨W1', hW1⟩ : ∃ Z, Z = W1 := ⟨_, rfl⟩
  rw [← hW1] at H1 hbW
  have HB1 := Lib.hid (show Below W1'.heap.size W1' W1 by rw [hW1]; exact Below.refl _ _)
  clear hW1
  go_loopw [6, 7] (fun lv x wr => ∃ (k : Nat) (la : Option Addr) (lc : Nat) (vs : List Value), k ≤ n ∧ x = .int .i64 (k : Int) ∧ lv = .slice la k lc ∧ Hid (OwnN BBg wr W1'.heap.size 49 (.slice la k lc) vs (tabK g r k) ∧ Below W1'.heap.size W1' wr)) (fun _ x _ => n - (intOf x).toNat)
  case atStart => exact ⟨0, none, 0, [], by omega, rfl, rfl, OwnN.empty _ _ _, HB1.out⟩
  case round =>
    obtain ⟨k, la, lc, vs, hk, rfl, rfl, hh⟩ := hrel
    have HL := Lib.hid hh.out
    clear hh
    obtain ⟨c0, c1⟩ := H1.out.2.2.1.below HL.out.2
    by_cases hlt : k < n
    · have hkl : (k : Int) < (n : Int) := by omega
      have hw := rWithout_any g (.slice ca g.es.length cc) r (k : Int) wr (H1.out.1.below HL.out.2) HV.out.1
      unfold GV at hw
      rw [HV.out.2] at hw
      have HW := Lib.hid hw
      clear hw
      go_wp2_with fail
      refine HW.out.mono ?_
      rintro e W2 ⟨s2, k2, rfl, o2, b2⟩
      rw [HV.out.2, Int.toNat_natCast] at o2 ⊢
      obtain ⟨s2', k2', he, lm, li, lcl, lb⟩ := o2.lst.out1 sBoolG
      rw [withoutL_len, HV.out.2, Int.toNat_natCast] at he lm li lcl lb
      simp only [Value.slice.injEq] at he
      obtain ⟨rfl, -, rfl⟩ := he
      have H2 := Lib.hid (And.intro (HL.out.1.below kBBg b2) (And.intro (HL.out.2.trans (b2.mono HL.out.2.size)) (And.intro lcl lb)))
      clear b2 o2 lcl lb c0 c1 lm HW
      obtain ⟨c0, c1⟩ := H1.out.2.2.1.below H2.out.2.1
      go_wp2_with (at_make; refine wp_make (f := Value.bool) false sBoolG rfl _ rfl _ _ rfl .i64 .i64 _ _ n rfl rfl rfl rfl (by omega) (by unfold maxLen; omega) ?_)
      intro s cap W3 hrow hb3
      have HM := Lib.hid (And.intro hrow hb3)
      clear hrow hb3 c0 c1
      go_wp2_with fail
      go_loopw [10] (fun x wr => ∃ (b : Nat) (l : List Bool), b ≤ n ∧ x = .int .i64 (b : Int) ∧ Hid ((Go.Dfl.Own Value.bool wr W2.heap.size 4 (.slice s n cap) l ∧ Below W2.heap.size W2 wr) ∧ l.length = n ∧ ∀ j, j < b → nth l j = domB g r k j)) (fun x _ => n - (intOf x).toNat)
      case atStart => exact ⟨0, _, by omega, rfl, HM.out, by simp, fun j hj => by omega⟩
      case round =>
        obtain ⟨b, l, hb, rfl, hh⟩ := hrel
        have HK := Lib.hid hh.out
        clear hh
        have hb1 := H2.out.2.1.trans (HK.out.1.2.mono H2.out.2.1.size)
        obtain ⟨c0, c1⟩ := H1.out.2.2.1.below hb1
        by_cases hbt : b < n
        · have hbl : (b : Int) < (n : Int) := by omega
          have r1 : wr.cell? ⟨blk s1, ofs s1 + b, none⟩ = some (.bool (seenB g r (-1) b)) := by
            rw [hb1.cell (p := ⟨blk s1, ofs s1 + b, none⟩) (H1.out.2.2.2.2 b hbt), H1.out.2.2.2.1 b hbt, withoutL_nth (by rw [HV.out.2, Int.toNat_natCast]; exact hbt)]
          have r2 : wr.cell? ⟨blk s2, ofs s2 + b, none⟩ = some (.bool (seenB g r (k : Int) b)) := by
            rw [HK.out.1.2.cell (p := ⟨blk s2, ofs s2 + b, none⟩) (H2.out.2.2.2 b hbt), H2.out.2.2.1 b hbt, withoutL_nth (by rw [HV.out.2, Int.toNat_natCast]; exact hbt)]
          have i1 := ai .i64 (b : Int) (by omega) (by omega)
          have i2 := li .i64 (b : Int) (by omega) (by omega)
          rw [Int.toNat_natCast] at i1 i2
          obtain ⟨r3, i3, f3⟩ := own_bool HK.out.1.1 HK.out.2.1 hbt
          have hset : ∀ c : Bool, c = domB g r k b → (Go.Dfl.Own Value.bool (wr.setCell ⟨blk s, ofs s + b, none⟩ (.bool c)) W2.heap.size 4 (.slice s n cap) (l.set b c) ∧ Below W2.heap.size W2 (wr.setCell ⟨blk s, ofs s + b, none⟩ (.bool c))) ∧ (l.set b c).length = n ∧ ∀ j, j < b + 1 → nth (l.set b c) j = domB g r k j := fun c hc => by
            have hob : (Value.slice s n cap).ownBlock = some (blk s) := by
              obtain ⟨-, ⟨h2, h3⟩ | ⟨q, cap2, cur, hv, -⟩⟩ := HK.out.1.1
              · rw [HK.out.2.1] at h3; omega
              · simp only [Value.slice.injEq] at hv
                obtain ⟨rfl, -, -⟩ := hv; rfl
            refine ⟨⟨HK.out.1.1.set b c, HK.out.1.2.setCell (p := ⟨blk s, ofs s + b, none⟩) (HK.out.1.1.lt _ hob).1 _⟩, by rw [List.length_set]; exact HK.out.2.1, fun j hj => ?_⟩
            rw [nth_set]
            by_cases e : b = j
            · subst e; rw [if_pos ⟨rfl, by rw [HK.out.2.1]; exact hbt⟩, hc]
            · rw [if_neg (fun h => e h.1)]; exact HK.out.2.2 j (by omega)
          have HSET := Lib.hid hset
          clear hset hb1
          cases hA : seenB g r (-1) b
          · rw [hA] at r1
            have HB : Hid (false = domB g r k b) := Lib.hid (by unfold domB; rw [hA]; rfl)
            clear hA r2 i2
            go_wp2_with fail
            go_roundw
            case rel => exact ⟨b + 1, _, by omega, by go_num, HSET.out _ HB.out⟩
            case measure => simp [intOf]; omega
          · rw [hA] at r1
            by_cases hab : k = b
            · have HB : Hid (true = domB g r k b) := Lib.hid (by unfold domB; rw [hA, decide_eq_true hab]; rfl)
              have w2 : ((k : Int) == (b : Int)) = true := by simp; omega
              clear hA hab r2 i2
              go_wp2_with fail
              go_roundw
              case rel => exact ⟨b + 1, _, by omega, by go_num, HSET.out _ HB.out⟩
              case measure => simp [intOf]; omega
            · have w2 : ((k : Int) == (b : Int)) = false := by simp; omega
              by_cases har : k = r
              · have HB : Hid (true = domB g r k b) := Lib.hid (by unfold domB; rw [hA, decide_eq_true har, Bool.or_true]; rfl)
                have w3 : ((k : Int) == (r : Int)) = true := by simp; omega
                clear hA hab har r2 i2
                go_wp2_with fail
                go_roundw
                case rel => exact ⟨b + 1, _, by omega, by go_num, HSET.out _ HB.out⟩
                case measure => simp [intOf]; omega
              · have w3 : ((k : Int) == (r : Int)) = false := by simp; omega
                cases hL : seenB g r (k : Int) b
                · have HB : Hid (true = domB g r k b) := Lib.hid (by unfold domB; rw [hA, hL, Bool.not_false, Bool.or_true]; rfl)
                  rw [hL] at r2
                  clear hA hab har hL
                  go_wp2_with fail
                  go_roundw
                  case rel => exact ⟨b + 1, _, by omega, by go_num, HSET.out _ HB.out⟩
                  case measure => simp [intOf]; omega
                · have HB : Hid (false = domB g r k b) := Lib.hid (by unfold domB; rw [hA, hL, decide_eq_false hab, decide_eq_false har]; rfl)
                  rw [hL] at r2
                  clear hA hab har hL
                  go_wp2_with fail
                  go_roundw
                  case rel => exact ⟨b + 1, _, by omega, by go_num, HSET.out _ HB.out⟩
                  case measure => simp [intOf]; omega
        · obtain rfl : n = b := by omega
          have hfull : l = tabRow g r k := nth_ext (by rw [tabRow_len, HK.out.2.1, HV.out.2, Int.toNat_natCast]) fun i hi => by
            rw [HK.out.2.1] at hi
            rw [tabRow_nth (by rw [HV.out.2, Int.toNat_natCast]; exact hi)]; exact HK.out.2.2 i hi
          have hout := H2.out.1.below kBBg HK.out.1.2
          have hvl := hout.len
          rw [tabK_len] at hvl
          have hsz := hb1.size
          have hfo : ∀ q, (Value.slice s n cap).ownBlock = some q → ¬ Foot (.slice la k lc) vs q := fun q e hf => by
            have h9 := (HK.out.1.1.lt q e).1
            have h10 := (H2.out.1.foot kBBg q hf).2
            omega
          have hrw := HK.out.1.1.mono H2.out.2.1.size
          rw [hfull] at hrw
          have HO2 := Lib.hid (And.intro hout (And.intro hb1 (And.intro hfo (And.intro hrw hvl))))
          have HLEN : Hid (vs.length + [(Value.slice s n cap)].length < 5864062014805) := Lib.hid (by rw [List.length_singleton]; omega)
          have hcl := (hout.out).alloc (.cells #[.slice s n cap] 49)
          have HCL := Lib.hid hcl
          clear hfull hout hvl hb1 hfo hrw hcl
          go_wp2_with (at_builtin; refine wp_appendS (f := fun x : Value => x) sBoolsG rfl rfl _ _ rfl W1'.heap.size (.slice la k lc) vs rfl (.slice (some ⟨wr.heap.size, 0, none⟩) 1 1) [.slice s n cap] rfl HCL.out (src_one (fun x : Value => x) (cell_alloc1 wr (.slice s n cap) 49)) (fun y hy => by rw [List.mem_singleton.1 hy]; rfl) HLEN.out (Nat.le_refl _) (le_alloc _ hsz) ?_; intro v' w3 hown hgr hat; obtain ⟨s9, c9, rfl⟩ := hown.shape (n := k + 1) (by rw [List.length_append, HO2.out.2.2.2.2]; rfl); have HO := Lib.hid (And.intro hown (And.intro hgr hat)); clear hown hgr hat)
          have hbA := (Below.refl wr.heap.size wr).alloc (Nat.le_refl _) (.cells #[.slice s n cap] 49)
          have hpush := (HO2.out.1.below kBBg hbA).push kBBg HO.out.1 HO.out.2.1 HO.out.2.2 (HO2.out.2.2.2.1.below hbA) HO2.out.2.2.1
          have hbl := (HO2.out.2.1.alloc hsz (.cells #[.slice s n cap] 49)).grown HO.out.2.1 (by rw [World.size_alloc]; omega) (fun q e => (HO2.out.1.out.lt q e).1)
          rw [← tabK_succ] at hpush
          have HP2 := Lib.hid (And.intro hpush hbl)
          clear hbA hpush hbl
          obtain ⟨c0, c1⟩ := H1.out.2.2.1.below HP2.out.2
          go_roundw
          case rel => exact ⟨k + 1, s9, c9, _, by omega, by go_num, rfl, HP2.out⟩
          case measure => simp [intOf]; omega
    · obtain rfl : n = k := by omega
      go_wp2_with fail
      go_ret
      refine ⟨la, lc, vs, by rw [HV.out.2]; rfl, ?_, H1.out.2.1.trans (HL.out.2.mono (Nat.le_of_lt hbW))⟩
      rw [HV.out.2, Int.toNat_natCast]
      exact HL.out.1.grid
end Go.Proofs.Ytlijimdkadobmaa
