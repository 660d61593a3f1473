/- Contract of Bottomup, and of slices.Concat on lists of ints. -/
import Derived.Test.YtchmjgjagaaomaaScd
import Derived.Lib.AppendZeros
namespace Go.Proofs.Ytchmjgjagaaomaa
open Go.RowKit Go.Dfl Go.Gra Go.Tj
/-- An empty row with some capacity. -/
theorem own_room {α : Type} (f : α → Value) {w w' : World} {base : Nat} {e : TypeId} {c : Nat} {cur : Array Value} (hw : w' = w.drew.alloc (.cells cur e)) (hb : base ≤ w.heap.size) (hs : cur.size = c) (hm : c ≤ maxLen) :
    Go.Dfl.Own f w' base e (.slice (some ⟨w.heap.size, 0, none⟩) 0 c) [] ∧ Below w.heap.size w w' := by
  subst hw
  refine ⟨⟨by simp, .inr ⟨w.heap.size, c, cur, rfl, hb, heap_alloc_new w.drew _, by simp, hm, by simpa using hs, by simp⟩⟩, ?_⟩
  exact ((Qt.drew w).below w.heap.size).alloc (Nat.le_refl _) _
def GrowR (W : World) (e : Ending) (W' : World) : Prop := ∃ a c, e = .returned (.slice a 0 c) ∧ OwnI W' W.heap.size 3 (.slice a 0 c) [] ∧ Below W.heap.size W W'
set_option maxHeartbeats 1600000 in
set_option maxRecDepth 100000 in
theorem grow_any (n : Nat) (hn : n ≤ 1000000) (W : World) : Calls Try.prog 48 #[.slice none 0 0, .int .i64 (n : Int)] W (GrowR W) := by
  go_enter Try.func48, Try.ntmps48
  have w0 : decide ((n : Int) < 0) = false := decide_eq_false (by omega)
  by_cases h0 : n = 0
  · subst h0
    go_wp2_with fail
    go_ret
    exact ⟨none, 0, rfl, Go.Dfl.Own.nil _ _ _ _, Below.refl _ _⟩
  · have w2 : decide (0 < n) = true := decide_eq_true (by omega)
    obtain ⟨i, hi, hz0, hz1, hz2⟩ := (sIntG).info
    have hrun := Lib.run_append_nil_zeros (P := Try.prog) W 32 3 0 3 i (.int .i64 0) .i64 .i64 sIntG.und (by kernel_rfl) hi hz0 n (by omega) (by rw [hz1]; omega) (by omega) (by rw [hz2]; omega)
    have hcap := grownCap_le_maxLen W n 0 3 (by unfold maxLen; omega)
    have hge := grownCap_ge W n 0 3
    generalize grownCap W n 0 3 = c at *
    have hrm := own_room (Value.int .i64) (w := W) (base := W.heap.size) (e := 3) (c := c) (cur := Builtin.zeroCells (Value.int .i64 0).cells n ++ Builtin.zeroCells (Value.int .i64 0).cells (c - n)) rfl (Nat.le_refl _) (by simp [Builtin.zeroCells, Value.cells]; omega) hcap
    have HR := Lib.hid hrm
    generalize (W.drew.alloc (.cells (Builtin.zeroCells (Value.int .i64 0).cells n ++ Builtin.zeroCells (Value.int .i64 0).cells (c - n)) 3)) = Z at *
    have HU := Lib.hid hrun
    clear hrun hrm hi hz0 hz1 hz2 hge hcap h0
    go_wp2_with (at_builtin; refine Lib.wpList_append_run _ rfl _ _ _ _ rfl _ _ rfl rfl _ _ HU.out ?_)
    go_ret
    exact ⟨some ⟨W.heap.size, 0, none⟩, c, rfl, HR.out.1, HR.out.2⟩
def ConcatR (ls : List (List Int)) (W : World) (e : Ending) (W' : World) : Prop := ∃ v, e = .returned v ∧ Ints W' v ls.flatten ∧ Below W.heap.size W W'
set_option maxHeartbeats 3200000 in
set_option maxRecDepth 100000 in
theorem concat_any (v : Value) (vs : List Value) (ls : List (List Int)) (W : World) (h : Grid (Value.int .i64) W v vs ls) (hl : ls.length ≤ 8192) (hf : ls.flatten.length ≤ 8192) : Calls Try.prog 34 #[v] W (ConcatR ls W) := by
  obtain ⟨la, lc, rfl, -, -, -⟩ := rows_rd h
  have HG := Lib.hid h
  have HF := Lib.hid hf
  clear h hf
  go_enter Try.func34, Try.ntmps34
  go_wp2_with fail
  go_loopw [3, 11] (fun s x wr => ∃ i m : Nat, i ≤ ls.length ∧ x = .int .i64 (i : Int) ∧ s = .int .i64 (m : Int) ∧ Hid (m = (ls.take i).flatten.length ∧ W = wr)) (fun _ x _ => ls.length - (intOf x).toNat)
  case atStart => exact ⟨0, 0, by omega, rfl, rfl, rfl, rfl⟩
  case round =>
    obtain ⟨i, m, hi, rfl, rfl, hh⟩ := hrel
    have HL := Lib.hid hh.out.1
    obtain rfl := hh.out.2
    clear hh
    by_cases hil : i < ls.length
    · have hili : (i : Int) < (ls.length : Int) := by omega
      obtain ⟨la', lc', he, -, -, hr⟩ := rows_rd HG.out
      simp only [Value.slice.injEq] at he
      obtain ⟨rfl, -, rfl⟩ := he
      obtain ⟨i1, -, r1, hI⟩ := hr i hil
      obtain ⟨ra, rc, he1, -, -, -, -⟩ := hI.out1 sIntG
      rw [he1] at r1
      obtain ⟨R, hR⟩ : ∃ R, R = nth ls i := ⟨_, rfl⟩
      rw [← hR] at r1
      have hfl : (ls.take (i + 1)).flatten = (ls.take i).flatten ++ R := by rw [take_snoc _ _ hil, List.flatten_append, ← hR]; simp
      have hm2 : m + R.length = (ls.take (i + 1)).flatten.length := by rw [hfl, List.length_append, HL.out]
      have hle : m + R.length ≤ 8192 := by
        rw [hm2]; have h8 := offs_le ls (i + 1); unfold offs at h8; have := HF.out; omega
      have w0 : decide ((m : Int) + (R.length : Int) < 0) = false := decide_eq_false (by omega)
      have HM := Lib.hid hm2
      clear hr he1 hR hfl hI hm2
      go_wp2_with fail
      go_roundw
      case rel => exact ⟨i + 1, m + R.length, by omega, by go_num, by go_num, HM.out, by first | rfl | trivial⟩
      case measure => simp [intOf]; omega
    · obtain rfl : i = ls.length := by omega
      have hm8 : m ≤ 8192 := by have h9 := HL.out; rw [List.take_length] at h9; have := HF.out; omega
      have hg := grow_any m (by omega) W
      have HGR := Lib.hid hg
      clear hg hil
      go_wp2_with fail
      refine HGR.out.mono ?_
      rintro e W1 ⟨oa, oc, rfl, ho, b1⟩
      obtain ⟨W1', hW1⟩ : ∃ Z, Z = W1 := ⟨_, rfl⟩
      obtain ⟨B, hB⟩ : ∃ B, B = W.heap.size := ⟨_, rfl⟩
      have hO0 := ho
      have hb0 := b1
      rw [← hB] at hO0
      have H1 := Lib.hid (And.intro hO0 (And.intro hb0 (show B ≤ W1.heap.size by rw [hB]; exact b1.size)))
      have HBB := Lib.hid hB
      clear ho b1 hO0 hb0 hB hW1 HGR hm8
      go_wp2_with fail
      go_loopw [6, 27] (fun o x wr => ∃ (i m : Nat) (oa : Option Addr) (oc : Nat), i ≤ ls.length ∧ x = .int .i64 (i : Int) ∧ o = .slice oa m oc ∧ Hid (m = (ls.take i).flatten.length ∧ OwnI wr B 3 (.slice oa m oc) (ls.take i).flatten ∧ Below W.heap.size W wr)) (fun _ x _ => ls.length - (intOf x).toNat)
      case atStart => exact ⟨0, 0, oa, oc, by omega, rfl, rfl, rfl, H1.out.1, H1.out.2.1⟩
      case round =>
        obtain ⟨i, m, oa, oc, hi, rfl, rfl, hh⟩ := hrel
        have HL := Lib.hid hh.out
        clear hh
        by_cases hil : i < ls.length
        · have hili : (i : Int) < (ls.length : Int) := by omega
          obtain ⟨la', lc', he, -, -, hr⟩ := rows_rd (HG.out.below HL.out.2.2)
          simp only [Value.slice.injEq] at he
          obtain ⟨rfl, -, rfl⟩ := he
          obtain ⟨i1, -, r1, hI⟩ := hr i hil
          obtain ⟨ra, rc, he1, -, -, -, -⟩ := hI.out1 sIntG
          rw [he1] at r1 hI
          obtain ⟨R, hR⟩ : ∃ R, R = nth ls i := ⟨_, rfl⟩
          rw [← hR] at r1 hI
          have hfl : (ls.take (i + 1)).flatten = (ls.take i).flatten ++ R := by rw [take_snoc _ _ hil, List.flatten_append, ← hR]; simp
          have hlen : (ls.take i).flatten.length + R.length < 5864062014805 := by
            have h8 := offs_le ls (i + 1)
            unfold offs at h8
            rw [hfl, List.length_append] at h8
            have := HF.out
            omega
          have HX := Lib.hid (And.intro hfl (And.intro hlen hI.src))
          have hsz := HL.out.2.2.size
          have hbz : B ≤ wr.heap.size := by rw [HBB.out]; exact hsz
          clear hr he1 hR hfl hlen hI
          go_wp2_with (at_builtin; refine wp_appendS (f := Value.int .i64) sIntG rfl rfl _ _ rfl B (.slice oa m oc) (ls.take i).flatten rfl (.slice ra R.length rc) R rfl HL.out.2.1 HX.out.2.2 (fun _ _ => rfl) HX.out.2.1 (by omega) hbz ?_; intro v' w3 hown hgr hat; rw [← HX.out.1] at hown; obtain ⟨m2, hm2⟩ : ∃ m2, m2 = (ls.take (i + 1)).flatten.length := ⟨_, rfl⟩; obtain ⟨s9, c9, rfl⟩ := hown.shape hm2.symm; have HO := Lib.hid (And.intro hown (And.intro hgr hm2)); clear hown hgr hat hm2)
          go_roundw
          case rel => exact ⟨i + 1, m2, s9, c9, by omega, by go_num, rfl, HO.out.2.2, HO.out.1, HL.out.2.2.grown HO.out.2.1 hsz (fun q e => by rw [← HBB.out]; exact (HL.out.2.1.lt q e).1)⟩
          case measure => simp [intOf]; omega
        · obtain rfl : i = ls.length := by omega
          have HE := Lib.hid (show Ints wr (.slice oa m oc) ls.flatten by have h9 := HL.out.2.1.lst; rw [List.take_length] at h9; exact h9)
          clear hil
          go_wp2_with fail
          go_ret
          exact ⟨_, rfl, HE.out, HL.out.2.2⟩
set_option maxHeartbeats 1600000 in
set_option maxRecDepth 100000 in
theorem gBottomup_any (g : G) (cv : Value) (W : World) (h : Pairs W cv g.es) : Calls Try.prog 19 #[GV g cv] W (BotR g W) := by
  obtain ⟨ca, cc, rfl, -, -, -⟩ := pairs_rd h
  have hal := (Below.refl W.heap.size W).alloc (Nat.le_refl _) (.cells #[.int .i64 g.n, .slice ca g.es.length cc] 24)
  have H0 := Lib.hid (And.intro (h.below hal) (And.intro hal (BoxG.new W g.n (.slice ca g.es.length cc) 24)))
  clear h hal
  unfold GV
  go_enter Try.func19, Try.ntmps19
  go_wp2_with fail
  have hck := gCheck_any g (.slice ca g.es.length cc) _ H0.out.1
  unfold GV at hck
  refine hck.mono ?_
  rintro e W1 ⟨rfl, r1⟩
  have H1 := Lib.hid (And.intro (H0.out.1.below r1) (And.intro (H0.out.2.1.trans (r1.mono H0.out.2.1.size)) (H0.out.2.2.below r1)))
  clear r1 hck
  obtain ⟨c0, c1⟩ := H1.out.2.2
  have hfld := parts0
  by_cases hc : gCode g = 0
  · have q0 : (gCode g != 0) = false := by simpa using hc
    have HV := Lib.hid (gCode_ok.1 hc)
    have HC := Lib.hid hc
    clear hc
    go_wp2_with fail
    have hsp := gSplit_any g (.slice ca g.es.length cc) _ H1.out.1 HV.out
    unfold GV at hsp
    refine hsp.mono ?_
    rintro e W2 ⟨ls, of, lv, vs, ov, rfl, hpa, hl, ho, b2⟩
    have hG := OwnN.grid hl
    have hcm : CmpIs g ls of := .inr ⟨HC.out, hpa⟩
    obtain ⟨la, lc, rfl, -, -, -⟩ := rows_rd hG
    have hco := concat_any _ _ ls W2 hG hcm.le.2 hcm.le.1
    have H2 := Lib.hid (And.intro hcm (And.intro (H1.out.2.1.trans (b2.mono H1.out.2.1.size)) hco))
    clear hpa hl ho b2 hsp hG hcm hco c0 c1
    go_wp2_with fail
    refine H2.out.2.2.mono ?_
    rintro e W3 ⟨v, rfl, hI, b3⟩
    have H3 := Lib.hid (And.intro hI (H2.out.2.1.trans (b3.mono H2.out.2.1.size)))
    clear hI b3
    go_wp2_with fail
    go_ret2
    exact ⟨ls, of, v, by rw [HC.out]; rfl, H2.out.1, H3.out.1, H3.out.2⟩
  · have q0 : (gCode g != 0) = true := by simpa using hc
    have HC := Lib.hid hc
    clear hc
    go_wp2_with fail
    go_ret2
    exact ⟨[], [], _, rfl, .inl ⟨HC.out, rfl, rfl⟩, ints_nil _, H1.out.2.1⟩
end Go.Proofs.Ytchmjgjagaaomaa
