/- Contracts of Sites and of the reference's Sites. -/
import Derived.Test.YtnklnklkblgnfaaUnv
import Derived.Test.YtnklnklkblgnfaaCmp
import Derived.Test.YtnklnklkblgnfaaMapR
import Derived.Deep.Cut
namespace Go.Proofs.Ytnklnklkblgnfaa
open Go.RowKit Go.Dfl Go.Gra Go.Obs
def elS : El (Int × Int × ByteArray) := ⟨3, fun x => [.int .i64 x.1, .int .i64 x.2.1, .string x.2.2], fun _ => rfl, fun x v hv => by simp at hv; rcases hv with rfl | rfl | rfl <;> rfl, by omega⟩
theorem sSf : SliceOf Try.prog 40 43 (.agg #[.int .i64 0, .int .i64 0, .string .empty]) 3 32 := ⟨Try.underlying40, info_parts (P := Try.prog) (e := 43) (by kernel_rfl)⟩
/-- A unit, in memory. -/
def UnIn (W : World) (v0 v1 : Value) (u : Un) : Prop := InS vCl W v0 u.cs ∧ InS vFu W v1 u.fs
theorem UnIn.below {W W' : World} {v0 v1 : Value} {u : Un} (h : UnIn W v0 v1 u) (hb : Below W.heap.size W W') : UnIn W' v0 v1 u := ⟨h.1.below hb, h.2.below hb⟩
abbrev unV (u : Un) (v0 v1 : Value) : Value := .agg #[v0, v1, .int .i64 u.mn]
/-- A boxed unit. -/
structure UnB (b : Nat) (u : Un) (v0 v1 : Value) (Z : World) : Prop where
  box : Z.cell? ⟨b, 0, none⟩ = some v0 ∧ Z.cell? ⟨b, 1, none⟩ = some v1 ∧ Z.cell? ⟨b, 2, none⟩ = some (.int .i64 u.mn)
  un : UnIn Z v0 v1 u
theorem UnB.below {b : Nat} {u : Un} {v0 v1 : Value} {Z Z' : World} (h : UnB b u v0 v1 Z) (hb : Below Z.heap.size Z Z') : UnB b u v0 v1 Z' :=
  ⟨⟨(hb.cell (World.block_lt_of_cell? _ _ h.box.1)).trans h.box.1, (hb.cell (World.block_lt_of_cell? _ _ h.box.2.1)).trans h.box.2.1, (hb.cell (World.block_lt_of_cell? _ _ h.box.2.2)).trans h.box.2.2⟩, h.un.below hb⟩
theorem UnB.new {W : World} {u : Un} {v0 v1 : Value} (h : UnIn W v0 v1 u) : UnB W.heap.size u v0 v1 (W.alloc (.cells #[v0, v1, .int .i64 u.mn] 39)) := by
  have hal := (Below.refl W.heap.size W).alloc (Nat.le_refl _) (.cells #[v0, v1, .int .i64 u.mn] 39)
  have hbx := cells_new (W := W) (cs := [v0, v1, .int .i64 u.mn]) (t := 39) rfl
  exact ⟨⟨hbx 0 _ rfl, hbx 1 _ rfl, hbx 2 _ rfl⟩, h.below hal⟩
def SitesR (u : Un) (W : World) (e : Ending) (W' : World) : Prop := ∃ a c, e = .returned (.slice a (sites u).length c) ∧ OwnE elS W' W.heap.size 43 (.slice a (sites u).length c) (sites u) ∧ Below W.heap.size W W'
set_option maxHeartbeats 3200000 in
set_option maxRecDepth 100000 in
theorem sites_any (u : Un) (v0 v1 : Value) (W : World) (h : UnIn W v0 v1 u) (hn : cdN u.fs ≤ 1048576) : Calls Try.prog 12 #[unV u v0 v1] W (SitesR u W) := by
  have H0 := Lib.hid (UnB.new h)
  have hal := (Below.refl W.heap.size W).alloc (Nat.le_refl _) (.cells #[v0, v1, .int .i64 u.mn] 39)
  obtain ⟨fa, fc, rfl, hfl, hfi, hfc⟩ := InS.fu H0.out.un.2
  obtain ⟨c0, c1, c2⟩ := H0.out.box
  have HF := Lib.hid (And.intro hfi hfc)
  have HA := Lib.hid hal
  clear h hal hfi hfc
  go_enter Try.func12, Try.ntmps12
  go_upto_region 2 with fail
  refine gen_code (fun Z => Z = W.alloc (.cells #[v0, .slice fa u.fs.length fc, .int .i64 u.mn] 39)) rfl ?_
  intro W1 hW1
  rw [← hW1] at H0 HA HF c0 c1 c2
  have HW1 := Lib.hid hW1
  clear hW1
  go_wp2_with fail
  clear c0 c1 c2
  go_loopw [3, 11] (fun v y wr => ∃ (i : Nat) (a : Option Addr) (c : Nat), i ≤ u.fs.length ∧ y = .int .i64 (i : Int) ∧ v = .slice a (siU u.fs i 0).length c ∧ Hid (OwnE elS wr W1.heap.size 43 (.slice a (siU u.fs i 0).length c) (siU u.fs i 0) ∧ Below W1.heap.size W1 wr)) (fun _ y _ => u.fs.length - (intOf y).toNat)
  case atStart => exact ⟨0, none, 0, by omega, rfl, rfl, Go.Dfl.OwnE.nil _ _ _ _, Below.refl _ _⟩
  case round =>
    obtain ⟨i, a, c, hi, rfl, rfl, hh⟩ := hrel
    have HL := Lib.hid hh.out
    clear hh
    by_cases hil : i < u.fs.length
    · have hili : (i : Int) < (u.fs.length : Int) := by omega
      obtain ⟨hbl, vv, cv, ⟨-, -, -, -, hvv, hcv⟩, hcs⟩ := HF.out.2 i hil
      obtain ⟨va, vc, rfl⟩ := hvv.shape
      clear hvv
      obtain ⟨o0, o1, o2, o3, o4, o5, o6⟩ := hcs wr HL.out.2
      have j1 := HF.out.1 (i : Int) (by omega) (by omega)
      rw [Int.toNat_natCast] at j1
      obtain ⟨ca, cc, rfl, hcl, hci, hcc⟩ := InS.is hcv
      obtain ⟨f, hf⟩ : ∃ f, f = nth u.fs i := ⟨_, rfl⟩
      rw [← hf] at o0 o1 o2 o3 o4 o5 o6 hcl hci hcc
      have HO := Lib.hid (And.intro hf (And.intro hci hcc))
      clear hbl hcv hcs hf hci hcc
      go_upto_region 5 with fail
      have hbA := HL.out.2.alloc HL.out.2.size (.cells #[.string f.c, .string f.m, .bool f.st, .int .i64 f.ps, .slice va f.vs.length vc, .string f.r, .slice ca f.cd.length cc] 70)
      have hcn := cells_new (W := wr) (cs := [.string f.c, .string f.m, .bool f.st, .int .i64 f.ps, .slice va f.vs.length vc, .string f.r, .slice ca f.cd.length cc]) (t := 70) rfl
      have hsA := HL.out.1.grown (grownBy_alloc wr (.cells #[.string f.c, .string f.m, .bool f.st, .int .i64 f.ps, .slice va f.vs.length vc, .string f.r, .slice ca f.cd.length cc] 70)) (by cases (Value.slice a (siU u.fs i 0).length c).ownBlock <;> simp)
      refine gen_code (fun Z => OwnE elS Z W1.heap.size 43 (.slice a (siU u.fs i 0).length c) (siU u.fs i 0) ∧ Below W1.heap.size W1 Z ∧ Z.cell? ⟨wr.heap.size, 6, none⟩ = some (.slice ca f.cd.length cc)) ⟨hsA, hbA, hcn 6 _ rfl⟩ ?_
      intro W2 hz
      obtain ⟨fb, hfb⟩ : ∃ fb, fb = wr.heap.size := ⟨_, rfl⟩
      rw [← hfb] at hz ⊢
      have h6 := hz.2.2
      have H2 := Lib.hid (And.intro hz.1 hz.2.1)
      clear hbA hcn hsA hz hfb o0 o1 o2 o3 o4 o5 o6 j1
      go_wp2_with fail
      clear h6
      go_loopw [3, 19] (fun v y w2 => ∃ (k : Nat) (a : Option Addr) (c : Nat), k ≤ f.cd.length ∧ y = .int .i64 (k : Int) ∧ v = .slice a (siU u.fs i k).length c ∧ Hid (OwnE elS w2 W1.heap.size 43 (.slice a (siU u.fs i k).length c) (siU u.fs i k) ∧ Below W1.heap.size W1 w2)) (fun _ y _ => f.cd.length - (intOf y).toNat)
      case atStart => exact ⟨0, a, c, by omega, rfl, rfl, H2.out⟩
      case round =>
        obtain ⟨k, a, c, hk, rfl, rfl, hh⟩ := hrel
        have HK := Lib.hid hh.out
        clear hh
        by_cases hkl : k < f.cd.length
        · have hkli : (k : Int) < (f.cd.length : Int) := by omega
          obtain ⟨hb1, av, hav, hcs⟩ := HO.out.2.2 k hkl
          obtain ⟨aa, ac, rfl⟩ := hav.2.2.2.2.2.2.2.2.2.shape
          clear hav
          obtain ⟨o0, o1, o2, o3, o4, o5, o6, o7, o8, o9⟩ := hcs wr HK.out.2
          have j1 := HO.out.2.1 (k : Int) (by omega) (by omega)
          rw [Int.toNat_natCast] at j1
          obtain ⟨s, hs⟩ : ∃ s, s = nth f.cd k := ⟨_, rfl⟩
          rw [← hs] at o0 o1 o2 o3 o4 o5 o6 o7 o8 o9
          have hle := siU_len (fs := u.fs) (i := i) (k := k) hil (by rw [← HO.out.1]; omega)
          have HS := Lib.hid (And.intro hs (Nat.le_trans hle hn))
          clear hb1 hcs hs hle
          go_upto_region 8 with fail
          have hbA := HK.out.2.alloc HK.out.2.size (.cells #[.int .i64 s.op, .int .i64 s.d, .int .i64 s.a, .int .i64 s.b, .int .i64 s.n, .string s.c, .string s.m, .slice aa s.ar.length ac, .int .i64 s.g, .int .i64 s.ct] 72)
          have hcn := cells_new (W := wr) (cs := [.int .i64 s.op, .int .i64 s.d, .int .i64 s.a, .int .i64 s.b, .int .i64 s.n, .string s.c, .string s.m, .slice aa s.ar.length ac, .int .i64 s.g, .int .i64 s.ct]) (t := 72) rfl
          have hsA := HK.out.1.grown (grownBy_alloc wr (.cells #[.int .i64 s.op, .int .i64 s.d, .int .i64 s.a, .int .i64 s.b, .int .i64 s.n, .string s.c, .string s.m, .slice aa s.ar.length ac, .int .i64 s.g, .int .i64 s.ct] 72)) (by cases (Value.slice a (siU u.fs i k).length c).ownBlock <;> simp)
          refine gen_code (fun Z => OwnE elS Z W1.heap.size 43 (.slice a (siU u.fs i k).length c) (siU u.fs i k) ∧ Below W1.heap.size W1 Z ∧ Z.cell? ⟨wr.heap.size, 0, none⟩ = some (.int .i64 s.op) ∧ Z.cell? ⟨wr.heap.size, 5, none⟩ = some (.string s.c)) ⟨hsA, hbA, hcn 0 _ rfl, hcn 5 _ rfl⟩ ?_
          intro Z hz
          obtain ⟨sb, hsb⟩ : ∃ sb, sb = wr.heap.size := ⟨_, rfl⟩
          rw [← hsb] at hz ⊢
          obtain ⟨s0, s5⟩ := hz.2.2
          have HZ := Lib.hid (And.intro hz.1 hz.2.1)
          have hsz := hz.2.1.size
          clear hbA hcn hsA hz hsb o0 o1 o2 o3 o4 o5 o6 o7 o8 o9 j1
          by_cases hop : s.op = 6
          · have w1 : (s.op == 6) = true := by simpa using hop
            have hmore := siU_yes (fs := u.fs) (i := i) (k := k) (by rw [← HO.out.1, ← HS.out.1]; exact hop)
            rw [← HO.out.1, ← HS.out.1] at hmore
            have HM := Lib.hid hmore
            have hlen1 : ((siU u.fs i k).length + 1) * 32 ≤ 140737488355328 := by have := HS.out.2; omega
            have hlen2 : (siU u.fs i k).length + 1 ≤ 1000000000000 := by have := HS.out.2; omega
            have HO9 := Lib.hid (OwnE.grown HZ.out.1 (grownBy_alloc Z (.cells #[.int .i64 (i : Int), .int .i64 (k : Int), .string s.c] 43)) (by cases (Value.slice a (siU u.fs i k).length c).ownBlock <;> simp))
            clear hop hmore
            go_wp2_with (at_builtin; refine wp_appendE (E := elS) sSf rfl rfl _ _ rfl (v := .slice a (siU u.fs i k).length c) (l := siU u.fs i k) (base := W1.heap.size) rfl Z.heap.size rfl HO9.out ((i : Int), (k : Int), s.c) (cells_new (W := Z) (cs := [.int .i64 (i : Int), .int .i64 (k : Int), .string s.c]) (t := 43) rfl) hlen1 hlen2 (le_alloc _ hsz) ?_; intro v' w3 hown hgr hat; rw [← HM.out] at hown; obtain ⟨m2, hm2⟩ : ∃ m2, m2 = (siU u.fs i (k + 1)).length := ⟨_, rfl⟩; obtain ⟨s9, c9, rfl⟩ := hown.shape hm2.symm; have HP := Lib.hid (And.intro hown (And.intro hgr hm2)); clear hown hgr hat hm2)
            go_roundw
            case rel => exact ⟨k + 1, s9, c9, by omega, by go_num, by rw [HP.out.2.2], by rw [← HP.out.2.2]; exact ⟨HP.out.1, (HZ.out.2.alloc hsz _).grown HP.out.2.1 (by rw [World.size_alloc]; omega) (fun q e => (OwnE.lt HZ.out.1 q e).1)⟩⟩
            case measure => simp [intOf]; omega
          · have w1 : (s.op == 6) = false := by simpa using hop
            have hmore := siU_no (fs := u.fs) (i := i) (k := k) (by rw [← HO.out.1, ← HS.out.1]; exact hop)
            have HM := Lib.hid hmore
            clear hop hmore
            go_wp2_with fail
            go_roundw
            case rel => exact ⟨k + 1, a, c, by omega, by go_num, by rw [HM.out], by rw [HM.out]; exact HZ.out⟩
            case measure => simp [intOf]; omega
        · obtain rfl : k = f.cd.length := by omega
          have hnx := siU_next u.fs i
          rw [← HO.out.1] at hnx
          have HU := Lib.hid hnx
          clear hkl hnx
          go_wp2_with fail
          go_roundw
          case rel => exact ⟨i + 1, a, c, by omega, by go_num, by rw [HU.out], by rw [HU.out]; exact HK.out⟩
          case measure => simp [intOf]; omega
    · obtain rfl : i = u.fs.length := by omega
      have HE : Hid (Below W.heap.size W wr ∧ W.heap.size ≤ W1.heap.size) := Lib.hid ⟨bel_trans HA.out HL.out.2, HA.out.size⟩
      clear hil
      go_wp2_with fail
      go_ret
      exact ⟨a, c, rfl, HL.out.1.mono9 HE.out.2, HE.out.1⟩
set_option maxHeartbeats 3200000 in
set_option maxRecDepth 100000 in
theorem rSites_any (u : Un) (v0 v1 : Value) (W : World) (h : UnIn W v0 v1 u) (hn : cdN u.fs ≤ 1048576) : Calls Try.prog 13 #[unV u v0 v1] W (SitesR u W) := by
  have H0 := Lib.hid (UnB.new h)
  have hal := (Below.refl W.heap.size W).alloc (Nat.le_refl _) (.cells #[v0, v1, .int .i64 u.mn] 39)
  obtain ⟨fa, fc, rfl, hfl, hfi, hfc⟩ := InS.fu H0.out.un.2
  have HF := Lib.hid (And.intro hfi hfc)
  have HA := Lib.hid hal
  clear h hal hfi hfc
  go_enter Try.func13, Try.ntmps13
  go_upto_region 2 with fail
  refine gen_code (fun Z => Z = W.alloc (.cells #[v0, .slice fa u.fs.length fc, .int .i64 u.mn] 39)) rfl ?_
  intro W1 hW1
  rw [← hW1] at H0 HA HF
  clear hW1
  go_wp2_with fail
  go_loopw [3, 4] (fun v y wr => ∃ (i : Nat) (a : Option Addr) (c : Nat), i ≤ u.fs.length ∧ y = .int .i64 (i : Int) ∧ v = .slice a (siU u.fs i 0).length c ∧ Hid (OwnE elS wr W1.heap.size 43 (.slice a (siU u.fs i 0).length c) (siU u.fs i 0) ∧ Below W1.heap.size W1 wr)) (fun _ y _ => u.fs.length - (intOf y).toNat)
  case atStart => exact ⟨0, none, 0, by omega, rfl, rfl, Go.Dfl.OwnE.nil _ _ _ _, Below.refl _ _⟩
  case round =>
    obtain ⟨i, a, c, hi, rfl, rfl, hh⟩ := hrel
    have HL := Lib.hid hh.out
    clear hh
    obtain ⟨c0, c1, c2⟩ := (H0.out.below HL.out.2).box
    by_cases hil : i < u.fs.length
    · have hili : (i : Int) < (u.fs.length : Int) := by omega
      go_wp2_with fail
      clear c0 c1 c2
      go_loopw [3, 5] (fun v y w2 => ∃ (k : Nat) (a : Option Addr) (c : Nat), k ≤ (nth u.fs i).cd.length ∧ y = .int .i64 (k : Int) ∧ v = .slice a (siU u.fs i k).length c ∧ Hid (OwnE elS w2 W1.heap.size 43 (.slice a (siU u.fs i k).length c) (siU u.fs i k) ∧ Below W1.heap.size W1 w2)) (fun _ y _ => (nth u.fs i).cd.length - (intOf y).toNat)
      case atStart => exact ⟨0, a, c, by omega, rfl, rfl, HL.out⟩
      case round =>
        obtain ⟨k, a, c, hk, rfl, rfl, hh⟩ := hrel
        have HK := Lib.hid hh.out
        clear hh
        obtain ⟨c0, c1, c2⟩ := (H0.out.below HK.out.2).box
        obtain ⟨hbl, vv, cv, ⟨-, -, -, -, -, hcv⟩, hcs⟩ := HF.out.2 i hil
        obtain ⟨-, -, -, -, -, -, o6⟩ := hcs wr HK.out.2
        have j1 := HF.out.1 (i : Int) (by omega) (by omega)
        rw [Int.toNat_natCast] at j1
        obtain ⟨ca, cc, rfl, hcl, hci, hcc⟩ := InS.is hcv
        obtain ⟨f, hf⟩ : ∃ f, f = nth u.fs i := ⟨_, rfl⟩
        rw [← hf] at o6 hcl hci hcc hk
        have HO := Lib.hid hf
        clear hbl hcv hcs
        by_cases hkl : k < f.cd.length
        · have hkli : (k : Int) < (f.cd.length : Int) := by omega
          obtain ⟨hb1, av, hav, hcs⟩ := hcc k hkl
          obtain ⟨s0, -, -, -, -, s5, -, -, -, -⟩ := hcs wr HK.out.2
          have j2 := hci (k : Int) (by omega) (by omega)
          rw [Int.toNat_natCast] at j2
          obtain ⟨s, hs⟩ : ∃ s, s = nth f.cd k := ⟨_, rfl⟩
          rw [← hs] at s0 s5
          have hle := siU_len (fs := u.fs) (i := i) (k := k) hil (by rw [← HO.out]; omega)
          have HS := Lib.hid (And.intro hs (Nat.le_trans hle hn))
          have hsz := HK.out.2.size
          clear hb1 hcs hs hle hav hci hcc hf
          by_cases hop : s.op = 6
          · have w1 : (s.op == 6) = true := by simpa using hop
            have hmore := siU_yes (fs := u.fs) (i := i) (k := k) (by rw [← HO.out, ← HS.out.1]; exact hop)
            rw [← HO.out, ← HS.out.1] at hmore
            have HM := Lib.hid hmore
            have hlen1 : ((siU u.fs i k).length + 1) * 32 ≤ 140737488355328 := by have := HS.out.2; omega
            have hlen2 : (siU u.fs i k).length + 1 ≤ 1000000000000 := by have := HS.out.2; omega
            have HO9 := Lib.hid (OwnE.grown HK.out.1 (grownBy_alloc wr (.cells #[.int .i64 (i : Int), .int .i64 (k : Int), .string s.c] 43)) (by cases (Value.slice a (siU u.fs i k).length c).ownBlock <;> simp))
            clear hop hmore
            go_wp2_with (at_builtin; refine wp_appendE (E := elS) sSf rfl rfl _ _ rfl (v := .slice a (siU u.fs i k).length c) (l := siU u.fs i k) (base := W1.heap.size) rfl wr.heap.size rfl HO9.out ((i : Int), (k : Int), s.c) (cells_new (W := wr) (cs := [.int .i64 (i : Int), .int .i64 (k : Int), .string s.c]) (t := 43) rfl) hlen1 hlen2 (le_alloc _ hsz) ?_; intro v' w3 hown hgr hat; rw [← HM.out] at hown; obtain ⟨m2, hm2⟩ : ∃ m2, m2 = (siU u.fs i (k + 1)).length := ⟨_, rfl⟩; obtain ⟨s9, c9, rfl⟩ := hown.shape hm2.symm; have HP := Lib.hid (And.intro hown (And.intro hgr hm2)); clear hown hgr hat hm2)
            go_roundw
            case rel => exact ⟨k + 1, s9, c9, by rw [← HO.out]; omega, by go_num, by rw [HP.out.2.2], by rw [← HP.out.2.2]; exact ⟨HP.out.1, (HK.out.2.alloc hsz _).grown HP.out.2.1 (by rw [World.size_alloc]; omega) (fun q e => (OwnE.lt HK.out.1 q e).1)⟩⟩
            case measure => rw [← HO.out]; simp [intOf]; omega
          · have w1 : (s.op == 6) = false := by simpa using hop
            have hmore := siU_no (fs := u.fs) (i := i) (k := k) (by rw [← HO.out, ← HS.out.1]; exact hop)
            have HM := Lib.hid hmore
            clear hop hmore
            go_wp2_with fail
            go_roundw
            case rel => exact ⟨k + 1, a, c, by rw [← HO.out]; omega, by go_num, by rw [HM.out], by rw [HM.out]; exact HK.out⟩
            case measure => rw [← HO.out]; simp [intOf]; omega
        · obtain rfl : k = f.cd.length := by omega
          have hnx := siU_next u.fs i
          rw [← HO.out] at hnx
          have HU := Lib.hid hnx
          clear hkl hnx hf hci hcc
          go_wp2_with fail
          go_roundw
          case rel => exact ⟨i + 1, a, c, by omega, by go_num, by rw [HU.out], by rw [HU.out]; exact HK.out⟩
          case measure => simp [intOf]; omega
    · obtain rfl : i = u.fs.length := by omega
      have HE : Hid (Below W.heap.size W wr ∧ W.heap.size ≤ W1.heap.size) := Lib.hid ⟨bel_trans HA.out HL.out.2, HA.out.size⟩
      clear hil
      go_wp2_with fail
      go_ret
      exact ⟨a, c, rfl, HL.out.1.mono9 HE.out.2, HE.out.1⟩
end Go.Proofs.Ytnklnklkblgnfaa
