/- ObserveGrows: with more steps no fact disappears (the tied card, in its second form). -/
import Derived.Shelf.Small.Strs
import Derived.Test.YtnklnklkblgnfaaGreatDoorProg
import Derived.JoinedCond
import Derived.Deep.DeepHandedRow
import Derived.SevenTiedAt
import Derived.OpenShut
import Derived.Test.YtnklnklkblgnfaaGreatDoorTie
import Derived.Test.YtnklnklkblgnfaaGreatDoorCards
import Derived.Test.YtnklnklkblgnfaaGreatDoorVgd
section
namespace Go.Proofs.YtnklnklkblgnfaaGreatDoor
open Go.RowKit Go.Dfl Go.Obs Go.Hir
open Go.Gra (gen_code gen_calls)
abbrev obsV (f i fr c : Int) (v : Value) : Value := .agg #[.int .i64 f, .int .i64 i, .int .i64 fr, .int .i64 c, v]
def OinR (W0 : World) (x : Is) (W : World) (e : Ending) (W' : World) : Prop := ∃ xv, e = .returned (.tuple #[isV x xv, .bool true]) ∧ InS vI W0 xv x.ar ∧ Below W.heap.size W W'
set_option maxHeartbeats 6400000 in
set_option maxRecDepth 8000 in
theorem oInstr_any (u : Un) (v0 v1 : Value) (f i : Nat) (fr c : Int) (vv : Value) (W : World) (h : UnIn W v0 v1 u) (hf : f < u.fs.length) (hi : i < (nth u.fs f).cd.length) (hs : ∃ a n c, vv = .slice a n c) :
  Calls Tryz.prog 18 #[unV u v0 v1, obsV f i fr c vv] W (OinR W (nth (nth u.fs f).cd i) W) := by
 obtain ⟨sa, sn, sc, rfl⟩ := hs
 obtain ⟨fa, fc, xa, xc, v7, hv1, jf, ji, hv7, hz⟩ := code_at h.2 hf hi
 have hfl := ins_len h.2
 obtain ⟨x, hx⟩ : ∃ x, x = nth (nth u.fs f).cd i := ⟨_, rfl⟩
 rw [← hx] at hv7 hz ⊢
 obtain ⟨aa, ac, rfl⟩ := hv7.shape
 obtain ⟨an, han⟩ : ∃ an, an = x.ar.length := ⟨_, rfl⟩
 rw [← han] at hv7 hz
 obtain ⟨F, hF⟩ : ∃ F, F = u.fs.length := ⟨_, rfl⟩
 obtain ⟨L, hL⟩ : ∃ L, L = (nth u.fs f).cd.length := ⟨_, rfl⟩
 rw [← hF] at hv1 jf hf hfl
 rw [← hL] at ji hz hi
 subst hv1
 have hE1 := (Env.refl W).alloc [v0, .slice fa F fc, .int .i64 u.mn] 27
 have hE2 := hE1.alloc [.int .i64 (f : Int), .int .i64 (i : Int), .int .i64 fr, .int .i64 c, .slice sa sn sc] 53
 have hE3 := (hE2.below ((Below.refl _ _).alloc (Nat.le_refl _) (.cells #[.int .i64 0, .int .i64 0, .int .i64 0, .int .i64 0, .int .i64 0, .string ⟨#[]⟩, .string ⟨#[]⟩, .slice none 0 0, .int .i64 0, .int .i64 0] 79))).add (q := fkH _ (.cells #[.int .i64 0, .int .i64 0, .int .i64 0, .int .i64 0, .int .i64 0, .string ⟨#[]⟩, .string ⟨#[]⟩, .slice none 0 0, .int .i64 0, .int .i64 0] 79)) (heap_alloc_new _ _)
 simp only [World.size_alloc] at hE3
 have HE := Lib.hid hE3
 have HC := Lib.hid (And.intro hv7 (And.intro hz han))
 clear h hx hF hL hE1 hE2 hE3 hz han hv7
 unfold unV obsV
 go_enter Tryz.func18, Tryz.ntmps18
 go_upto_region 1 with fail
 refine gen_code (fun Z => Env W [fkH (W.heap.size + 2) (.cells #[.int .i64 0, .int .i64 0, .int .i64 0, .int .i64 0, .int .i64 0, .string ⟨#[]⟩, .string ⟨#[]⟩, .slice none 0 0, .int .i64 0, .int .i64 0] 79), fkC (W.heap.size + 1) [.int .i64 (f : Int), .int .i64 (i : Int), .int .i64 fr, .int .i64 c, .slice sa sn sc], fkC W.heap.size [v0, .slice fa F fc, .int .i64 u.mn]] Z) HE.out ?_
 intro Z hZ
 obtain ⟨bu, hbu⟩ : ∃ b, b = W.heap.size := ⟨_, rfl⟩
 obtain ⟨bo, hbo⟩ : ∃ b, b = W.heap.size + 1 := ⟨_, rfl⟩
 obtain ⟨br, hbr⟩ : ∃ b, b = W.heap.size + 2 := ⟨_, rfl⟩
 have HB := Lib.hid (And.intro hbu (And.intro hbo hbr))
 rw [← hbr, ← hbo, ← hbu] at hZ ⊢
 have HZ := Lib.hid hZ
 have o0 := hZ.cell 1 rfl 0 rfl
 have o1 := hZ.cell 1 rfl 1 rfl
 have u1 := hZ.cell 2 rfl 1 rfl
 have p6 := (HC.out.2.1 Z hZ.bel).1
 have t1 : decide ((f : Int) < 0) = false := decide_eq_false (by omega)
 have t2 : decide ((F : Int) ≤ (f : Int)) = false := decide_eq_false (by omega)
 have t3 : decide (F ≤ f) = false := decide_eq_false (by omega)
 have t4 : decide ((i : Int) < 0) = false := decide_eq_false (by omega)
 have t5 : decide ((L : Int) ≤ (i : Int)) = false := decide_eq_false (by omega)
 have t6 : decide (L ≤ i) = false := decide_eq_false (by omega)
 clear hZ hbu hbo hbr HE
 go_quiet (fail)
 have HQ := Lib.hid (fun q : Nat => HZ.out.below (below_drewN (Below.refl Z.heap.size Z) q))
 go_upto_region 3 with fail
 clear o0 o1 u1 p6 t1 t2 t3 t4 t5 t6
 refine gen_code (fun Z' => Env W [fkH br (.cells #[.int .i64 0, .int .i64 0, .int .i64 0, .int .i64 0, .int .i64 0, .string ⟨#[]⟩, .string ⟨#[]⟩, .slice none 0 0, .int .i64 0, .int .i64 0] 79), fkC bo [.int .i64 (f : Int), .int .i64 (i : Int), .int .i64 fr, .int .i64 c, .slice sa sn sc], fkC bu [v0, .slice fa F fc, .int .i64 u.mn]] Z') (HQ.out _) ?_
 intro Z2 hZ2
 have hD := hZ2.drew
 have o0 := hD.cell 1 rfl 0 rfl
 have o1 := hD.cell 1 rfl 1 rfl
 have u1 := hD.cell 2 rfl 1 rfl
 obtain ⟨p6, hx⟩ := HC.out.2.1 Z2.drew hD.bel
 have HS := Lib.hid (show (fun w' : World => w'.cell? ⟨bo, 0, none⟩ = some (.int .i64 (f : Int)) ∧ w'.cell? ⟨bo, 1, none⟩ = some (.int .i64 (i : Int)) ∧ w'.cell? ⟨bu, 1, none⟩ = some (.slice fa F fc) ∧ w'.cell? ⟨blk fa, ofs fa + f * 7 + 6, none⟩ = some (.slice xa L xc) ∧ w'.cell? ⟨blk xa, ofs xa + i * 10, none⟩ = some (.int .i64 x.op) ∧ w'.cell? ⟨blk xa, ofs xa + i * 10 + 1, none⟩ = some (.int .i64 x.d) ∧ w'.cell? ⟨blk xa, ofs xa + i * 10 + 2, none⟩ = some (.int .i64 x.a) ∧ w'.cell? ⟨blk xa, ofs xa + i * 10 + 3, none⟩ = some (.int .i64 x.b) ∧ w'.cell? ⟨blk xa, ofs xa + i * 10 + 4, none⟩ = some (.int .i64 x.n) ∧ w'.cell? ⟨blk xa, ofs xa + i * 10 + 5, none⟩ = some (.string x.c) ∧ w'.cell? ⟨blk xa, ofs xa + i * 10 + 6, none⟩ = some (.string x.m) ∧ w'.cell? ⟨blk xa, ofs xa + i * 10 + 7, none⟩ = some (.slice aa an ac) ∧ w'.cell? ⟨blk xa, ofs xa + i * 10 + 8, none⟩ = some (.int .i64 x.g) ∧ w'.cell? ⟨blk xa, ofs xa + i * 10 + 9, none⟩ = some (.int .i64 x.ct)) Z2.drew from
  ⟨o0, o1, u1, p6, hx 0 _ rfl, hx 1 _ rfl, hx 2 _ rfl, hx 3 _ rfl, hx 4 _ rfl, hx 5 _ rfl, hx 6 _ rfl, hx 7 _ rfl, hx 8 _ rfl, hx 9 _ rfl⟩)
 have HD := Lib.hid hD
 clear hZ2 hD o0 o1 u1 p6 hx
 refine wp_region_mix [0, 1, 2, 3, 4, 5, 6, 7, 8, 9, 10] [11, 12] (fun w' => w'.cell? ⟨bo, 0, none⟩ = some (.int .i64 (f : Int)) ∧ w'.cell? ⟨bo, 1, none⟩ = some (.int .i64 (i : Int)) ∧ w'.cell? ⟨bu, 1, none⟩ = some (.slice fa F fc) ∧ w'.cell? ⟨blk fa, ofs fa + f * 7 + 6, none⟩ = some (.slice xa L xc) ∧ w'.cell? ⟨blk xa, ofs xa + i * 10, none⟩ = some (.int .i64 x.op) ∧ w'.cell? ⟨blk xa, ofs xa + i * 10 + 1, none⟩ = some (.int .i64 x.d) ∧ w'.cell? ⟨blk xa, ofs xa + i * 10 + 2, none⟩ = some (.int .i64 x.a) ∧ w'.cell? ⟨blk xa, ofs xa + i * 10 + 3, none⟩ = some (.int .i64 x.b) ∧ w'.cell? ⟨blk xa, ofs xa + i * 10 + 4, none⟩ = some (.int .i64 x.n) ∧ w'.cell? ⟨blk xa, ofs xa + i * 10 + 5, none⟩ = some (.string x.c) ∧ w'.cell? ⟨blk xa, ofs xa + i * 10 + 6, none⟩ = some (.string x.m) ∧ w'.cell? ⟨blk xa, ofs xa + i * 10 + 7, none⟩ = some (.slice aa an ac) ∧ w'.cell? ⟨blk xa, ofs xa + i * 10 + 8, none⟩ = some (.int .i64 x.g) ∧ w'.cell? ⟨blk xa, ofs xa + i * 10 + 9, none⟩ = some (.int .i64 x.ct)) (by kernel_rfl) (by kernel_rfl) (by kernel_rfl) HS.out ?_
 repeat (
  refine wpHeads_cons (v := ?_) rfl (Or.inl ⟨by rfl, ?_⟩) ?_
  rotate_left
  ·(intro W hW; obtain ⟨x1, x2, x3, x4, x5, x6, x7, x8, x9, x10, x11, x12, x13, x14⟩ := hW; (try go_simp); try with_reducible rfl)
  simp only [Act.put, List.setIfInBounds_toArray, List.getElem_toArray, List.getElem_cons_zero, List.getElem_cons_succ, List.set_cons_succ, List.set_cons_zero])
 refine wpHeads_nil ?_
 generalize Z2.drew = V at *
 have hN : V.heap[br]? = some (.cells #[.int .i64 0, .int .i64 0, .int .i64 0, .int .i64 0, .int .i64 0, .string ⟨#[]⟩, .string ⟨#[]⟩, .slice none 0 0, .int .i64 0, .int .i64 0] 79) := HD.out.fact 0 rfl
 obtain ⟨hcs, hfz, hst, hgr⟩ := stN_block hN (isC' x (.slice aa an ac)) rfl
 have z0 : V.cell? ⟨br, 0, none⟩ = some (.int .i64 0) := hcs 0 (by decide)
 have z1 : V.cell? ⟨br, 1, none⟩ = some (.int .i64 0) := hcs 1 (by decide)
 have z2 : V.cell? ⟨br, 2, none⟩ = some (.int .i64 0) := hcs 2 (by decide)
 have z3 : V.cell? ⟨br, 3, none⟩ = some (.int .i64 0) := hcs 3 (by decide)
 have z4 : V.cell? ⟨br, 4, none⟩ = some (.int .i64 0) := hcs 4 (by decide)
 have z5 : V.cell? ⟨br, 5, none⟩ = some (.string ⟨#[]⟩) := hcs 5 (by decide)
 have z6 : V.cell? ⟨br, 6, none⟩ = some (.string ⟨#[]⟩) := hcs 6 (by decide)
 have z7 : V.cell? ⟨br, 7, none⟩ = some (.slice none 0 0) := hcs 7 (by decide)
 have z8 : V.cell? ⟨br, 8, none⟩ = some (.int .i64 0) := hcs 8 (by decide)
 have z9 : V.cell? ⟨br, 9, none⟩ = some (.int .i64 0) := hcs 9 (by decide)
 have f0 := hfz 0
 have f1 := hfz 1
 have f2 := hfz 2
 have f3 := hfz 3
 have f4 := hfz 4
 have f5 := hfz 5
 have f6 := hfz 6
 have f7 := hfz 7
 have f8 := hfz 8
 have f9 := hfz 9
 have HG := Lib.hid (And.intro hst hgr)
 clear hcs hfz hst hgr hN
 refine wpTails_cons rfl ?_
 go_wp2_with fail
 clear z0 z1 z2 z3 z4 z5 z6 z7 z8 z9 f0 f1 f2 f3 f4 f5 f6 f7 f8 f9
 obtain ⟨V7, hV7⟩ : ∃ V7, V7 = stN br V 0 (isC' x (.slice aa an ac)) := ⟨_, rfl⟩
 rw [← hV7] at HG
 have hb7 : Below W.heap.size W V7 := HD.out.bel.grown HG.out.2 HD.out.bel.size (fun q e => by injection e with e; have := HB.out.2.2; omega)
 obtain ⟨p6, hx⟩ := HC.out.2.1 V7 hb7
 have hbo : (fkC bo [.int .i64 (f : Int), .int .i64 (i : Int), .int .i64 fr, .int .i64 c, .slice sa sn sc]).p V7 := fkC_grown (HD.out.fact 1 rfl) HG.out.2 (fun e => by have h1 := Option.some.inj e; have h2 := HB.out; omega)
 have hbu : (fkC bu [v0, .slice fa F fc, .int .i64 u.mn]).p V7 := fkC_grown (HD.out.fact 2 rfl) HG.out.2 (fun e => by have h1 := Option.some.inj e; have h2 := HB.out; omega)
 have HS7 := Lib.hid (And.intro (hbo 0 _ rfl) (And.intro (hbo 1 _ rfl) (And.intro (hbu 1 _ rfl) (And.intro p6 (And.intro (hx 0 _ rfl) (And.intro (hx 1 _ rfl) (And.intro (hx 2 _ rfl) (And.intro (hx 3 _ rfl) (And.intro (hx 4 _ rfl) (And.intro (hx 5 _ rfl) (And.intro (hx 6 _ rfl) (And.intro (hx 7 _ rfl) (And.intro (hx 8 _ rfl) (hx 9 _ rfl))))))))))))))
 have y0 := HG.out.1 0 _ rfl
 have y1 := HG.out.1 1 _ rfl
 have y2 := HG.out.1 2 _ rfl
 have y3 := HG.out.1 3 _ rfl
 have y4 := HG.out.1 4 _ rfl
 have y5 := HG.out.1 5 _ rfl
 have y6 := HG.out.1 6 _ rfl
 have y7 := HG.out.1 7 _ rfl
 have y8 := HG.out.1 8 _ rfl
 have y9 := HG.out.1 9 _ rfl
 have HB7 := Lib.hid hb7
 have hV7' : V7 = (((((((((V.setCell ⟨br, 0, none⟩ (.int .i64 x.op)).setCell ⟨br, 1, none⟩ (.int .i64 x.d)).setCell ⟨br, 2, none⟩ (.int .i64 x.a)).setCell ⟨br, 3, none⟩ (.int .i64 x.b)).setCell ⟨br, 4, none⟩ (.int .i64 x.n)).setCell ⟨br, 5, none⟩ (.string x.c)).setCell ⟨br, 6, none⟩ (.string x.m)).setCell ⟨br, 7, none⟩ (.slice aa an ac)).setCell ⟨br, 8, none⟩ (.int .i64 x.g)).setCell ⟨br, 9, none⟩ (.int .i64 x.ct) := hV7
 rw [← hV7']
 clear hV7 hV7' hb7 p6 hx hbo hbu
 refine tail_mk HS7.out ?_
 refine wpTails_one rfl ?_
 go_wp2_with fail
 refine thenQ_mk ?_
 go_wp2_with fail
 (try simp only [Exit.inBlock, Exit.then])
 refine bodyPost_ret (v := .tuple #[isV x (.slice aa an ac), .bool true]) (by rw [results_cell_tmp rfl]; go_simp; try rfl) rfl ?_
 exact ⟨_, rfl, HC.out.1, HB7.out⟩
end Go.Proofs.YtnklnklkblgnfaaGreatDoor
end
section
namespace Go.Proofs.YtnklnklkblgnfaaGreatDoor
open Go.Shelf
def ixB_ren : Go.Shelf.Ren := ⟨fun | 137 => 61 | 217 => 90 | 266 => 124 | n => n, fun | 9 => 9 | 5 => 5 | 3 => 3 | n => n, fun | n => n⟩
theorem ixB : Go.Proofs.Lays.n137 Tryz.prog ixB_ren := {
 mixed := by kernel_rfl
 f137 := Tryz.func61.trans (congrArg some (by kernel_rfl))
 f217 := Tryz.func90.trans (congrArg some (by kernel_rfl))
 f266 := Tryz.func124.trans (congrArg some (by kernel_rfl))
 t3 := Tryz.underlying3
 a3 := Tryz.isAgg3
 z3 := Tryz.sizeOf3
 v3 := Tryz.zeroValue3
 t5 := Tryz.underlying5
 a5 := Tryz.isAgg5
 z5 := Tryz.sizeOf5
 v5 := Tryz.zeroValue5
 t9 := Tryz.underlying9
 a9 := Tryz.isAgg9
 z9 := Tryz.sizeOf9
 v9 := Tryz.zeroValue9 }
end Go.Proofs.YtnklnklkblgnfaaGreatDoor
end
section
namespace Go.Hir
open Go.Dfl (nth)
def frmS (n : Nat) : List UInt8 := (nth ([[], [100, 110], [100], [100, 97], [100, 97, 111, 98], [100], [100, 99], [100, 97, 109], [97, 109, 98], [100, 97, 99, 109, 42], [100, 99, 109, 42], [97, 103], [103], [97], [97], [100, 99], [100, 97, 110]] : List (List UInt8)) n)
theorem frm_has : ∀ n, n < 17 → (decide (Lib.indexByte (frmS n) 97 ≥ 0) = hasB (n : Int) 97 ∧ decide (Lib.indexByte (frmS n) 98 ≥ 0) = hasB (n : Int) 98 ∧ decide (Lib.indexByte (frmS n) 42 ≥ 0) = hasB (n : Int) 108) := by decide
end Go.Hir
namespace Go.Proofs.YtnklnklkblgnfaaGreatDoor
open Go.RowKit Go.Dfl Go.Obs Go.Hir
open Go.Gra (gen_code gen_calls)
def GF (W : World) : Prop := 0 < W.heap.size ∧ ∀ n, n < 17 → W.cell? ⟨0, n, none⟩ = some (.string ⟨(frmS n).toArray⟩)
theorem GF.below {W W' : World} (h : GF W) (hb : Below W.heap.size W W') : GF W' := ⟨Nat.lt_of_lt_of_le h.1 hb.size, fun n hn => by rw [hb.cell (p := ⟨0, n, none⟩) h.1]; exact h.2 n hn⟩
theorem iKnown_any (n : Nat) (W : World) (hn : n < 17) : Calls Tryz.prog 60 #[.int .i64 (n : Int)] W fun e W' => e = .returned (.bool true) ∧ W = W' := by
 have t0 : decide ((n : Int) ≥ 0) = true := decide_eq_true (by omega)
 have t1 : decide ((n : Int) < 17) = true := decide_eq_true (by omega)
 have t2 : decide (n < 17) = true := decide_eq_true hn
 go_enter Tryz.func60, Tryz.ntmps60
 go_wp2_with fail
 go_ret
 exact ⟨rfl, rfl⟩
set_option maxHeartbeats 3200000 in
theorem iHas_any (op : Int) (ch : Int) (k : Nat) (W : World) (hop : 0 ≤ op ∧ op ≤ 16) (hk : (ch = 97 ∧ k = 97) ∨ (ch = 98 ∧ k = 98) ∨ (ch = 42 ∧ k = 108)) (hG : GF W) :
  Calls Tryz.prog 39 #[.int .i64 op, .int .u8 ch] W fun e W' => e = .returned (.bool (hasB op k)) ∧ Below W.heap.size W W' := by
 obtain ⟨n, rfl⟩ : ∃ n : Nat, op = (n : Int) := ⟨op.toNat, by omega⟩
 have hn : n < 17 := by omega
 have c0 := hG.2 n hn
 obtain ⟨r, hr⟩ : ∃ r, r = Lib.indexByte (frmS n) ch.toNat.toUInt8 := ⟨_, rfl⟩
 have hb : decide (r ≥ 0) = hasB (n : Int) k := by
  rw [hr]
  obtain ⟨h1, h2, h3⟩ := frm_has n hn
  rcases hk with ⟨rfl, rfl⟩ | ⟨rfl, rfl⟩ | ⟨rfl, rfl⟩
  ·exact h1
  ·exact h2
  ·exact h3
 obtain ⟨qb, hqb⟩ : ∃ q, q = hasB (n : Int) k := ⟨_, rfl⟩
 rw [← hqb] at hb ⊢
 have HR := Lib.hid hr
 have t1 : decide ((n : Int) < 17) = true := decide_eq_true (by omega)
 have t2 : decide (n < 17) = true := decide_eq_true hn
 clear hG hr hqb hk hop
 go_enter Tryz.func39, Tryz.ntmps39
 go_wp2_with fail
 refine (iKnown_any n W hn).mono ?_
 rintro e W' ⟨rfl, rfl⟩
 go_wp2_with fail
 have hix := Any.strings_IndexByte ixB (⟨(frmS n).toArray⟩ : ByteArray) ch W
 change Calls Tryz.prog 61 _ _ _ at hix
 rw [show (⟨(frmS n).toArray⟩ : ByteArray).data.toList = frmS n from rfl, ← HR.out] at hix
 refine hix.mono ?_
 rintro e W' ⟨rfl, rfl⟩
 go_wp2_with fail
 go_ret
 exact ⟨by rw [← hb]; rfl, Below.refl _ _⟩
set_option maxHeartbeats 6400000 in
theorem iUses_any (x : Is) (v : Value) (W : World) (h : InS vI W v x.ar) (hl : x.ar.length ≤ 1048576) (ha : inI x.a) (hb : inI x.b) (hop : 0 ≤ x.op ∧ x.op ≤ 16) (hG : GF W) :
  Calls Tryz.prog 21 #[isV x v] W fun e W' => ∃ a c, e = .returned (.slice a (usL x).length c) ∧ OwnE elI1 W' (W.heap.size + 1) 3 (.slice a (usL x).length c) (usL x) ∧ (∀ y ∈ usL x, inI y) ∧ Below W.heap.size W W' := by
 have HE := Lib.hid (And.intro ((Env.refl W).alloc (isC' x v) 79) (show W.heap.size + 1 ≤ (W.alloc (.cells (isC' x v).toArray 79)).heap.size by rw [World.size_alloc]; omega))
 have HOP := Lib.hid (And.intro hop hG)
 clear hop hG
 obtain ⟨va, vc, rfl⟩ := h.shape
 have HC := Lib.hid (And.intro h (And.intro ha (And.intro hb hl)))
 have hal : x.ar.length ≤ 1048576 := hl
 obtain ⟨an, han⟩ : ∃ an, an = x.ar.length := ⟨_, rfl⟩
 rw [← han] at HE hal ⊢
 have HAN := Lib.hid han
 clear h ha hb hl han
 unfold isV
 go_enter Tryz.func21, Tryz.ntmps21
 go_upto_region 2 with fail
 refine gen_code (fun Z => Env W [fkC W.heap.size (isC' x (.slice va an vc))] Z ∧ W.heap.size + 1 ≤ Z.heap.size) HE.out ?_
 intro Z hZ
 obtain ⟨b, hb⟩ : ∃ b, b = W.heap.size := ⟨_, rfl⟩
 rw [← hb] at hZ ⊢
 have HZ := Lib.hid (And.intro hZ.1 (And.intro hZ.2 hb))
 have d0 := hZ.1.cell 0 rfl 0 rfl
 have d2 := hZ.1.cell 0 rfl 2 rfl
 clear hZ hb HE
 obtain ⟨qa, hqa⟩ : ∃ q, q = cA x := ⟨_, rfl⟩
 have HQA := Lib.hid hqa
 clear hqa
 go_cut [16] (fun q wx => q = .bool qa ∧ Env W [fkC b (isC' x (.slice va an vc))] wx ∧ b + 1 ≤ wx.heap.size)
 case first =>
  go_wp2_with fail
  refine (iHas_any x.op 97 97 _ HOP.out.1 (.inl ⟨rfl, rfl⟩) (HOP.out.2.below HZ.out.1.bel)).mono ?_
  rintro e W1 ⟨rfl, b1⟩
  have H1 := Lib.hid (And.intro (HZ.out.1.below b1) (Nat.le_trans HZ.out.2.1 b1.size))
  obtain ⟨ba, hba⟩ : ∃ ba, ba = hasB x.op 97 := ⟨_, rfl⟩
  rw [← hba]
  have HBA := Lib.hid hba
  have e0 := H1.out.1.cell 0 rfl 0 rfl
  have e2 := H1.out.1.cell 0 rfl 2 rfl
  clear b1 d0 d2 hba
  cases ba
  ·have HT := Lib.hid (show qa = false by rw [HQA.out]; unfold cA; rw [← HBA.out]; rfl)
   go_wp2_with fail
   go_meet
   case rel => exact ⟨by rw [HT.out], H1.out⟩
  ·by_cases h13 : x.op = 13
   ·have t13 : (x.op != 13) = false := by simp [h13]
    have t13' : (x.op == 13) = true := by simp [h13]
    by_cases ha1 : x.a = -1
    ·have t1 : (x.a != -1) = false := by simp [ha1]
     have t1' : (x.a == -1) = true := by simp [ha1]
     have HT := Lib.hid (show qa = false by rw [HQA.out]; unfold cA; rw [← HBA.out, h13, ha1]; rfl)
     clear h13 ha1
     go_wp2_with fail
     go_meet
     case rel => exact ⟨by rw [HT.out], H1.out⟩
    ·have t1 : (x.a != -1) = true := by simpa using ha1
     have t1' : (x.a == -1) = false := by simpa using ha1
     have HT := Lib.hid (show qa = true by rw [HQA.out]; unfold cA; rw [← HBA.out, t1]; simp)
     clear h13 ha1
     go_wp2_with fail
     go_meet
     case rel => exact ⟨by rw [HT.out], H1.out⟩
   ·have t13 : (x.op != 13) = true := by simpa using h13
    have t13' : (x.op == 13) = false := by simpa using h13
    have HT := Lib.hid (show qa = true by rw [HQA.out]; unfold cA; rw [← HBA.out, t13]; rfl)
    clear h13
    go_wp2_with fail
    go_meet
    case rel => exact ⟨by rw [HT.out], H1.out⟩
 case rest =>
 obtain ⟨rfl, h1, h2⟩ := hcut
 have H1 := Lib.hid (And.intro h1 h2)
 clear h1 h2 d0 d2
 have HL1 := Lib.hid (show (usA x).length ≤ 1 by unfold usA; split <;> simp)
 go_upto_if 16 with fail
 go_cut [3] (fun y wx => ∃ a1 c1, y = .slice a1 (usA x).length c1 ∧ OwnE elI1 wx (b + 1) 3 (.slice a1 (usA x).length c1) (usA x) ∧ Env W [fkC b (isC' x (.slice va an vc))] wx ∧ b + 1 ≤ wx.heap.size)
 case first =>
  cases qa
  ·have hl : usA x = [] := by unfold usA; rw [← HQA.out]; rfl
   go_wp2_with fail
   go_meet
   case rel => exact ⟨none, 0, by rw [hl]; rfl, by rw [hl]; exact OwnE.nil _ _ _ _, H1.out⟩
  ·have HL := Lib.hid (show usA x = [x.a] by unfold usA; rw [← HQA.out]; rfl)
   have e2 := H1.out.1.cell 0 rfl 2 rfl
   have HP := Lib.hid (And.intro (OwnE.nil elI1 wc (b + 1) 3) H1.out)
   have hO := OwnE.grown HP.out.1 (grownBy_alloc wc (.cells #[.int .i64 x.a] 3)) (by first | exact .inl rfl | (cases (.slice none 0 0 : Value).ownBlock <;> simp))
   have hEn := HP.out.2.1.grown1 (grownBy_alloc wc (.cells #[.int .i64 x.a] 3)) (fun q e => by cases e)
   have HO := Lib.hid (And.intro hO hEn)
   have hl1 : (([] : List Int).length + 1) * 8 ≤ 140737488355328 := by first | decide | (simp; omega) | omega
   have hl2 : ([] : List Int).length + 1 ≤ 1000000000000 := by first | decide | (simp; omega) | omega
   have hl3 : b + 1 ≤ (wc.alloc (.cells #[.int .i64 x.a] 3)).heap.size := by rw [World.size_alloc]; have := HP.out.2.2; omega
   clear hO hEn
   go_wp2_with (at_builtin; refine wp_appendE (E := elI1) sInt1 rfl rfl _ _ rfl (v := .slice none 0 0) (l := ([] : List Int)) (base := b + 1) rfl wc.heap.size rfl HO.out.1 x.a (cells_new (W := wc) (cs := [.int .i64 x.a]) (t := 3) rfl) hl1 hl2 hl3 ?_; intro v' w3 hown hgr hat; obtain ⟨s9, c9, rfl⟩ := hown.shape (n := 0 + 1) (by simp); have hE3 := HO.out.2.grown1 hgr (fun q e => by have h1 := (OwnE.lt HO.out.1 q e).1; have h2 := HZ.out.2.2; omega); have hz3 := Nat.le_trans hl3 hgr.size; have H3 := Lib.hid (And.intro hown (And.intro hE3 hz3)); clear hown hgr hat hE3 hz3)
   go_meet
   case rel => exact ⟨s9, c9, by rw [HL.out]; rfl, by rw [HL.out]; exact H3.out⟩
 case rest =>
 obtain ⟨a1, c1, rfl, h1, h2⟩ := hcut
 have HP0 := Lib.hid (And.intro h1 h2)
 have d0 := h2.1.cell 0 rfl 0 rfl
 clear h1 h2 HQA H1
 go_wp2_with fail
 refine (iHas_any x.op 98 98 _ HOP.out.1 (.inr (.inl ⟨rfl, rfl⟩)) (HOP.out.2.below HP0.out.2.1.bel)).mono ?_
 rintro e W3 ⟨rfl, b3⟩
 obtain ⟨qb, hqb⟩ : ∃ q, q = hasB x.op 98 := ⟨_, rfl⟩
 rw [← hqb]
 have HQB := Lib.hid hqb
 have HP := Lib.hid (And.intro (OwnE.grown HP0.out.1 (grownBy_below b3) (by cases (Value.slice a1 (usA x).length c1).ownBlock <;> simp)) (And.intro (HP0.out.2.1.below b3) (Nat.le_trans HP0.out.2.2 b3.size)))
 clear hqb b3 d0 HP0
 go_upto_if 24 with fail
 go_cut [3] (fun y wx => ∃ a1 c1, y = .slice a1 (usA x ++ usB x).length c1 ∧ OwnE elI1 wx (b + 1) 3 (.slice a1 (usA x ++ usB x).length c1) (usA x ++ usB x) ∧ Env W [fkC b (isC' x (.slice va an vc))] wx ∧ b + 1 ≤ wx.heap.size)
 case first =>
  cases qb
  ·have hl : usB x = [] := by unfold usB; rw [← HQB.out]; rfl
   go_wp2_with fail
   go_meet
   case rel => exact ⟨a1, c1, by rw [hl, List.append_nil], by rw [hl, List.append_nil]; exact HP.out⟩
  ·have HL := Lib.hid (show usB x = [x.b] by unfold usB; rw [← HQB.out]; rfl)
   have e2 := HP.out.2.1.cell 0 rfl 3 rfl
   have hlA := HL1.out
   obtain ⟨wc, hwc⟩ : ∃ w, w = W3 := ⟨_, rfl⟩
   rw [← hwc] at HP e2 ⊢
   clear hwc
   have hO := OwnE.grown HP.out.1 (grownBy_alloc wc (.cells #[.int .i64 x.b] 3)) (by first | exact .inl rfl | (cases (.slice a1 (usA x).length c1 : Value).ownBlock <;> simp))
   have hEn := HP.out.2.1.grown1 (grownBy_alloc wc (.cells #[.int .i64 x.b] 3)) (fun q e => by cases e)
   have HO := Lib.hid (And.intro hO hEn)
   have hl1 : ((usA x).length + 1) * 8 ≤ 140737488355328 := by first | decide | (simp; omega) | omega
   have hl2 : (usA x).length + 1 ≤ 1000000000000 := by first | decide | (simp; omega) | omega
   have hl3 : b + 1 ≤ (wc.alloc (.cells #[.int .i64 x.b] 3)).heap.size := by rw [World.size_alloc]; have := HP.out.2.2; omega
   clear hO hEn
   go_wp2_with (at_builtin; refine wp_appendE (E := elI1) sInt1 rfl rfl _ _ rfl (v := .slice a1 (usA x).length c1) (l := (usA x)) (base := b + 1) rfl wc.heap.size rfl HO.out.1 x.b (cells_new (W := wc) (cs := [.int .i64 x.b]) (t := 3) rfl) hl1 hl2 hl3 ?_; intro v' w3 hown hgr hat; obtain ⟨s9, c9, rfl⟩ := hown.shape (n := (usA x).length + 1) (by simp); have hE3 := HO.out.2.grown1 hgr (fun q e => by have h1 := (OwnE.lt HO.out.1 q e).1; have h2 := HZ.out.2.2; omega); have hz3 := Nat.le_trans hl3 hgr.size; have H3 := Lib.hid (And.intro hown (And.intro hE3 hz3)); clear hown hgr hat hE3 hz3)
   go_meet
   case rel => exact ⟨s9, c9, by rw [HL.out]; simp, by rw [HL.out, List.length_append, List.length_singleton]; exact H3.out⟩
 case rest =>
 obtain ⟨a2, c2, rfl, h1, h2⟩ := hcut
 have HP0 := Lib.hid (And.intro h1 h2)
 have d0 := h2.1.cell 0 rfl 0 rfl
 have HL2 := Lib.hid (show (usA x ++ usB x).length ≤ 2 by rw [List.length_append]; have := HL1.out; unfold usB; split <;> simp <;> omega)
 clear h1 h2 HQB HP HL1
 obtain ⟨l2, hl2⟩ : ∃ l, l = usA x ++ usB x := ⟨_, rfl⟩
 rw [← hl2] at HP0 HL2 ⊢
 have HLL := Lib.hid hl2
 clear hl2
 go_wp2_with fail
 refine (iHas_any x.op 42 108 _ HOP.out.1 (.inr (.inr ⟨rfl, rfl⟩)) (HOP.out.2.below HP0.out.2.1.bel)).mono ?_
 rintro e W4 ⟨rfl, b4⟩
 obtain ⟨qc, hqc⟩ : ∃ q, q = hasB x.op 108 := ⟨_, rfl⟩
 rw [← hqc]
 have HQC := Lib.hid hqc
 have HP := Lib.hid (And.intro (OwnE.grown HP0.out.1 (grownBy_below b4) (by cases (Value.slice a2 l2.length c2).ownBlock <;> simp)) (And.intro (HP0.out.2.1.below b4) (Nat.le_trans HP0.out.2.2 b4.size)))
 clear hqc b4 d0 HP0
 have HIN := Lib.hid (show ∀ y ∈ usL x, inI y from fun y hy => by
  unfold usL at hy
  rcases List.mem_append.1 hy with hy | hy
  ·rcases List.mem_append.1 hy with hy | hy
   ·unfold usA at hy
    split at hy
    ·rw [List.mem_singleton.1 hy]; exact HC.out.2.1
    ·cases hy
   ·unfold usB at hy
    split at hy
    ·rw [List.mem_singleton.1 hy]; exact HC.out.2.2.1
    ·cases hy
  ·unfold usC at hy
   split at hy
   ·exact InS.inI_all HC.out.1 y hy
   ·cases hy)
 cases qc
 ·have HL := Lib.hid (show usL x = l2 by unfold usL usC; rw [← HQC.out, ← HLL.out]; simp)
  go_wp2_with fail
  go_ret
  exact ⟨a2, c2, by rw [HL.out]; rfl, by rw [HL.out, ← HZ.out.2.2]; exact HP.out.1, HIN.out, HP.out.2.1.bel⟩
 ·have HL := Lib.hid (show usL x = l2 ++ x.ar by unfold usL usC; rw [← HQC.out, ← HLL.out]; rfl)
  have e7 := HP.out.2.1.cell 0 rfl 7 rfl
  have hsrc := InS.srcI HC.out.1 HP.out.2.1.bel
  have hm1 : (l2.length + x.ar.length) * 8 ≤ 140737488355328 := by have := HL2.out; have := HC.out.2.2.2; omega
  have hm2 : l2.length + x.ar.length ≤ 1000000000000 := by have := HL2.out; have := HC.out.2.2.2; omega
  have hm3 : b + 1 ≤ W4.heap.size := HP.out.2.2
  have HS := Lib.hid hsrc
  clear hsrc
  go_wp2_with (at_builtin; refine wp_appendSE (E := elI1) (v := .slice a2 l2.length c2) (l := l2) (m := x.ar) (base := b + 1) sInt1 rfl rfl _ _ rfl rfl (by rw [← HAN.out]; rfl) HP.out.1 HS.out hm1 hm2 hm3 ?_; intro v' w3 hown hgr hat; obtain ⟨s9, c9, rfl⟩ := hown.shape (n := l2.length + x.ar.length) (by simp); have hE3 := HP.out.2.1.grown1 hgr (fun q e => by have h1 := (OwnE.lt HP.out.1 q e).1; have h2 := HZ.out.2.2; omega); have H3 := Lib.hid (And.intro hown hE3); clear hown hgr hat hE3)
  go_ret
  exact ⟨s9, c9, by rw [HL.out]; simp, by rw [HL.out, List.length_append, ← HZ.out.2.2]; exact H3.out.1, HIN.out, H3.out.2.bel⟩
end Go.Proofs.YtnklnklkblgnfaaGreatDoor
end
section
namespace Go.Hir
open Go.Dfl (nth nth_mem mem_nth nth_eq nth_ext take_snoc nth_set nth_append nth_out)
open Go.Obs
variable {u : Un}
def insO (u : Un) (o : Ob) : Is := nth (nth u.fs o.f.toNat).cd o.i.toNat
def edgL (ob : List Ob) (o : Ob) : List (Int × Int × Int) := if 0 ≤ o.c then [((nth ob o.c.toNat).f, (nth ob o.c.toNat).i, o.f)] else []
def edgN (ob : List Ob) (k : Nat) : List (Int × Int × Int) := (ob.take k).flatMap (edgL ob)
theorem edgN_all (ob : List Ob) : edgN ob ob.length = ob.flatMap (edgL ob) := by unfold edgN; rw [List.take_length]
theorem edgN_next {ob : List Ob} {k : Nat} (h : k < ob.length) : edgN ob (k + 1) = edgN ob k ++ edgL ob (nth ob k) := by
 unfold edgN
 rw [take_snoc _ _ h, List.flatMap_append]; simp
theorem edgL_len (ob : List Ob) (o : Ob) : (edgL ob o).length ≤ 1 := by unfold edgL; split <;> simp
theorem edgN_len (ob : List Ob) : ∀ k, k ≤ ob.length → (edgN ob k).length ≤ k
 | 0, _ => by simp [edgN]
 | k + 1, h => by
   rw [edgN_next (by omega), List.length_append]
   have := edgN_len ob k (by omega)
   have := edgL_len ob (nth ob k)
   omega
theorem edgL_yes {ob : List Ob} {o : Ob} (h : 0 ≤ o.c) : edgL ob o = [((nth ob o.c.toNat).f, (nth ob o.c.toNat).i, o.f)] := if_pos h
theorem edgL_no {ob : List Ob} {o : Ob} (h : ¬ 0 ≤ o.c) : edgL ob o = [] := if_neg h
theorem call_in {m : Mch} (M : MT u m) {j : Nat} (hj : j < m.ob.length) : ((nth m.ob j).c = -1) ∨ (0 ≤ (nth m.ob j).c ∧ (nth m.ob j).c < (j : Int) ∧ May u (insO u (nth m.ob (nth m.ob j).c.toNat)) (nth m.ob j).f.toNat) := by
 rcases M.oc j hj with h | ⟨h1, h2, h3⟩
 ·exact .inl h
 ·rw [List.length_take] at h2
  rw [nth_take _ _ _ (by omega)] at h3
  exact .inr ⟨h1, by omega, h3⟩
theorem may_op {x : Is} {f : Nat} (h : May u x f) : x.op = 9 ∨ x.op = 10 := by
 rcases h with ⟨h, -⟩ | ⟨h, -⟩
 ·exact .inr h
 ·exact .inl h
structure ObIn (u : Un) (l : List Ob) (o : Ob) : Prop where
 f : 0 ≤ o.f ∧ o.f < u.fs.length
 i : 0 ≤ o.i ∧ o.i < (nth u.fs o.f.toNat).cd.length
 c : o.c < 0 ∨ (0 ≤ o.c ∧ o.c < l.length ∧ ((insO u (nth l o.c.toNat)).op = 9 ∨ (insO u (nth l o.c.toNat)).op = 10))
theorem obs_in {m : Mch} (M : MT u m) {o : Ob} (ho : o ∈ m.ob) : ObIn u m.ob o := by
 obtain ⟨j, hj, rfl⟩ := mem_nth ho
 refine ⟨(M.ob j hj).f, (M.ob j hj).i, ?_⟩
 rcases call_in M hj with h | ⟨h1, h2, h3⟩
 ·exact .inl (by omega)
 ·exact .inr ⟨h1, by omega, may_op h3⟩
theorem vs_sum9 : ∀ (l : List Ob) (k : Nat), (∀ o ∈ l, o.vs.length ≤ k) → (l.map fun o => o.vs.length).sum ≤ l.length * k
 | [], _, _ => by simp
 | o :: l, k, h => by
   have h1 := vs_sum9 l k fun o ho => h o (List.mem_cons_of_mem _ ho)
   have h2 := h o (by simp)
   rw [List.map_cons, List.sum_cons, List.length_cons, Nat.succ_mul]
   omega
theorem ob_vs {m : Mch} (H : UOk u) (M : MT u m) {o : Ob} (ho : o ∈ m.ob) : o.vs.length ≤ 256 := by
 obtain ⟨j, hj, rfl⟩ := mem_nth ho
 have h1 := (M.ob j hj).len
 have h2 := (M.ob j hj).f
 have h3 := (H.fn (nth m.ob j).f.toNat (by omega)).len.1
 omega
end Go.Hir
end
section
namespace Go.Hir
open Go.Dfl (nth nth_mem mem_nth nth_eq nth_ext take_snoc nth_set nth_append nth_out)
open Go.Obs
variable {u : Un}
def unsV (o : Ob) (v : Int) : Option (Int × Int × Int) := if 0 ≤ v ∧ v < (o.vs.length : Int) ∧ (nth o.vs v.toNat).k = 0 then some (o.f, o.i, v) else none
def unsP (u : Un) (o : Ob) (k : Nat) : List (Int × Int × Int) := ((usL (insO u o)).take k).filterMap (unsV o)
def unsL (u : Un) (o : Ob) : List (Int × Int × Int) := (usL (insO u o)).filterMap (unsV o)
def unsN (u : Un) (l : List Ob) (k : Nat) : List (Int × Int × Int) := (l.take k).flatMap (unsL u)
theorem unsP_zero (o : Ob) : unsP u o 0 = [] := by simp [unsP]
theorem unsP_all {o : Ob} {k : Nat} (h : k = (usL (insO u o)).length) : unsP u o k = unsL u o := by unfold unsP unsL; rw [h, List.take_length]
theorem unsP_yes {o : Ob} {k : Nat} {v : Int} (hk : k < (usL (insO u o)).length) (hv : v = nth (usL (insO u o)) k) (h : 0 ≤ v ∧ v < (o.vs.length : Int) ∧ (nth o.vs v.toNat).k = 0) : unsP u o (k + 1) = unsP u o k ++ [(o.f, o.i, v)] := by
 unfold unsP
 rw [take_snoc _ _ hk, List.filterMap_append, ← hv]
 simp [unsV, h]
theorem unsP_no {o : Ob} {k : Nat} {v : Int} (hk : k < (usL (insO u o)).length) (hv : v = nth (usL (insO u o)) k) (h : ¬ (0 ≤ v ∧ v < (o.vs.length : Int) ∧ (nth o.vs v.toNat).k = 0)) : unsP u o (k + 1) = unsP u o k := by
 unfold unsP
 rw [take_snoc _ _ hk, List.filterMap_append, ← hv]
 simp only [List.filterMap_cons, List.filterMap_nil, unsV, if_neg h, List.append_nil]
theorem unsN_all (l : List Ob) : unsN u l l.length = l.flatMap (unsL u) := by unfold unsN; rw [List.take_length]
theorem unsN_next {l : List Ob} {k : Nat} (h : k < l.length) : unsN u l (k + 1) = unsN u l k ++ unsL u (nth l k) := by
 unfold unsN
 rw [take_snoc _ _ h, List.flatMap_append]; simp
theorem usL_len (x : Is) : (usL x).length ≤ x.ar.length + 2 := by
 unfold usL usA usB usC
 rw [List.length_append, List.length_append]
 have h1 : (if cA x = true then [x.a] else []).length ≤ 1 := by split <;> simp
 have h2 : (if hasB x.op 98 = true then [x.b] else []).length ≤ 1 := by split <;> simp
 have h3 : (if hasB x.op 108 = true then x.ar else []).length ≤ x.ar.length := by split <;> simp
 omega
theorem unsL_len (o : Ob) : (unsL u o).length ≤ (insO u o).ar.length + 2 := Nat.le_trans (List.length_filterMap_le _ _) (usL_len _)
theorem unsP_len (o : Ob) (k : Nat) : (unsP u o k).length ≤ (insO u o).ar.length + 2 :=
 Nat.le_trans (List.length_filterMap_le _ _) (Nat.le_trans (List.length_take_le' _ _) (usL_len _))
theorem unsN_len {K : Nat} {l : List Ob} (h : ∀ o ∈ l, (insO u o).ar.length ≤ K) : ∀ k, k ≤ l.length → (unsN u l k).length ≤ k * (K + 2)
 | 0, _ => by simp [unsN]
 | k + 1, hk => by
   rw [unsN_next (by omega), List.length_append, Nat.succ_mul]
   have := unsN_len h k (by omega)
   have := unsL_len (u := u) (nth l k)
   have := h _ (nth_mem l k (by omega))
   omega
theorem pts_sub (l r : List Ob) {y : Int × Int × Int} (h : y ∈ l.flatMap fun o => ptL o o.vs.length) : y ∈ (l ++ r).flatMap fun o => ptL o o.vs.length := by
 rw [List.flatMap_append]; exact List.mem_append_left _ h
theorem uns_sub (l r : List Ob) {y : Int × Int × Int} (h : y ∈ unsN u l l.length) : y ∈ unsN u (l ++ r) (l ++ r).length := by
 rw [unsN_all] at h ⊢
 rw [List.flatMap_append]; exact List.mem_append_left _ h
theorem edg_sub (l r : List Ob) (hl : ∀ o ∈ l, ObIn u l o) {y : Int × Int × Int} (h : y ∈ edgN l l.length) : y ∈ edgN (l ++ r) (l ++ r).length := by
 rw [edgN_all] at h ⊢
 obtain ⟨o, ho, hy⟩ := List.mem_flatMap.1 h
 refine List.mem_flatMap.2 ⟨o, List.mem_append_left _ ho, ?_⟩
 unfold edgL at hy ⊢
 split at hy
 ·rename_i h0
  rw [if_pos h0]
  rcases (hl o ho).c with hc | ⟨-, hc, -⟩
  ·omega
  ·rw [nth_append, if_pos (by omega)]
   exact hy
 ·exact absurd hy (by simp)
end Go.Hir
end
section
namespace Go.Proofs.YtnklnklkblgnfaaGreatDoor
open Go.RowKit Go.Dfl Go.Gra Go.Obs Go.Sort Go.Maps
theorem sOb : SliceOf Tryz.prog 30 53 (.agg #[.int .i64 0, .int .i64 0, .int .i64 0, .int .i64 0, .slice none 0 0]) 5 56 := ⟨Tryz.underlying30, info_parts (P := Tryz.prog) (e := 53) (by kernel_rfl)⟩
theorem sVl : SliceOf Tryz.prog 51 50 (.agg #[.int .i64 0, .int .i64 0, .int .i64 0]) 3 24 := ⟨Tryz.underlying51, info_parts (P := Tryz.prog) (e := 50) (by kernel_rfl)⟩
def ExIn (W : World) (ov : Value) (x : Ex) : Prop := True ∧ InS vOb W ov x.o
theorem ExIn.below {W W' : World} {ov : Value} {x : Ex} (h : ExIn W ov x) (hb : Below W.heap.size W W') : ExIn W' ov x := ⟨h.1, h.2.below hb⟩
abbrev exV (x : Ex) (ov : Value) : Value := .agg #[.int .i64 x.e, ov]
def valN (x : Ex) : Nat := (x.o.map fun o => o.vs.length).sum
theorem InS.ob {W : World} {ov : Value} {l : List Ob} (h : InS vOb W ov l) : ∃ oa oc, ov = .slice oa l.length oc ∧ l.length ≤ 9223372036854775807 ∧
  (∀ x : Int, 0 ≤ x → x < l.length → ∀ W, (Instr.indexAt 30 (.slice oa l.length oc) (.int .i64 x)).run Tryz.prog W = .ok (.pointer (some ⟨blk oa, ofs oa + x.toNat * 5, none⟩)) W) ∧
  ∀ i, i < l.length → blk oa < W.heap.size ∧ ∃ vv, (inI (nth l i).f ∧ inI (nth l i).i ∧ inI (nth l i).fr ∧ inI (nth l i).c) ∧ InS vVal W vv (nth l i).vs ∧ ∀ Z, Below W.heap.size W Z → Z.cell? ⟨blk oa, ofs oa + i * 5, none⟩ = some (.int .i64 (nth l i).f) ∧ Z.cell? ⟨blk oa, ofs oa + i * 5 + 1, none⟩ = some (.int .i64 (nth l i).i) ∧ Z.cell? ⟨blk oa, ofs oa + i * 5 + 2, none⟩ = some (.int .i64 (nth l i).fr) ∧ Z.cell? ⟨blk oa, ofs oa + i * 5 + 3, none⟩ = some (.int .i64 (nth l i).c) ∧ Z.cell? ⟨blk oa, ofs oa + i * 5 + 4, none⟩ = some vv := by
 obtain ⟨oa, oc, he, hl, hi, hc⟩ := InS.out h sOb
 refine ⟨oa, oc, he, hl, hi, fun i hil => ?_⟩
 obtain ⟨h1, cs, ⟨vv, rfl, hb, hv⟩, h3⟩ := hc i hil
 exact ⟨h1, vv, hb, hv, fun Z hZ => ⟨h3 Z hZ 0 (by decide), h3 Z hZ 1 (by decide), h3 Z hZ 2 (by decide), h3 Z hZ 3 (by decide), h3 Z hZ 4 (by decide)⟩⟩
theorem InS.vl {W : World} {v : Value} {l : List Vl} (h : InS vVal W v l) : ∃ a c, v = .slice a l.length c ∧ l.length ≤ 9223372036854775807 ∧
  (∀ x : Int, 0 ≤ x → x < l.length → ∀ W, (Instr.indexAt 51 (.slice a l.length c) (.int .i64 x)).run Tryz.prog W = .ok (.pointer (some ⟨blk a, ofs a + x.toNat * 3, none⟩)) W) ∧
  ∀ i, i < l.length → blk a < W.heap.size ∧ (inI (nth l i).k ∧ inI (nth l i).n ∧ inI (nth l i).s) ∧ ∀ Z, Below W.heap.size W Z → Z.cell? ⟨blk a, ofs a + i * 3, none⟩ = some (.int .i64 (nth l i).k) ∧ Z.cell? ⟨blk a, ofs a + i * 3 + 1, none⟩ = some (.int .i64 (nth l i).n) ∧ Z.cell? ⟨blk a, ofs a + i * 3 + 2, none⟩ = some (.int .i64 (nth l i).s) := by
 obtain ⟨oa, oc, he, hl, hi, hc⟩ := InS.out h sVl
 refine ⟨oa, oc, he, hl, hi, fun i hil => ?_⟩
 obtain ⟨h1, cs, ⟨rfl, hb⟩, h3⟩ := hc i hil
 exact ⟨h1, hb, fun Z hZ => ⟨h3 Z hZ 0 (by decide), h3 Z hZ 1 (by decide), h3 Z hZ 2 (by decide)⟩⟩
def allP (x : Ex) : List (Int × Int × Int) := x.o.flatMap fun o => ptL o o.vs.length
def allN (x : Ex) : List (Int × Int × Int × Int) := x.o.flatMap fun o => inL o o.vs.length
theorem upto_all {β : Type} (F : Ob → Nat → List β) (os : List Ob) (h0 : ∀ o, F o 0 = []) : upto F os os.length 0 = os.flatMap fun o => F o o.vs.length := by
 unfold upto; rw [List.take_length, h0, List.append_nil]
theorem upto_more {β : Type} (F : Ob → Nat → List β) (os : List Ob) (i k : Nat) (x : List β) (h : F (nth os i) (k + 1) = F (nth os i) k ++ x) : upto F os i (k + 1) = upto F os i k ++ x := by
 unfold upto; rw [h, List.append_assoc]
theorem ptL_in {o : Ob} (hf : inI o.f) (hv : ∀ i, i < o.vs.length → inI (nth o.vs i).s) (hl : (o.vs.length : Int) ≤ 9223372036854775807) {x : Int × Int × Int} {k : Nat} (hk : k ≤ o.vs.length) (hx : x ∈ ptL o k) : inI x.1 ∧ inI x.2.1 ∧ inI x.2.2 := by
 unfold ptL at hx
 obtain ⟨v, hv1, he⟩ := List.mem_filterMap.1 hx
 rw [List.mem_range] at hv1
 split at he
 ·simp only [Option.some.injEq] at he
  subst he
  exact ⟨hf, by unfold inI; dsimp only; omega, hv v (by omega)⟩
 ·cases he
theorem inL_in {o : Ob} (hf : inI o.f) (hi : inI o.i) (hv : ∀ i, i < o.vs.length → inI (nth o.vs i).n) (hl : (o.vs.length : Int) ≤ 9223372036854775807) {x : Int × Int × Int × Int} {k : Nat} (hk : k ≤ o.vs.length) (hx : x ∈ inL o k) : inI x.1 ∧ inI x.2.1 ∧ inI x.2.2.1 ∧ inI x.2.2.2 := by
 unfold inL at hx
 obtain ⟨v, hv1, he⟩ := List.mem_filterMap.1 hx
 rw [List.mem_range] at hv1
 split at he
 ·simp only [Option.some.injEq] at he
  subst he
  exact ⟨hf, hi, by unfold inI; dsimp only; omega, hv v (by omega)⟩
 ·cases he
theorem flat_len9 {β : Type} {F : Ob → Nat → List β} (hF : ∀ o k, (F o k).length ≤ k) : ∀ os : List Ob, (os.flatMap fun o => F o o.vs.length).length ≤ (os.map fun o => o.vs.length).sum
 | [] => by simp
 | o :: os => by
   have := flat_len9 hF os
   have := hF o o.vs.length
   rw [List.flatMap_cons, List.length_append, List.map_cons, List.sum_cons]
   omega
set_option maxHeartbeats 3200000 in
set_option maxRecDepth 100000 in
theorem points_any (x : Ex) (ov : Value) (W : World) (h : ExIn W ov x) (hn : valN x ≤ 1048576) : Calls Tryz.prog 6 #[exV x ov] W (ascPR (allP x) W) := by
 obtain ⟨oa, oc, rfl, hlen, hidx, hcell⟩ := InS.ob h.2
 have HX := Lib.hid (And.intro h hn)
 have HI := Lib.hid hidx
 have HC := Lib.hid hcell
 have hal := (Below.refl W.heap.size W).alloc (Nat.le_refl _) (.cells #[.int .i64 x.e, .slice oa x.o.length oc] 32)
 have hbx := cells_new (W := W) (cs := [.int .i64 x.e, .slice oa x.o.length oc]) (t := 32) rfl
 have H0 := Lib.hid (And.intro hal (hbx 1 _ rfl))
 clear h hn hidx hcell hal hbx
 have hmm := @run_makeMap Tryz.prog
 go_enter Tryz.func6, Tryz.ntmps6
 go_upto_region 2 with fail
 have hset := SetT.made Tryz.prog 39 4 (W.alloc (.cells #[.int .i64 x.e, .slice oa x.o.length oc] 32)) (B := W.heap.size + 1) (by rw [World.size_alloc])
 have hbx := (grownBy_alloc (W.alloc (.cells #[.int .i64 x.e, .slice oa x.o.length oc] 32)) (.map #[] 0)).cell H0.out.2 (by simp)
 have hbl := H0.out.1.alloc H0.out.1.size (.map #[] 0)
 refine gen_code (fun Z => SetT Tryz.prog 39 4 Z (W.heap.size + 1) 0 [] ∧ Z.cell? ⟨W.heap.size, 1, none⟩ = some (.slice oa x.o.length oc) ∧ Below W.heap.size W Z) ⟨hset, hbx, hbl⟩ ?_
 intro W1 hz
 obtain ⟨mb, hmb⟩ : ∃ mb, mb = W.heap.size + 1 := ⟨_, rfl⟩
 rw [← hmb] at hz ⊢
 have h1 := hz.2.1
 have H1 : Hid (SetT Tryz.prog 39 4 W1 mb (upto ptL x.o 0 0).length ((upto ptL x.o 0 0).map pv) ∧ Below W.heap.size W W1) := Lib.hid ⟨hz.1, hz.2.2⟩
 have HM := Lib.hid hmb
 clear hset hbx hbl hz hmb hmm H0
 go_wp2_with fail
 clear h1
 go_loopw [12] (fun y wr => ∃ i : Nat, i ≤ x.o.length ∧ y = .int .i64 (i : Int) ∧ Hid (SetT Tryz.prog 39 4 wr mb (upto ptL x.o i 0).length ((upto ptL x.o i 0).map pv) ∧ Below W.heap.size W wr)) (fun y _ => x.o.length - (intOf y).toNat)
 case atStart => exact ⟨0, by omega, rfl, H1.out⟩
 case round =>
  obtain ⟨i, hi, rfl, hh⟩ := hrel
  have HL := Lib.hid hh.out
  clear hh
  by_cases hil : i < x.o.length
  ·have hili : (i : Int) < (x.o.length : Int) := by omega
   obtain ⟨hbl, vv, hbd, hvv, hcs⟩ := HC.out i hil
   obtain ⟨o0, o1, o2, o3, o4⟩ := hcs wr HL.out.2
   have j1 := HI.out (i : Int) (by omega) (by omega)
   rw [Int.toNat_natCast] at j1
   obtain ⟨va, vc, rfl, hvl, hvi, hvc⟩ := InS.vl hvv
   obtain ⟨o, ho⟩ : ∃ o, o = nth x.o i := ⟨_, rfl⟩
   have hle : ∀ k, k ≤ o.vs.length → (upto ptL x.o i k).length ≤ 1048576 := fun k hk => Nat.le_trans (upto_len ptL_len x.o hil (by rw [← ho]; exact hk)) HX.out.2
   rw [← ho] at o0 o1 o2 o3 o4 hbd hvl hvi hvc
   have HO := Lib.hid (And.intro ho (And.intro hbd (And.intro hvi (And.intro hvc hle))))
   clear hbl hvv hcs ho hbd hvi hvc hle
   go_upto_region 5 with fail
   have hbA := HL.out.2.alloc HL.out.2.size (.cells #[.int .i64 o.f, .int .i64 o.i, .int .i64 o.fr, .int .i64 o.c, .slice va o.vs.length vc] 53)
   have hcn := cells_new (W := wr) (cs := [.int .i64 o.f, .int .i64 o.i, .int .i64 o.fr, .int .i64 o.c, .slice va o.vs.length vc]) (t := 53) rfl
   have hsA := HL.out.1.kept (grownBy_alloc wr (.cells #[.int .i64 o.f, .int .i64 o.i, .int .i64 o.fr, .int .i64 o.c, .slice va o.vs.length vc] 53)) (by simp)
   have hmlt := HL.out.1.lt
   refine gen_code (fun Z => SetT Tryz.prog 39 4 Z mb (upto ptL x.o i 0).length ((upto ptL x.o i 0).map pv) ∧ Below W.heap.size W Z ∧ Z.cell? ⟨wr.heap.size, 0, none⟩ = some (.int .i64 o.f) ∧ Z.cell? ⟨wr.heap.size, 1, none⟩ = some (.int .i64 o.i) ∧ Z.cell? ⟨wr.heap.size, 4, none⟩ = some (.slice va o.vs.length vc)) ⟨hsA, hbA, hcn 0 _ rfl, hcn 1 _ rfl, hcn 4 _ rfl⟩ ?_
   intro W2 hz
   obtain ⟨ob, hob⟩ : ∃ ob, ob = wr.heap.size := ⟨_, rfl⟩
   rw [← hob] at hz ⊢
   have h4 := hz.2.2.2.2
   have H2 := Lib.hid (And.intro (And.intro hz.1 hz.2.1) (And.intro (And.intro hz.2.2.1 hz.2.2.2.1) (show mb < ob by omega)))
   clear hbA hcn hsA hz hob hmlt o0 o1 o2 o3 o4 j1
   go_wp2_with fail
   clear h4
   go_loopw [19] (fun y w2 => ∃ k : Nat, k ≤ o.vs.length ∧ y = .int .i64 (k : Int) ∧ Hid (SetT Tryz.prog 39 4 w2 mb (upto ptL x.o i k).length ((upto ptL x.o i k).map pv) ∧ Below W.heap.size W w2 ∧ (w2.cell? ⟨ob, 0, none⟩ = some (.int .i64 o.f) ∧ w2.cell? ⟨ob, 1, none⟩ = some (.int .i64 o.i)))) (fun y _ => o.vs.length - (intOf y).toNat)
   case atStart => exact ⟨0, by omega, rfl, H2.out.1.1, H2.out.1.2, H2.out.2.1⟩
   case round =>
    obtain ⟨k, hk, rfl, hh⟩ := hrel
    have HK := Lib.hid hh.out
    clear hh
    by_cases hkl : k < o.vs.length
    ·have hkli : (k : Int) < (o.vs.length : Int) := by omega
     obtain ⟨hb1, hb2, hcs⟩ := HO.out.2.2.2.1 k hkl
     obtain ⟨o0, o1, o2⟩ := hcs wr HK.out.2.1
     have j1 := HO.out.2.2.1 (k : Int) (by omega) (by omega)
     rw [Int.toNat_natCast] at j1
     obtain ⟨vl, hvl⟩ : ∃ vl, vl = nth o.vs k := ⟨_, rfl⟩
     rw [← hvl] at o0 o1 o2 hb2
     have HV := Lib.hid (And.intro hvl hb2)
     clear hb1 hb2 hcs hvl
     go_upto_region 8 with fail
     have hbA := HK.out.2.1.alloc HK.out.2.1.size (.cells #[.int .i64 vl.k, .int .i64 vl.n, .int .i64 vl.s] 50)
     have hcn := cells_new (W := wr) (cs := [.int .i64 vl.k, .int .i64 vl.n, .int .i64 vl.s]) (t := 50) rfl
     have hgA := grownBy_alloc wr (.cells #[.int .i64 vl.k, .int .i64 vl.n, .int .i64 vl.s] 50)
     have hsA := HK.out.1.kept hgA (by simp)
     have hmlt := HK.out.1.lt
     refine gen_code (fun Z => SetT Tryz.prog 39 4 Z mb (upto ptL x.o i k).length ((upto ptL x.o i k).map pv) ∧ Below W.heap.size W Z ∧ (Z.cell? ⟨ob, 0, none⟩ = some (.int .i64 o.f) ∧ Z.cell? ⟨ob, 1, none⟩ = some (.int .i64 o.i)) ∧ Z.cell? ⟨wr.heap.size, 0, none⟩ = some (.int .i64 vl.k) ∧ Z.cell? ⟨wr.heap.size, 1, none⟩ = some (.int .i64 vl.n) ∧ Z.cell? ⟨wr.heap.size, 2, none⟩ = some (.int .i64 vl.s)) ⟨hsA, hbA, ⟨hgA.cell HK.out.2.2.1 (by simp), hgA.cell HK.out.2.2.2 (by simp)⟩, hcn 0 _ rfl, hcn 1 _ rfl, hcn 2 _ rfl⟩ ?_
     intro W3 hz
     obtain ⟨vb, hvb⟩ : ∃ vb, vb = wr.heap.size := ⟨_, rfl⟩
     rw [← hvb] at hz ⊢
     obtain ⟨v0, v1, v2⟩ := hz.2.2.2
     obtain ⟨f0, f1⟩ := hz.2.2.1
     have HZ := Lib.hid (And.intro hz.1 (And.intro hz.2.1 hz.2.2.1))
     clear hbA hcn hsA hgA hz hvb hmlt o0 o1 o2 j1
     by_cases hkd : vl.k = 3
     ·have w1 : (vl.k == 3) = true := by simpa using hkd
      have hmore := ptL_yes (o := o) (k := k) (by rw [← HV.out.1]; exact hkd)
      have hup := upto_more ptL x.o i k [(o.f, (k : Int), vl.s)] (by rw [← HO.out.1, hmore, ← HV.out.1])
      have hlen9 := HO.out.2.2.2.2 k (by omega)
      have hn9 : (upto ptL x.o i k).length < maxLen := by unfold maxLen; omega
      obtain ⟨kl, hkl9⟩ := pkWf (o.f, (k : Int), vl.s) ⟨HO.out.2.1.1, by unfold inI; dsimp only; omega, HV.out.2.2.2⟩
      have HU := Lib.hid (And.intro hup hkl9)
      clear hkd hmore hup hkl9
      go_wp2_with (at_mapUpdate; refine wp_setPut HZ.out.1 rfl _ _ _ rfl pkKeyed Tryz.underlying71 Tryz.underlying4 rfl rfl hn9 (pv (o.f, (k : Int), vl.s)) kl rfl HU.out.2 ?_; intro W4 set4 g4; have H4 := Lib.hid (And.intro set4 g4); clear set4 g4)
      have hmm : ∀ q, some mb = some q → W.heap.size ≤ q := fun q e9 => by have := HM.out; have := Option.some.inj e9; omega
      have hob : some ob ≠ some mb := fun e9 => by have := H2.out.2.2; have := Option.some.inj e9; omega
      have H5 : Hid (SetT Tryz.prog 39 4 W4 mb (upto ptL x.o i (k + 1)).length ((upto ptL x.o i (k + 1)).map pv) ∧ Below W.heap.size W W4 ∧ (W4.cell? ⟨ob, 0, none⟩ = some (.int .i64 o.f) ∧ W4.cell? ⟨ob, 1, none⟩ = some (.int .i64 o.i))) := Lib.hid (by
       rw [HU.out.1, List.map_append, List.length_append]
       exact ⟨H4.out.1, HZ.out.2.1.grown H4.out.2 HZ.out.2.1.size hmm, H4.out.2.cell HZ.out.2.2.1 hob, H4.out.2.cell HZ.out.2.2.2 hob⟩)
      clear hmm hob
      go_roundw
      case rel => exact ⟨k + 1, by omega, by go_num, H5.out⟩
      case measure => simp [intOf]; omega
     ·have w1 : (vl.k == 3) = false := by simpa using hkd
      have hmore := ptL_no (o := o) (k := k) (by rw [← HV.out.1]; exact hkd)
      have hup := upto_more ptL x.o i k [] (by rw [← HO.out.1, hmore, List.append_nil])
      rw [List.append_nil] at hup
      have HU := Lib.hid hup
      clear hkd hmore hup
      go_wp2_with fail
      go_roundw
      case rel => exact ⟨k + 1, by omega, by go_num, by rw [HU.out]; exact HZ.out⟩
      case measure => simp [intOf]; omega
    ·obtain rfl : k = o.vs.length := by omega
     have HU := Lib.hid (upto_next ptL x.o hil (ptL_zero _))
     clear hkl
     go_wp2_with fail
     go_roundw
     case rel => exact ⟨i + 1, by omega, by go_num, by rw [HU.out, ← HO.out.1]; exact ⟨HK.out.1, HK.out.2.1⟩⟩
     case measure => simp [intOf]; omega
  ·obtain rfl : i = x.o.length := by omega
   have hall := upto_all ptL x.o ptL_zero
   have hlen9 : (upto ptL x.o x.o.length 0).length ≤ 1048576 := by
    rw [hall]
    exact Nat.le_trans (flat_len9 ptL_len x.o) HX.out.2
   have hs := HL.out.1
   have hin : ∀ y ∈ upto ptL x.o x.o.length 0, inI y.1 ∧ inI y.2.1 ∧ inI y.2.2 := fun y hy => by
    rw [hall] at hy
    obtain ⟨o, ho, hy⟩ := List.mem_flatMap.1 hy
    obtain ⟨t, ht, rfl⟩ := mem_nth ho
    obtain ⟨-, vv, hbd, hvv, -⟩ := HC.out t ht
    obtain ⟨va, vc, -, hvl, -, hvc⟩ := InS.vl hvv
    exact ptL_in hbd.1 (fun j hj => (hvc j hj).2.1.2.2) (by omega) (Nat.le_refl _) hy
   have ha := ascP_any mb _ (upto ptL x.o x.o.length 0) wr hs (by omega) (by omega) hin
   rw [hall] at ha
   have HA := Lib.hid ha
   clear hall hlen9 hs hin ha hil
   go_wp2_with fail
   refine HA.out.mono ?_
   rintro e W5 ⟨a, c, L, rfl, ho, hp, hm, hb⟩
   have H5 := Lib.hid (And.intro (ho.mono9 HL.out.2.size) (And.intro hp (And.intro hm (HL.out.2.trans (hb.mono HL.out.2.size)))))
   clear ho hp hm hb HA
   go_wp2_with fail
   go_ret
   exact ⟨a, c, L, rfl, H5.out.1, H5.out.2.1, H5.out.2.2.1, H5.out.2.2.2⟩
set_option maxHeartbeats 3200000 in
set_option maxRecDepth 100000 in
theorem ints_any (x : Ex) (ov : Value) (W : World) (h : ExIn W ov x) (hn : valN x ≤ 1048576) : Calls Tryz.prog 9 #[exV x ov] W (ascNR (allN x) W) := by
 obtain ⟨oa, oc, rfl, hlen, hidx, hcell⟩ := InS.ob h.2
 have HX := Lib.hid (And.intro h hn)
 have HI := Lib.hid hidx
 have HC := Lib.hid hcell
 have hal := (Below.refl W.heap.size W).alloc (Nat.le_refl _) (.cells #[.int .i64 x.e, .slice oa x.o.length oc] 32)
 have hbx := cells_new (W := W) (cs := [.int .i64 x.e, .slice oa x.o.length oc]) (t := 32) rfl
 have H0 := Lib.hid (And.intro hal (hbx 1 _ rfl))
 clear h hn hidx hcell hal hbx
 have hmm := @run_makeMap Tryz.prog
 go_enter Tryz.func9, Tryz.ntmps9
 go_upto_region 2 with fail
 have hset := SetT.made Tryz.prog 57 4 (W.alloc (.cells #[.int .i64 x.e, .slice oa x.o.length oc] 32)) (B := W.heap.size + 1) (by rw [World.size_alloc])
 have hbx := (grownBy_alloc (W.alloc (.cells #[.int .i64 x.e, .slice oa x.o.length oc] 32)) (.map #[] 0)).cell H0.out.2 (by simp)
 have hbl := H0.out.1.alloc H0.out.1.size (.map #[] 0)
 refine gen_code (fun Z => SetT Tryz.prog 57 4 Z (W.heap.size + 1) 0 [] ∧ Z.cell? ⟨W.heap.size, 1, none⟩ = some (.slice oa x.o.length oc) ∧ Below W.heap.size W Z) ⟨hset, hbx, hbl⟩ ?_
 intro W1 hz
 obtain ⟨mb, hmb⟩ : ∃ mb, mb = W.heap.size + 1 := ⟨_, rfl⟩
 rw [← hmb] at hz ⊢
 have h1 := hz.2.1
 have H1 : Hid (SetT Tryz.prog 57 4 W1 mb (upto inL x.o 0 0).length ((upto inL x.o 0 0).map nv) ∧ Below W.heap.size W W1) := Lib.hid ⟨hz.1, hz.2.2⟩
 have HM := Lib.hid hmb
 clear hset hbx hbl hz hmb hmm H0
 go_wp2_with fail
 clear h1
 go_loopw [12] (fun y wr => ∃ i : Nat, i ≤ x.o.length ∧ y = .int .i64 (i : Int) ∧ Hid (SetT Tryz.prog 57 4 wr mb (upto inL x.o i 0).length ((upto inL x.o i 0).map nv) ∧ Below W.heap.size W wr)) (fun y _ => x.o.length - (intOf y).toNat)
 case atStart => exact ⟨0, by omega, rfl, H1.out⟩
 case round =>
  obtain ⟨i, hi, rfl, hh⟩ := hrel
  have HL := Lib.hid hh.out
  clear hh
  by_cases hil : i < x.o.length
  ·have hili : (i : Int) < (x.o.length : Int) := by omega
   obtain ⟨hbl, vv, hbd, hvv, hcs⟩ := HC.out i hil
   obtain ⟨o0, o1, o2, o3, o4⟩ := hcs wr HL.out.2
   have j1 := HI.out (i : Int) (by omega) (by omega)
   rw [Int.toNat_natCast] at j1
   obtain ⟨va, vc, rfl, hvl, hvi, hvc⟩ := InS.vl hvv
   obtain ⟨o, ho⟩ : ∃ o, o = nth x.o i := ⟨_, rfl⟩
   have hle : ∀ k, k ≤ o.vs.length → (upto inL x.o i k).length ≤ 1048576 := fun k hk => Nat.le_trans (upto_len inL_len x.o hil (by rw [← ho]; exact hk)) HX.out.2
   rw [← ho] at o0 o1 o2 o3 o4 hbd hvl hvi hvc
   have HO := Lib.hid (And.intro ho (And.intro hbd (And.intro hvi (And.intro hvc hle))))
   clear hbl hvv hcs ho hbd hvi hvc hle
   go_upto_region 5 with fail
   have hbA := HL.out.2.alloc HL.out.2.size (.cells #[.int .i64 o.f, .int .i64 o.i, .int .i64 o.fr, .int .i64 o.c, .slice va o.vs.length vc] 53)
   have hcn := cells_new (W := wr) (cs := [.int .i64 o.f, .int .i64 o.i, .int .i64 o.fr, .int .i64 o.c, .slice va o.vs.length vc]) (t := 53) rfl
   have hsA := HL.out.1.kept (grownBy_alloc wr (.cells #[.int .i64 o.f, .int .i64 o.i, .int .i64 o.fr, .int .i64 o.c, .slice va o.vs.length vc] 53)) (by simp)
   have hmlt := HL.out.1.lt
   refine gen_code (fun Z => SetT Tryz.prog 57 4 Z mb (upto inL x.o i 0).length ((upto inL x.o i 0).map nv) ∧ Below W.heap.size W Z ∧ Z.cell? ⟨wr.heap.size, 0, none⟩ = some (.int .i64 o.f) ∧ Z.cell? ⟨wr.heap.size, 1, none⟩ = some (.int .i64 o.i) ∧ Z.cell? ⟨wr.heap.size, 4, none⟩ = some (.slice va o.vs.length vc)) ⟨hsA, hbA, hcn 0 _ rfl, hcn 1 _ rfl, hcn 4 _ rfl⟩ ?_
   intro W2 hz
   obtain ⟨ob, hob⟩ : ∃ ob, ob = wr.heap.size := ⟨_, rfl⟩
   rw [← hob] at hz ⊢
   have h4 := hz.2.2.2.2
   have H2 := Lib.hid (And.intro (And.intro hz.1 hz.2.1) (And.intro (And.intro hz.2.2.1 hz.2.2.2.1) (show mb < ob by omega)))
   clear hbA hcn hsA hz hob hmlt o0 o1 o2 o3 o4 j1
   go_wp2_with fail
   clear h4
   go_loopw [19] (fun y w2 => ∃ k : Nat, k ≤ o.vs.length ∧ y = .int .i64 (k : Int) ∧ Hid (SetT Tryz.prog 57 4 w2 mb (upto inL x.o i k).length ((upto inL x.o i k).map nv) ∧ Below W.heap.size W w2 ∧ (w2.cell? ⟨ob, 0, none⟩ = some (.int .i64 o.f) ∧ w2.cell? ⟨ob, 1, none⟩ = some (.int .i64 o.i)))) (fun y _ => o.vs.length - (intOf y).toNat)
   case atStart => exact ⟨0, by omega, rfl, H2.out.1.1, H2.out.1.2, H2.out.2.1⟩
   case round =>
    obtain ⟨k, hk, rfl, hh⟩ := hrel
    have HK := Lib.hid hh.out
    clear hh
    by_cases hkl : k < o.vs.length
    ·have hkli : (k : Int) < (o.vs.length : Int) := by omega
     obtain ⟨hb1, hb2, hcs⟩ := HO.out.2.2.2.1 k hkl
     obtain ⟨o0, o1, o2⟩ := hcs wr HK.out.2.1
     have j1 := HO.out.2.2.1 (k : Int) (by omega) (by omega)
     rw [Int.toNat_natCast] at j1
     obtain ⟨vl, hvl⟩ : ∃ vl, vl = nth o.vs k := ⟨_, rfl⟩
     rw [← hvl] at o0 o1 o2 hb2
     have HV := Lib.hid (And.intro hvl hb2)
     clear hb1 hb2 hcs hvl
     go_upto_region 8 with fail
     have hbA := HK.out.2.1.alloc HK.out.2.1.size (.cells #[.int .i64 vl.k, .int .i64 vl.n, .int .i64 vl.s] 50)
     have hcn := cells_new (W := wr) (cs := [.int .i64 vl.k, .int .i64 vl.n, .int .i64 vl.s]) (t := 50) rfl
     have hgA := grownBy_alloc wr (.cells #[.int .i64 vl.k, .int .i64 vl.n, .int .i64 vl.s] 50)
     have hsA := HK.out.1.kept hgA (by simp)
     have hmlt := HK.out.1.lt
     refine gen_code (fun Z => SetT Tryz.prog 57 4 Z mb (upto inL x.o i k).length ((upto inL x.o i k).map nv) ∧ Below W.heap.size W Z ∧ (Z.cell? ⟨ob, 0, none⟩ = some (.int .i64 o.f) ∧ Z.cell? ⟨ob, 1, none⟩ = some (.int .i64 o.i)) ∧ Z.cell? ⟨wr.heap.size, 0, none⟩ = some (.int .i64 vl.k) ∧ Z.cell? ⟨wr.heap.size, 1, none⟩ = some (.int .i64 vl.n) ∧ Z.cell? ⟨wr.heap.size, 2, none⟩ = some (.int .i64 vl.s)) ⟨hsA, hbA, ⟨hgA.cell HK.out.2.2.1 (by simp), hgA.cell HK.out.2.2.2 (by simp)⟩, hcn 0 _ rfl, hcn 1 _ rfl, hcn 2 _ rfl⟩ ?_
     intro W3 hz
     obtain ⟨vb, hvb⟩ : ∃ vb, vb = wr.heap.size := ⟨_, rfl⟩
     rw [← hvb] at hz ⊢
     obtain ⟨v0, v1, v2⟩ := hz.2.2.2
     obtain ⟨f0, f1⟩ := hz.2.2.1
     have HZ := Lib.hid (And.intro hz.1 (And.intro hz.2.1 hz.2.2.1))
     clear hbA hcn hsA hgA hz hvb hmlt o0 o1 o2 j1
     by_cases hkd : vl.k = 1
     ·have w1 : (vl.k == 1) = true := by simpa using hkd
      have hmore := inL_yes (o := o) (k := k) (by rw [← HV.out.1]; exact hkd)
      have hup := upto_more inL x.o i k [(o.f, o.i, (k : Int), vl.n)] (by rw [← HO.out.1, hmore, ← HV.out.1])
      have hlen9 := HO.out.2.2.2.2 k (by omega)
      have hn9 : (upto inL x.o i k).length < maxLen := by unfold maxLen; omega
      obtain ⟨kl, hkl9⟩ := nkWf (o.f, o.i, (k : Int), vl.n) ⟨HO.out.2.1.1, HO.out.2.1.2.1, by unfold inI; dsimp only; omega, HV.out.2.2.1⟩
      have HU := Lib.hid (And.intro hup hkl9)
      clear hkd hmore hup hkl9
      go_wp2_with (at_mapUpdate; refine wp_setPut HZ.out.1 rfl _ _ _ rfl nkKeyed Tryz.underlying88 Tryz.underlying4 rfl rfl hn9 (nv (o.f, o.i, (k : Int), vl.n)) kl rfl HU.out.2 ?_; intro W4 set4 g4; have H4 := Lib.hid (And.intro set4 g4); clear set4 g4)
      have hmm : ∀ q, some mb = some q → W.heap.size ≤ q := fun q e9 => by have := HM.out; have := Option.some.inj e9; omega
      have hob : some ob ≠ some mb := fun e9 => by have := H2.out.2.2; have := Option.some.inj e9; omega
      have H5 : Hid (SetT Tryz.prog 57 4 W4 mb (upto inL x.o i (k + 1)).length ((upto inL x.o i (k + 1)).map nv) ∧ Below W.heap.size W W4 ∧ (W4.cell? ⟨ob, 0, none⟩ = some (.int .i64 o.f) ∧ W4.cell? ⟨ob, 1, none⟩ = some (.int .i64 o.i))) := Lib.hid (by
       rw [HU.out.1, List.map_append, List.length_append]
       exact ⟨H4.out.1, HZ.out.2.1.grown H4.out.2 HZ.out.2.1.size hmm, H4.out.2.cell HZ.out.2.2.1 hob, H4.out.2.cell HZ.out.2.2.2 hob⟩)
      clear hmm hob
      go_roundw
      case rel => exact ⟨k + 1, by omega, by go_num, H5.out⟩
      case measure => simp [intOf]; omega
     ·have w1 : (vl.k == 1) = false := by simpa using hkd
      have hmore := inL_no (o := o) (k := k) (by rw [← HV.out.1]; exact hkd)
      have hup := upto_more inL x.o i k [] (by rw [← HO.out.1, hmore, List.append_nil])
      rw [List.append_nil] at hup
      have HU := Lib.hid hup
      clear hkd hmore hup
      go_wp2_with fail
      go_roundw
      case rel => exact ⟨k + 1, by omega, by go_num, by rw [HU.out]; exact HZ.out⟩
      case measure => simp [intOf]; omega
    ·obtain rfl : k = o.vs.length := by omega
     have HU := Lib.hid (upto_next inL x.o hil (inL_zero _))
     clear hkl
     go_wp2_with fail
     go_roundw
     case rel => exact ⟨i + 1, by omega, by go_num, by rw [HU.out, ← HO.out.1]; exact ⟨HK.out.1, HK.out.2.1⟩⟩
     case measure => simp [intOf]; omega
  ·obtain rfl : i = x.o.length := by omega
   have hall := upto_all inL x.o inL_zero
   have hlen9 : (upto inL x.o x.o.length 0).length ≤ 1048576 := by
    rw [hall]
    exact Nat.le_trans (flat_len9 inL_len x.o) HX.out.2
   have hs := HL.out.1
   have hin : ∀ y ∈ upto inL x.o x.o.length 0, inI y.1 ∧ inI y.2.1 ∧ inI y.2.2.1 ∧ inI y.2.2.2 := fun y hy => by
    rw [hall] at hy
    obtain ⟨o, ho, hy⟩ := List.mem_flatMap.1 hy
    obtain ⟨t, ht, rfl⟩ := mem_nth ho
    obtain ⟨-, vv, hbd, hvv, -⟩ := HC.out t ht
    obtain ⟨va, vc, -, hvl, -, hvc⟩ := InS.vl hvv
    exact inL_in hbd.1 hbd.2.1 (fun j hj => (hvc j hj).2.1.2.1) (by omega) (Nat.le_refl _) hy
   have ha := ascN_any mb _ (upto inL x.o x.o.length 0) wr hs (by omega) (by omega) hin
   rw [hall] at ha
   have HA := Lib.hid ha
   clear hall hlen9 hs hin ha hil
   go_wp2_with fail
   refine HA.out.mono ?_
   rintro e W5 ⟨a, c, L, rfl, ho, hp, hm, hb⟩
   have H5 := Lib.hid (And.intro (ho.mono9 HL.out.2.size) (And.intro hp (And.intro hm (HL.out.2.trans (hb.mono HL.out.2.size)))))
   clear ho hp hm hb HA
   go_wp2_with fail
   go_ret
   exact ⟨a, c, L, rfl, H5.out.1, H5.out.2.1, H5.out.2.2.1, H5.out.2.2.2⟩
end Go.Proofs.YtnklnklkblgnfaaGreatDoor
end
section
namespace Go.Proofs.YtnklnklkblgnfaaGreatDoor
open Go.RowKit Go.Dfl Go.Gra Go.Obs Go.Hir Go.Sort Go.Maps
set_option maxHeartbeats 12800000 in
set_option maxRecDepth 100000 in
theorem unset_any (u : Un) (v0 v1 : Value) (x : Ex) (ov : Value) (W : World) (hu : UnIn W v0 v1 u) (h : ExIn W ov x) (hr : ∀ o ∈ x.o, ObIn u x.o o) (hab : ∀ o ∈ x.o, inI (insO u o).a ∧ inI (insO u o).b) (har : ∀ o ∈ x.o, (insO u o).ar.length ≤ 1048576) (hop : ∀ o ∈ x.o, 0 ≤ (insO u o).op ∧ (insO u o).op ≤ 16) (hG : GF W) (hn : x.o.length ≤ 150) :
  Calls Tryz.prog 8 #[unV u v0 v1, exV x ov] W (ascUR (unsN u x.o x.o.length) W) := by
 obtain ⟨oa, oc, rfl, hlen, hidx, hcell⟩ := InS.ob h.2
 obtain ⟨N, hN⟩ : ∃ N, N = x.o.length := ⟨_, rfl⟩
 obtain ⟨ha, hac, hv0⟩ := hu.1.shape
 obtain ⟨fa, fc, hv1⟩ := hu.2.shape
 have HX := Lib.hid (And.intro h (And.intro hn (And.intro hN hu)))
 have HR := Lib.hid (And.intro hr (And.intro hab (And.intro har (And.intro hop hG))))
 rw [← hN] at hidx hcell
 have hNb : N ≤ 150 := by rw [hN]; exact hn
 have HI := Lib.hid hidx
 have HC := Lib.hid hcell
 have HU0 := Lib.hid hu
 have HVV := Lib.hid (And.intro hv0 hv1)
 have H0 : Hid (Env W [fkC (W.heap.size + 1) [.int .i64 x.e, .slice oa N oc], fkC W.heap.size [v0, v1, .int .i64 u.mn]] ((W.alloc (.cells #[v0, v1, .int .i64 u.mn] 27)).alloc (.cells #[.int .i64 x.e, .slice oa N oc] 32))) := Lib.hid (by
  have := ((Env.refl W).alloc [v0, v1, .int .i64 u.mn] 27).alloc [.int .i64 x.e, .slice oa N oc] 32
  rw [World.size_alloc] at this
  exact this)
 rw [hv0, hv1] at H0
 rw [hv0, hv1]
 clear h hn hidx hcell hr hu hlen hv0 hv1 hab har hop hG
 rw [show exV x (.slice oa x.o.length oc) = exV x (.slice oa N oc) by rw [hN]]
 clear hN
 have hmm := @run_makeMap Tryz.prog
 unfold unV
 go_enter Tryz.func8, Tryz.ntmps8
 go_upto_region 2 with fail
 rw [← HVV.out.1, ← HVV.out.2] at H0 ⊢
 have hset := SetT.made Tryz.prog 47 4 ((W.alloc (.cells #[v0, v1, .int .i64 u.mn] 27)).alloc (.cells #[.int .i64 x.e, .slice oa N oc] 32)) (B := W.heap.size + 2) (by rw [World.size_alloc, World.size_alloc])
 have hev := H0.out.below ((Below.refl _ _).alloc (Nat.le_refl _) (.map #[] 0))
 refine gen_code (fun Z => SetT Tryz.prog 47 4 Z (W.heap.size + 2) 0 [] ∧ Env W [fkC (W.heap.size + 1) [.int .i64 x.e, .slice oa N oc], fkC W.heap.size [v0, v1, .int .i64 u.mn]] Z) ⟨hset, hev⟩ ?_
 intro W1 hz
 obtain ⟨bu, hbu⟩ : ∃ b, b = W.heap.size := ⟨_, rfl⟩
 obtain ⟨be, hbe⟩ : ∃ b, b = W.heap.size + 1 := ⟨_, rfl⟩
 obtain ⟨mb, hmb⟩ : ∃ b, b = W.heap.size + 2 := ⟨_, rfl⟩
 have HB := Lib.hid (And.intro hbu (And.intro hbe hmb))
 rw [← hmb, ← hbe, ← hbu] at hz ⊢
 have e1 := hz.2.cell 0 rfl 1 rfl
 have H1 : Hid (SetT Tryz.prog 47 4 W1 mb (unsN u x.o 0).length ((unsN u x.o 0).map pv) ∧ Env W [fkC be [.int .i64 x.e, .slice oa N oc], fkC bu [v0, v1, .int .i64 u.mn]] W1) := Lib.hid hz
 clear hset hev hz hmm H0 hmb hbe hbu
 go_wp2_with fail
 clear e1
 go_loopw [16] (fun y wr => ∃ i : Nat, i ≤ N ∧ y = .int .i64 (i : Int) ∧ Hid (SetT Tryz.prog 47 4 wr mb (unsN u x.o i).length ((unsN u x.o i).map pv) ∧ Env W [fkC be [.int .i64 x.e, .slice oa N oc], fkC bu [v0, v1, .int .i64 u.mn]] wr)) (fun y _ => N - (intOf y).toNat)
 case atStart => exact ⟨0, by omega, rfl, H1.out⟩
 case round =>
  obtain ⟨i, hi, rfl, hh⟩ := hrel
  have HL := Lib.hid hh.out
  clear hh
  by_cases hil : i < N
  ·have hili : (i : Int) < (N : Int) := by omega
   have hlt : decide ((i : Int) < (N : Int)) = true := decide_eq_true hili
   obtain ⟨hbl, vv, hbd, hvv, hcs⟩ := HC.out i hil
   obtain ⟨o0, o1, o2, o3, o4⟩ := hcs wr HL.out.2.bel
   have j1 := HI.out (i : Int) (by omega) (by omega)
   rw [Int.toNat_natCast] at j1
   obtain ⟨o, ho⟩ : ∃ o, o = nth x.o i := ⟨_, rfl⟩
   have hmem : o ∈ x.o := by rw [ho]; exact nth_mem _ _ (by rw [← HX.out.2.2.1]; exact hil)
   have hr := HR.out.1 o hmem
   have hab := HR.out.2.1 o hmem
   have har := HR.out.2.2.1 o hmem
   have hop := HR.out.2.2.2.1 o hmem
   have hup := unsN_next (u := u) (l := x.o) (k := i) (by rw [← HX.out.2.2.1]; exact hil)
   rw [← ho] at o0 o1 o2 o3 hbd hvv hup
   obtain ⟨va0, vc0, rfl⟩ := hvv.shape
   obtain ⟨N0, hN0⟩ : ∃ n, n = o.vs.length := ⟨_, rfl⟩
   rw [← hN0] at o4 hvv
   have HO := Lib.hid (And.intro hr (And.intro hup (And.intro hbd (And.intro hvv (And.intro hab (And.intro har (And.intro hop hN0)))))))
   obtain ⟨pf, hpf⟩ : ∃ q : Nat, o.f = (q : Int) := ⟨o.f.toNat, by have := hr.f; omega⟩
   obtain ⟨pi, hpi⟩ : ∃ q : Nat, o.i = (q : Int) := ⟨o.i.toNat, by have := hr.i; omega⟩
   have hE2 := HL.out.2.alloc [.int .i64 o.f, .int .i64 o.i, .int .i64 o.fr, .int .i64 o.c, .slice va0 N0 vc0] 53
   have hS2 := HL.out.1.kept (grownBy_alloc wr (.cells #[.int .i64 o.f, .int .i64 o.i, .int .i64 o.fr, .int .i64 o.c, .slice va0 N0 vc0] 53)) (by simp)
   have H2 := Lib.hid (And.intro hE2 (And.intro hS2 HL.out.1.lt))
   have hpf2 : o.f.toNat = pf := by omega
   have hpi2 : o.i.toNat = pi := by omega
   have hlf : pf < u.fs.length := by have := hr.f.2; omega
   have hli : pi < (nth u.fs pf).cd.length := by have := hr.i.2; rw [hpf2] at this; omega
   obtain ⟨y, hy⟩ : ∃ y, y = insO u o := ⟨_, rfl⟩
   have hyy : nth (nth u.fs pf).cd pi = y := by rw [hy]; unfold insO; rw [hpf2, hpi2]
   have HP := Lib.hid (And.intro hlf (And.intro hli (And.intro hyy (And.intro hy (And.intro hpf hpi)))))
   clear hbl hbd hvv hcs ho hr hup hE2 hS2 hmem hab har hop hN0 hpf hpi hpf2 hpi2 hlf hli hy hyy
   go_upto_region 5 with fail
   refine gen_code (fun Z => Env W [fkC wr.heap.size [.int .i64 o.f, .int .i64 o.i, .int .i64 o.fr, .int .i64 o.c, .slice va0 N0 vc0], fkC be [.int .i64 x.e, .slice oa N oc], fkC bu [v0, v1, .int .i64 u.mn]] Z ∧ SetT Tryz.prog 47 4 Z mb (unsN u x.o i).length ((unsN u x.o i).map pv)) ⟨H2.out.1, H2.out.2.1⟩ ?_
   intro W2 hz
   obtain ⟨bo, hbo⟩ : ∃ b, b = wr.heap.size := ⟨_, rfl⟩
   have HM := Lib.hid (show mb < bo by rw [hbo]; exact H2.out.2.2)
   rw [← hbo] at hz ⊢
   have HZ := Lib.hid hz
   obtain ⟨g0, g1, g2, g3, g4⟩ : W2.cell? ⟨bo, 0, none⟩ = some (.int .i64 o.f) ∧ W2.cell? ⟨bo, 1, none⟩ = some (.int .i64 o.i) ∧ W2.cell? ⟨bo, 2, none⟩ = some (.int .i64 o.fr) ∧ W2.cell? ⟨bo, 3, none⟩ = some (.int .i64 o.c) ∧ W2.cell? ⟨bo, 4, none⟩ = some (.slice va0 N0 vc0) := ⟨hz.1.cell 0 rfl 0 rfl, hz.1.cell 0 rfl 1 rfl, hz.1.cell 0 rfl 2 rfl, hz.1.cell 0 rfl 3 rfl, hz.1.cell 0 rfl 4 rfl⟩
   obtain ⟨u0, u1, u2⟩ : W2.cell? ⟨bu, 0, none⟩ = some v0 ∧ W2.cell? ⟨bu, 1, none⟩ = some v1 ∧ W2.cell? ⟨bu, 2, none⟩ = some (.int .i64 u.mn) := ⟨hz.1.cell 2 rfl 0 rfl, hz.1.cell 2 rfl 1 rfl, hz.1.cell 2 rfl 2 rfl⟩
   have hcall := oInstr_any u v0 v1 pf pi o.fr o.c (.slice va0 N0 vc0) W2 (HU0.out.below hz.1.bel) HP.out.1 HP.out.2.1 ⟨_, _, _, rfl⟩
   rw [HP.out.2.2.1, ← HP.out.2.2.2.2.1, ← HP.out.2.2.2.2.2] at hcall
   have HCL := Lib.hid hcall
   clear hbo hz H2 o0 o1 o2 o3 o4 j1 hlt hili HL hcall
   go_wp2_with fail
   refine HCL.out.mono ?_
   rintro e W4 ⟨yv, rfl, hyv, hb4⟩
   obtain ⟨ya, yc, hys⟩ := hyv.shape
   have hS4 := HZ.out.2.kept (grownBy_below hb4) (by simp)
   have hE4 := (HZ.out.1.below hb4).alloc [.int .i64 y.op, .int .i64 y.d, .int .i64 y.a, .int .i64 y.b, .int .i64 y.n, .string y.c, .string y.m, yv, .int .i64 y.g, .int .i64 y.ct] 79
   have hS5 := hS4.kept (grownBy_alloc W4 (.cells #[.int .i64 y.op, .int .i64 y.d, .int .i64 y.a, .int .i64 y.b, .int .i64 y.n, .string y.c, .string y.m, yv, .int .i64 y.g, .int .i64 y.ct] 79)) (by simp)
   have H4 := Lib.hid (And.intro hE4 (And.intro hS5 (And.intro (hb4.alloc hb4.size (.cells #[.int .i64 y.op, .int .i64 y.d, .int .i64 y.a, .int .i64 y.b, .int .i64 y.n, .string y.c, .string y.m, yv, .int .i64 y.g, .int .i64 y.ct] 79)) hyv)))
   have HY := Lib.hid hys
   rw [hys]
   clear hb4 HCL g0 g1 g2 g3 g4 u0 u1 u2 hS4 hE4 hS5 hyv hys
   go_upto_region 6 with fail
   rw [← HY.out]
   refine gen_code (fun Z => Env W [fkC W4.heap.size [.int .i64 y.op, .int .i64 y.d, .int .i64 y.a, .int .i64 y.b, .int .i64 y.n, .string y.c, .string y.m, yv, .int .i64 y.g, .int .i64 y.ct], fkC bo [.int .i64 o.f, .int .i64 o.i, .int .i64 o.fr, .int .i64 o.c, .slice va0 N0 vc0], fkC be [.int .i64 x.e, .slice oa N oc], fkC bu [v0, v1, .int .i64 u.mn]] Z ∧ SetT Tryz.prog 47 4 Z mb (unsN u x.o i).length ((unsN u x.o i).map pv) ∧ Below W2.heap.size W2 Z) ⟨H4.out.1, H4.out.2.1, H4.out.2.2.1⟩ ?_
   intro W5 hz
   obtain ⟨bc, hbc⟩ : ∃ b, b = W4.heap.size := ⟨_, rfl⟩
   rw [← hbc] at hz ⊢
   have HZ5 := Lib.hid hz
   have HYV := Lib.hid H4.out.2.2.2
   have HBC := Lib.hid hbc
   obtain ⟨c0, c1, c2, c3, c4, c5, c6, c7, c8, c9⟩ : W5.cell? ⟨bc, 0, none⟩ = some (.int .i64 y.op) ∧ W5.cell? ⟨bc, 1, none⟩ = some (.int .i64 y.d) ∧ W5.cell? ⟨bc, 2, none⟩ = some (.int .i64 y.a) ∧ W5.cell? ⟨bc, 3, none⟩ = some (.int .i64 y.b) ∧ W5.cell? ⟨bc, 4, none⟩ = some (.int .i64 y.n) ∧ W5.cell? ⟨bc, 5, none⟩ = some (.string y.c) ∧ W5.cell? ⟨bc, 6, none⟩ = some (.string y.m) ∧ W5.cell? ⟨bc, 7, none⟩ = some yv ∧ W5.cell? ⟨bc, 8, none⟩ = some (.int .i64 y.g) ∧ W5.cell? ⟨bc, 9, none⟩ = some (.int .i64 y.ct) := ⟨hz.1.cell 0 rfl 0 rfl, hz.1.cell 0 rfl 1 rfl, hz.1.cell 0 rfl 2 rfl, hz.1.cell 0 rfl 3 rfl, hz.1.cell 0 rfl 4 rfl, hz.1.cell 0 rfl 5 rfl, hz.1.cell 0 rfl 6 rfl, hz.1.cell 0 rfl 7 rfl, hz.1.cell 0 rfl 8 rfl, hz.1.cell 0 rfl 9 rfl⟩
   have hyo := HP.out.2.2.2.1
   have huses := iUses_any y yv W5 (HYV.out.below hz.2.2) (by rw [hyo]; exact HO.out.2.2.2.2.2.1) (by rw [hyo]; exact HO.out.2.2.2.2.1.1) (by rw [hyo]; exact HO.out.2.2.2.2.1.2) (by rw [hyo]; exact HO.out.2.2.2.2.2.2.1) (HR.out.2.2.2.2.below hz.1.bel)
   have HUS := Lib.hid huses
   clear hbc hz H4 huses hyo
   go_wp2_with fail
   refine HUS.out.mono ?_
   rintro e W6 ⟨ua, uc, rfl, huo, hui, hb6⟩
   obtain ⟨l, hl⟩ : ∃ l, l = usL y := ⟨_, rfl⟩
   have hE6 : Env W [fkC bo [.int .i64 o.f, .int .i64 o.i, .int .i64 o.fr, .int .i64 o.c, .slice va0 N0 vc0], fkC be [.int .i64 x.e, .slice oa N oc], fkC bu [v0, v1, .int .i64 u.mn]] W6 := (HZ5.out.1.below hb6).drop 1
   have hS6 := HZ5.out.2.1.kept (grownBy_below hb6) (by simp)
   have hll := usL_len y
   rw [← hl] at huo hui hll ⊢
   obtain ⟨NU, hNU⟩ : ∃ n, n = l.length := ⟨_, rfl⟩
   rw [← hNU] at huo hll ⊢
   have HL2 := Lib.hid (And.intro (show l = usL (insO u o) by rw [hl, HP.out.2.2.2.1]) (And.intro hNU hui))
   have hNUb : NU ≤ 1048578 := by have h9 := HO.out.2.2.2.2.2.1; rw [← HP.out.2.2.2.1] at h9; omega
   have H6 : Hid (SetT Tryz.prog 47 4 W6 mb (unsN u x.o i ++ unsP u o 0).length ((unsN u x.o i ++ unsP u o 0).map pv) ∧ Env W [fkC bo [.int .i64 o.f, .int .i64 o.i, .int .i64 o.fr, .int .i64 o.c, .slice va0 N0 vc0], fkC be [.int .i64 x.e, .slice oa N oc], fkC bu [v0, v1, .int .i64 u.mn]] W6 ∧ OwnE elI1 W6 (W5.heap.size + 1) 3 (.slice ua NU uc) l) := Lib.hid (by
    rw [unsP_zero, List.append_nil]
    exact ⟨hS6, hE6, huo⟩)
   have HMB := Lib.hid (show mb < W5.heap.size from HZ5.out.2.1.lt)
   clear hl huo hui hb6 hE6 hS6 hll hNU HUS c0 c1 c2 c3 c4 c5 c6 c7 c8 c9
   go_wp2_with fail
   go_loopw [31] (fun y9 wr => ∃ k : Nat, k ≤ NU ∧ y9 = .int .i64 (k : Int) ∧ Hid (SetT Tryz.prog 47 4 wr mb (unsN u x.o i ++ unsP u o k).length ((unsN u x.o i ++ unsP u o k).map pv) ∧ Env W [fkC bo [.int .i64 o.f, .int .i64 o.i, .int .i64 o.fr, .int .i64 o.c, .slice va0 N0 vc0], fkC be [.int .i64 x.e, .slice oa N oc], fkC bu [v0, v1, .int .i64 u.mn]] wr ∧ OwnE elI1 wr (W5.heap.size + 1) 3 (.slice ua NU uc) l)) (fun y9 _ => NU - (intOf y9).toNat)
   case atStart => exact ⟨0, by omega, rfl, H6.out⟩
   case round =>
    obtain ⟨k, hk, rfl, hh⟩ := hrel
    have HK := Lib.hid hh.out
    clear hh
    by_cases hkl : k < NU
    ·have hlt : decide ((k : Int) < (NU : Int)) = true := decide_eq_true (by omega)
     have hown : OwnE elI1 wr (W5.heap.size + 1) 3 (.slice ua l.length uc) l := by rw [← HL2.out.2.1]; exact HK.out.2.2
     obtain ⟨ri, rc⟩ := OwnE.reads (s := ⟨ua, l.length, uc⟩) hown sInt1
     have j1 := ri (k : Int) (by omega) (by rw [← HL2.out.2.1]; omega)
     have p0 := rc k (by rw [← HL2.out.2.1]; exact hkl) 0 _ rfl
     rw [Int.toNat_natCast] at j1
     simp only [show elI1.sz = 1 from rfl, Nat.mul_one, Nat.add_zero, Sl.v] at j1 p0
     rw [← HL2.out.2.1] at j1
     obtain ⟨v, hv⟩ : ∃ v, v = nth l k := ⟨_, rfl⟩
     rw [← hv] at p0
     have hvi : inI v := by rw [hv]; exact HL2.out.2.2 _ (nth_mem _ _ (by rw [← HL2.out.2.1]; exact hkl))
     have HVK := Lib.hid (And.intro (show k < (usL (insO u o)).length by rw [← HL2.out.1, ← HL2.out.2.1]; exact hkl) (And.intro (show v = nth (usL (insO u o)) k by rw [← HL2.out.1]; exact hv) hvi))
     have o4 := HK.out.2.1.cell 0 rfl 4 rfl
     clear hown ri rc hv hvi
     by_cases h0 : 0 ≤ v
     case neg =>
      have t1 : decide (v ≥ 0) = false := decide_eq_false (by omega)
      have HU := Lib.hid (unsP_no (u := u) (o := o) HVK.out.1 HVK.out.2.1 (fun h => h0 h.1))
      clear h0 o4
      go_wp2_with fail
      go_roundw
      case rel => exact ⟨k + 1, by omega, by go_num, by rw [HU.out]; exact HK.out⟩
      case measure => simp [intOf]; omega
     have t1 : decide (v ≥ 0) = true := decide_eq_true h0
     by_cases h1 : v < (N0 : Int)
     case neg =>
      have t2 : decide (v < (N0 : Int)) = false := decide_eq_false h1
      have HU := Lib.hid (unsP_no (u := u) (o := o) HVK.out.1 HVK.out.2.1 (fun h => h1 (by rw [HO.out.2.2.2.2.2.2.2]; exact h.2.1)))
      clear h0 h1
      go_wp2_with fail
      go_roundw
      case rel => exact ⟨k + 1, by omega, by go_num, by rw [HU.out]; exact HK.out⟩
      case measure => simp [intOf]; omega
     have t2 : decide (v < (N0 : Int)) = true := decide_eq_true h1
     obtain ⟨_, _, hsh, -, vi, vc⟩ := InS.vl (l := o.vs) (by have h9 := HO.out.2.2.2.1; rw [HO.out.2.2.2.2.2.2.2] at h9; exact h9)
     injection hsh with s1 s2 s3
     subst s1 s3
     rw [← HO.out.2.2.2.2.2.2.2] at vi vc
     have j2 := vi v h0 h1
     obtain ⟨-, -, vz⟩ := vc v.toNat (by omega)
     obtain ⟨z0, -, -⟩ := vz wr HK.out.2.1.bel
     obtain ⟨vl, hvl⟩ : ∃ x, x = nth o.vs v.toNat := ⟨_, rfl⟩
     rw [← hvl] at z0
     have HVL := Lib.hid (And.intro hvl (And.intro h0 (show v < (o.vs.length : Int) by rw [← HO.out.2.2.2.2.2.2.2]; exact h1)))
     clear vi vc vz hvl s2 h0 h1
     by_cases hk0 : vl.k = 0
     case neg =>
      have t3 : (vl.k == 0) = false := by simpa using hk0
      have HU := Lib.hid (unsP_no (u := u) (o := o) HVK.out.1 HVK.out.2.1 (fun h => hk0 (by rw [HVL.out.1]; exact h.2.2)))
      clear hk0
      go_wp2_with fail
      go_roundw
      case rel => exact ⟨k + 1, by omega, by go_num, by rw [HU.out]; exact HK.out⟩
      case measure => simp [intOf]; omega
     have t3 : (vl.k == 0) = true := by simpa using hk0
     have hup := unsP_yes (u := u) (o := o) HVK.out.1 HVK.out.2.1 ⟨HVL.out.2.1, HVL.out.2.2, by rw [← HVL.out.1]; exact hk0⟩
     obtain ⟨kl, hkl9⟩ := ukWf (o.f, o.i, v) ⟨HO.out.2.2.1.1, HO.out.2.2.1.2.1, HVK.out.2.2⟩
     have HUK := Lib.hid (And.intro hup hkl9)
     have hn9 : (unsN u x.o i ++ unsP u o k).length < maxLen := by
      have h1 := unsN_len (u := u) (K := 1048576) HR.out.2.2.1 i (by have := HX.out.2.2.1; omega)
      have h2 := unsP_len (u := u) o k
      have h3 := HO.out.2.2.2.2.2.1
      rw [List.length_append]
      unfold maxLen; omega
     have o0 := HK.out.2.1.cell 0 rfl 0 rfl
     have o1 := HK.out.2.1.cell 0 rfl 1 rfl
     clear hk0 hup hkl9
     go_wp2_with (at_mapUpdate; refine wp_setPut HK.out.1 rfl _ _ _ rfl ukKeyed Tryz.underlying84 Tryz.underlying4 rfl rfl hn9 (pv (o.f, o.i, v)) kl rfl HUK.out.2 ?_; intro W8 set8 g8; have H8 := Lib.hid (And.intro set8 g8); clear set8 g8)
     have H9 : Hid (SetT Tryz.prog 47 4 W8 mb (unsN u x.o i ++ unsP u o (k + 1)).length ((unsN u x.o i ++ unsP u o (k + 1)).map pv) ∧ Env W [fkC bo [.int .i64 o.f, .int .i64 o.i, .int .i64 o.fr, .int .i64 o.c, .slice va0 N0 vc0], fkC be [.int .i64 x.e, .slice oa N oc], fkC bu [v0, v1, .int .i64 u.mn]] W8 ∧ OwnE elI1 W8 (W5.heap.size + 1) 3 (.slice ua NU uc) l) := Lib.hid (by
      have hB := HB.out
      have hM := HM.out
      have hMB := HMB.out
      refine ⟨by rw [HUK.out.1, ← List.append_assoc, List.map_append, List.length_append]; exact H8.out.1, HK.out.2.1.grown H8.out.2 (fun q e => by have := Option.some.inj e; omega) (fun f hf hp => ?_), HK.out.2.2.grown H8.out.2 ?_⟩
      ·rcases List.mem_cons.1 hf with rfl | hf
       ·exact fkC_grown hp H8.out.2 (fun e => by have := Option.some.inj e; omega)
       ·rcases List.mem_cons.1 hf with rfl | hf
        ·exact fkC_grown hp H8.out.2 (fun e => by have := Option.some.inj e; omega)
        ·rw [List.mem_singleton.1 hf] at hp ⊢
         exact fkC_grown hp H8.out.2 (fun e => by have := Option.some.inj e; omega)
      ·cases hq : (Value.slice ua NU uc).ownBlock with
       | none => exact .inl rfl
       | some q => exact .inr fun e9 => by have h1 := (OwnE.lt HK.out.2.2 q hq).1; have := Option.some.inj e9; omega)
     clear H8
     go_roundw
     case rel => exact ⟨k + 1, by omega, by go_num, H9.out⟩
     case measure => simp [intOf]; omega
    ·obtain rfl : k = NU := by omega
     have HU := Lib.hid (show unsN u x.o (i + 1) = unsN u x.o i ++ unsP u o k by rw [HO.out.2.1, unsP_all (by rw [← HL2.out.1, ← HL2.out.2.1])])
     clear hkl
     go_wp2_with fail
     go_roundw
     case rel => exact ⟨i + 1, by omega, by go_num, by rw [HU.out]; exact ⟨HK.out.1, HK.out.2.1.drop 1⟩⟩
     case measure => simp [intOf]; omega
  ·obtain rfl : i = N := by omega
   have hs := HL.out.1
   have hin : ∀ z ∈ unsN u x.o i, inI z.1 ∧ inI z.2.1 ∧ inI z.2.2 := fun z hz => by
    rw [show unsN u x.o i = x.o.flatMap (unsL u) by rw [HX.out.2.2.1, unsN_all]] at hz
    obtain ⟨o, ho, hz⟩ := List.mem_flatMap.1 hz
    unfold unsL at hz
    obtain ⟨v, hv, he⟩ := List.mem_filterMap.1 hz
    unfold unsV at he
    split at he
    ·rename_i h9
     obtain rfl := (Option.some.inj he).symm
     obtain ⟨t, ht, rfl⟩ := mem_nth ho
     obtain ⟨-, vv, hbd, hvv, -⟩ := HC.out t (by rw [HX.out.2.2.1]; exact ht)
     obtain ⟨_, _, -, hlv, -, -⟩ := InS.vl hvv
     exact ⟨hbd.1, hbd.2.1, by unfold inI; dsimp only; omega⟩
    ·exact absurd he (by simp)
   have hlen9 : (unsN u x.o i).length ≤ 400000000 := by
    have h1 := unsN_len (u := u) (K := 1048576) HR.out.2.2.1 i (by rw [HX.out.2.2.1]; exact Nat.le_refl _)
    omega
   have ha := ascU_any mb _ (unsN u x.o i) wr hs (by omega) (by omega) hin
   rw [show unsN u x.o i = unsN u x.o x.o.length by rw [← HX.out.2.2.1]] at ha
   have HA := Lib.hid ha
   clear hs hin ha hlen9 hil
   go_wp2_with fail
   refine HA.out.mono ?_
   rintro e W5 ⟨a, c, L, rfl, ho, hp, hm, hb⟩
   have H5 := Lib.hid (And.intro (ho.mono9 HL.out.2.bel.size) (And.intro hp (And.intro hm (HL.out.2.bel.trans (hb.mono HL.out.2.bel.size)))))
   clear ho hp hm hb HA
   go_wp2_with fail
   go_ret
   exact ⟨a, c, L, rfl, H5.out.1, H5.out.2.1, H5.out.2.2.1, H5.out.2.2.2⟩
end Go.Proofs.YtnklnklkblgnfaaGreatDoor
end
section
namespace Go.Proofs.YtnklnklkblgnfaaGreatDoor
open Go.RowKit Go.Dfl Go.Gra Go.Obs Go.Hir Go.Sort Go.Maps
set_option maxHeartbeats 6400000 in
set_option maxRecDepth 100000 in
theorem calls_any (u : Un) (v0 v1 : Value) (x : Ex) (ov : Value) (W : World) (hu : UnIn W v0 v1 u) (h : ExIn W ov x) (hr : ∀ o ∈ x.o, ObIn u x.o o) (hn : x.o.length ≤ 1048576) :
  Calls Tryz.prog 7 #[unV u v0 v1, exV x ov] W (ascCR (edgN x.o x.o.length) W) := by
 obtain ⟨oa, oc, rfl, hlen, hidx, hcell⟩ := InS.ob h.2
 obtain ⟨N, hN⟩ : ∃ N, N = x.o.length := ⟨_, rfl⟩
 obtain ⟨ha, hac, rfl⟩ := hu.1.shape
 obtain ⟨fa, fc, rfl⟩ := hu.2.shape
 have HX := Lib.hid (And.intro h (And.intro hn (And.intro hN hu)))
 have HR := Lib.hid hr
 rw [← hN] at hidx hcell
 have hNb : N ≤ 1048576 := by rw [hN]; exact hn
 have HI := Lib.hid hidx
 have HC := Lib.hid hcell
 obtain ⟨v0, hv0⟩ : ∃ v, v = Value.slice ha u.cs.length hac := ⟨_, rfl⟩
 obtain ⟨v1, hv1⟩ : ∃ v, v = Value.slice fa u.fs.length fc := ⟨_, rfl⟩
 have HV := Lib.hid (And.intro hv0 hv1)
 have HU0 : Hid (UnIn W v0 v1 u) := Lib.hid (by rw [hv0, hv1]; exact hu)
 have H0 := Lib.hid (((Env.refl W).alloc [.slice ha u.cs.length hac, .slice fa u.fs.length fc, .int .i64 u.mn] 27).alloc [.int .i64 x.e, .slice oa N oc] 32)
 rw [World.size_alloc] at H0
 clear h hn hidx hcell hr hu hlen hv0 hv1
 rw [show exV x (.slice oa x.o.length oc) = exV x (.slice oa N oc) by rw [hN]]
 clear hN
 have hmm := @run_makeMap Tryz.prog
 unfold unV
 go_enter Tryz.func7, Tryz.ntmps7
 go_upto_region 2 with fail
 have hset := SetT.made Tryz.prog 43 4 ((W.alloc (.cells #[.slice ha u.cs.length hac, .slice fa u.fs.length fc, .int .i64 u.mn] 27)).alloc (.cells #[.int .i64 x.e, .slice oa N oc] 32)) (B := W.heap.size + 2) (by rw [World.size_alloc, World.size_alloc])
 have hev := H0.out.below ((Below.refl _ _).alloc (Nat.le_refl _) (.map #[] 0))
 refine gen_code (fun Z => SetT Tryz.prog 43 4 Z (W.heap.size + 2) 0 [] ∧ Env W [fkC (W.heap.size + 1) [.int .i64 x.e, .slice oa N oc], fkC W.heap.size [.slice ha u.cs.length hac, .slice fa u.fs.length fc, .int .i64 u.mn]] Z) ⟨hset, hev⟩ ?_
 intro W1 hz
 obtain ⟨bu, hbu⟩ : ∃ b, b = W.heap.size := ⟨_, rfl⟩
 obtain ⟨be, hbe⟩ : ∃ b, b = W.heap.size + 1 := ⟨_, rfl⟩
 obtain ⟨mb, hmb⟩ : ∃ b, b = W.heap.size + 2 := ⟨_, rfl⟩
 have HB := Lib.hid (And.intro hbu (And.intro hbe hmb))
 rw [← hmb, ← hbe, ← hbu] at hz ⊢
 rw [← HV.out.1, ← HV.out.2] at hz
 have e1 := hz.2.cell 0 rfl 1 rfl
 have H1 : Hid (SetT Tryz.prog 43 4 W1 mb (edgN x.o 0).length ((edgN x.o 0).map pv) ∧ Env W [fkC be [.int .i64 x.e, .slice oa N oc], fkC bu [v0, v1, .int .i64 u.mn]] W1) := Lib.hid hz
 clear hset hev hz hmm H0 hmb hbe hbu
 go_wp2_with fail
 clear e1
 go_loopw [15] (fun y wr => ∃ i : Nat, i ≤ N ∧ y = .int .i64 (i : Int) ∧ Hid (SetT Tryz.prog 43 4 wr mb (edgN x.o i).length ((edgN x.o i).map pv) ∧ Env W [fkC be [.int .i64 x.e, .slice oa N oc], fkC bu [v0, v1, .int .i64 u.mn]] wr)) (fun y _ => N - (intOf y).toNat)
 case atStart => exact ⟨0, by omega, rfl, H1.out⟩
 case round =>
  obtain ⟨i, hi, rfl, hh⟩ := hrel
  have HL := Lib.hid hh.out
  clear hh
  by_cases hil : i < N
  ·have hili : (i : Int) < (N : Int) := by omega
   have hlt : decide ((i : Int) < (N : Int)) = true := decide_eq_true hili
   obtain ⟨hbl, vv, hbd, hvv, hcs⟩ := HC.out i hil
   obtain ⟨o0, o1, o2, o3, o4⟩ := hcs wr HL.out.2.bel
   have j1 := HI.out (i : Int) (by omega) (by omega)
   rw [Int.toNat_natCast] at j1
   obtain ⟨o, ho⟩ : ∃ o, o = nth x.o i := ⟨_, rfl⟩
   have hr := HR.out o (by rw [ho]; exact nth_mem _ _ (by rw [← HX.out.2.2.1]; exact hil))
   have hup := edgN_next (ob := x.o) (k := i) (by rw [← HX.out.2.2.1]; exact hil)
   rw [← ho] at o0 o1 o2 o3 hbd hvv hup
   have HO := Lib.hid (And.intro hr (And.intro hup (And.intro hbd hvv)))
   have hE2 := HL.out.2.alloc [.int .i64 o.f, .int .i64 o.i, .int .i64 o.fr, .int .i64 o.c, vv] 53
   have hS2 := HL.out.1.kept (grownBy_alloc wr (.cells #[.int .i64 o.f, .int .i64 o.i, .int .i64 o.fr, .int .i64 o.c, vv] 53)) (by simp)
   have H2 := Lib.hid (And.intro hE2 (And.intro hS2 HL.out.1.lt))
   obtain ⟨va, vc, rfl⟩ := hvv.shape
   clear hbl hbd hvv hcs ho hr hup hE2 hS2
   go_upto_region 5 with fail
   refine gen_code (fun Z => Env W [fkC wr.heap.size [.int .i64 o.f, .int .i64 o.i, .int .i64 o.fr, .int .i64 o.c, .slice va o.vs.length vc], fkC be [.int .i64 x.e, .slice oa N oc], fkC bu [v0, v1, .int .i64 u.mn]] Z ∧ SetT Tryz.prog 43 4 Z mb (edgN x.o i).length ((edgN x.o i).map pv)) ⟨H2.out.1, H2.out.2.1⟩ ?_
   intro W2 hz
   obtain ⟨bo, hbo⟩ : ∃ b, b = wr.heap.size := ⟨_, rfl⟩
   have HM := Lib.hid (show mb < bo by rw [hbo]; exact H2.out.2.2)
   rw [← hbo] at hz ⊢
   have HZ := Lib.hid hz
   have c3 := hz.1.cell 0 rfl 3 rfl
   have e1 := hz.1.cell 1 rfl 1 rfl
   clear hbo hz H2 o0 o1 o2 o3 o4 j1 hlt hili HL
   rcases HO.out.1.c with hc | ⟨hc0, hc1, hcop⟩
   ·have t1 : decide (o.c < 0) = true := decide_eq_true hc
    have hmore := edgL_no (ob := x.o) (o := o) (by omega)
    have HU := Lib.hid (show edgN x.o (i + 1) = edgN x.o i by rw [HO.out.2.1, hmore, List.append_nil])
    clear hc hmore
    go_wp2_with fail
    go_roundw
    case rel => exact ⟨i + 1, by omega, by go_num, by rw [HU.out]; exact ⟨HZ.out.2, HZ.out.1.drop 1⟩⟩
    case measure => simp [intOf]; omega
   ·obtain ⟨k, hk⟩ : ∃ k : Nat, o.c = (k : Int) := ⟨o.c.toNat, by omega⟩
    have hk2 : o.c.toNat = k := by omega
    have hmore := edgL_yes (ob := x.o) (o := o) hc0
    rw [hk] at c3
    rw [hk2] at hcop hmore
    have hkN : k < N := by have := HX.out.2.2.1; omega
    obtain ⟨p, hp⟩ : ∃ p, p = nth x.o k := ⟨_, rfl⟩
    have hpr := HR.out p (by rw [hp]; exact nth_mem _ _ (by rw [← HX.out.2.2.1]; exact hkN))
    obtain ⟨-, vp, hbd, hvp, hcs⟩ := HC.out k hkN
    rw [← hp] at hcop hbd hvp hcs hmore
    obtain ⟨pf, hpf⟩ : ∃ q : Nat, p.f = (q : Int) := ⟨p.f.toNat, by have := hpr.f; omega⟩
    obtain ⟨pi, hpi⟩ : ∃ q : Nat, p.i = (q : Int) := ⟨p.i.toNat, by have := hpr.i; omega⟩
    have hpf2 : p.f.toNat = pf := by omega
    have hpi2 : p.i.toNat = pi := by omega
    have hlf : pf < u.fs.length := by have := hpr.f.2; omega
    have hli : pi < (nth u.fs pf).cd.length := by have := hpr.i.2; rw [hpf2] at this; omega
    obtain ⟨p0, p1, p2, p3, p4⟩ := hcs W2 HZ.out.1.bel
    rw [hpf] at p0
    rw [hpi] at p1
    obtain ⟨y, hy⟩ : ∃ y, y = nth (nth u.fs pf).cd pi := ⟨_, rfl⟩
    have hop : y.op = 9 ∨ y.op = 10 := by unfold insO at hcop; rw [hpf2, hpi2, ← hy] at hcop; exact hcop
    rw [hpf, hpi] at hmore
    obtain ⟨sa, sc, rfl⟩ := hvp.shape
    have HP := Lib.hid (And.intro hlf (And.intro hli (And.intro hy (And.intro hop (And.intro (show edgN x.o (i + 1) = edgN x.o i ++ [((pf : Int), (pi : Int), o.f)] by rw [HO.out.2.1, hmore]) (show inI (pf : Int) ∧ inI (pi : Int) by rw [← hpf, ← hpi]; exact ⟨hbd.1, hbd.2.1⟩))))))
    have j2 := HI.out (k : Int) (by omega) (by omega)
    rw [Int.toNat_natCast] at j2
    have t1 : decide ((k : Int) < 0) = false := decide_eq_false (by omega)
    have t2 : decide ((N : Int) ≤ (k : Int)) = false := decide_eq_false (by omega)
    have t3 : decide (N ≤ k) = false := decide_eq_false (by omega)
    obtain ⟨P, hP⟩ : ∃ P, P = p.vs.length := ⟨_, rfl⟩
    rw [← hP] at p4
    obtain ⟨pr, hpr2⟩ : ∃ q, q = p.fr := ⟨_, rfl⟩
    obtain ⟨pc, hpc⟩ : ∃ q, q = p.c := ⟨_, rfl⟩
    rw [← hpr2] at p2
    rw [← hpc] at p3
    clear hc0 hc1 hcop hk hk2 hmore hp hpr hbd hvp hcs hpf hpi hpf2 hpi2 hlf hli hy hop hP hpr2 hpc hkN
    have hE3 := HZ.out.1.alloc [.int .i64 (pf : Int), .int .i64 (pi : Int), .int .i64 pr, .int .i64 pc, .slice sa P sc] 53
    have hS3 := HZ.out.2.kept (grownBy_alloc W2 (.cells #[.int .i64 (pf : Int), .int .i64 (pi : Int), .int .i64 pr, .int .i64 pc, .slice sa P sc] 53)) (by simp)
    have H3 := Lib.hid (And.intro hE3 (And.intro hS3 HZ.out.2.lt))
    clear hE3 hS3
    go_upto_region 7 with fail
    refine gen_code (fun Z => Env W [fkC W2.heap.size [.int .i64 (pf : Int), .int .i64 (pi : Int), .int .i64 pr, .int .i64 pc, .slice sa P sc], fkC bo [.int .i64 o.f, .int .i64 o.i, .int .i64 o.fr, .int .i64 o.c, .slice va o.vs.length vc], fkC be [.int .i64 x.e, .slice oa N oc], fkC bu [v0, v1, .int .i64 u.mn]] Z ∧ SetT Tryz.prog 43 4 Z mb (edgN x.o i).length ((edgN x.o i).map pv)) ⟨H3.out.1, H3.out.2.1⟩ ?_
    intro W3 hz
    obtain ⟨bp, hbp⟩ : ∃ b, b = W2.heap.size := ⟨_, rfl⟩
    have HM3 := Lib.hid (show mb < bp by rw [hbp]; exact H3.out.2.2)
    rw [← hbp] at hz ⊢
    have HZ3 := Lib.hid hz
    obtain ⟨g0, g1, g2, g3, g4⟩ : W3.cell? ⟨bp, 0, none⟩ = some (.int .i64 (pf : Int)) ∧ W3.cell? ⟨bp, 1, none⟩ = some (.int .i64 (pi : Int)) ∧ W3.cell? ⟨bp, 2, none⟩ = some (.int .i64 pr) ∧ W3.cell? ⟨bp, 3, none⟩ = some (.int .i64 pc) ∧ W3.cell? ⟨bp, 4, none⟩ = some (.slice sa P sc) := ⟨hz.1.cell 0 rfl 0 rfl, hz.1.cell 0 rfl 1 rfl, hz.1.cell 0 rfl 2 rfl, hz.1.cell 0 rfl 3 rfl, hz.1.cell 0 rfl 4 rfl⟩
    obtain ⟨u0, u1, u2⟩ : W3.cell? ⟨bu, 0, none⟩ = some v0 ∧ W3.cell? ⟨bu, 1, none⟩ = some v1 ∧ W3.cell? ⟨bu, 2, none⟩ = some (.int .i64 u.mn) := ⟨hz.1.cell 3 rfl 0 rfl, hz.1.cell 3 rfl 1 rfl, hz.1.cell 3 rfl 2 rfl⟩
    have hcall := oInstr_any u v0 v1 pf pi pr pc (.slice sa P sc) W3 (HU0.out.below hz.1.bel) HP.out.1 HP.out.2.1 ⟨_, _, _, rfl⟩
    rw [← HP.out.2.2.1] at hcall
    have HCL := Lib.hid hcall
    clear hbp hz H3 c3 e1 p0 p1 p2 p3 p4 j2 t1 t2 t3 hcall
    go_wp2_with fail
    refine HCL.out.mono ?_
    rintro e W4 ⟨yv, rfl, hyv, hb4⟩
    obtain ⟨ya, yc, hys⟩ := hyv.shape
    have hS4 := HZ3.out.2.kept (grownBy_below hb4) (by simp)
    have hE4 := (HZ3.out.1.below hb4).alloc [.int .i64 y.op, .int .i64 y.d, .int .i64 y.a, .int .i64 y.b, .int .i64 y.n, .string y.c, .string y.m, yv, .int .i64 y.g, .int .i64 y.ct] 79
    have hS5 := hS4.kept (grownBy_alloc W4 (.cells #[.int .i64 y.op, .int .i64 y.d, .int .i64 y.a, .int .i64 y.b, .int .i64 y.n, .string y.c, .string y.m, yv, .int .i64 y.g, .int .i64 y.ct] 79)) (by simp)
    have H4 := Lib.hid (And.intro hE4 hS5)
    have HY := Lib.hid hys
    rw [hys]
    clear hb4 HCL g0 g1 g2 g3 g4 u0 u1 u2 hS4 hE4 hS5 hyv hys
    go_upto_region 8 with fail
    rw [← HY.out]
    refine gen_code (fun Z => Env W [fkC W4.heap.size [.int .i64 y.op, .int .i64 y.d, .int .i64 y.a, .int .i64 y.b, .int .i64 y.n, .string y.c, .string y.m, yv, .int .i64 y.g, .int .i64 y.ct], fkC bp [.int .i64 (pf : Int), .int .i64 (pi : Int), .int .i64 pr, .int .i64 pc, .slice sa P sc], fkC bo [.int .i64 o.f, .int .i64 o.i, .int .i64 o.fr, .int .i64 o.c, .slice va o.vs.length vc], fkC be [.int .i64 x.e, .slice oa N oc], fkC bu [v0, v1, .int .i64 u.mn]] Z ∧ SetT Tryz.prog 43 4 Z mb (edgN x.o i).length ((edgN x.o i).map pv)) H4.out ?_
    intro W5 hz
    obtain ⟨bc, hbc⟩ : ∃ b, b = W4.heap.size := ⟨_, rfl⟩
    rw [← hbc] at hz ⊢
    have HZ5 := Lib.hid hz
    have c0 := hz.1.cell 0 rfl 0 rfl
    have p0 := hz.1.cell 1 rfl 0 rfl
    have p1 := hz.1.cell 1 rfl 1 rfl
    have q0 := hz.1.cell 2 rfl 0 rfl
    have hpr := HO.out.2.2.1
    obtain ⟨kl, hkl⟩ := ckWf ((pf : Int), (pi : Int), o.f) ⟨HP.out.2.2.2.2.2.1, HP.out.2.2.2.2.2.2, hpr.1⟩
    have HUK := Lib.hid hkl
    have hn9 : (edgN x.o i).length < maxLen := by
     have h1 := edgN_len x.o i (by have := HX.out.2.2.1; omega)
     have h2 := HX.out.2.1
     have h3 := HX.out.2.2.1
     unfold maxLen; omega
    clear hbc hz H4 hkl hpr
    have hstep : ∀ t, t = y.op → (t == 9 || t == 10) = true := fun t ht => by
     rcases HP.out.2.2.2.1 with h | h <;> rw [ht, h] <;> rfl
    have HST := Lib.hid hstep
    clear hstep
    go_cut [52] (fun q wx => q = .bool true ∧ wx = W5)
    case first =>
     rcases HP.out.2.2.2.1 with h | h
     ·have t1 : (y.op == 9) = true := by simp [h]
      clear h
      go_wp2_with fail
      go_meet
      case rel => exact ⟨rfl, rfl⟩
     ·have t1 : (y.op == 9) = false := by simp [h]
      have t2 : (y.op == 10) = true := by simp [h]
      clear h
      go_wp2_with fail
      go_meet
      case rel => exact ⟨rfl, rfl⟩
    case rest =>
    obtain ⟨rfl, rfl⟩ := hcut
    go_wp2_with (at_mapUpdate; refine wp_setPut HZ5.out.2 rfl _ _ _ rfl ckKeyed Tryz.underlying76 Tryz.underlying4 rfl rfl hn9 (pv ((pf : Int), (pi : Int), o.f)) kl rfl HUK.out ?_; intro W8 set8 g8; have H8 := Lib.hid (And.intro set8 g8); clear set8 g8)
    have H9 : Hid (SetT Tryz.prog 43 4 W8 mb (edgN x.o (i + 1)).length ((edgN x.o (i + 1)).map pv) ∧ Env W [fkC be [.int .i64 x.e, .slice oa N oc], fkC bu [v0, v1, .int .i64 u.mn]] W8) := Lib.hid (by
     have hB := HB.out
     refine ⟨by rw [HP.out.2.2.2.2.1, List.map_append, List.length_append]; exact H8.out.1, (HZ5.out.1.drop 3).grown H8.out.2 (fun q e => by have := Option.some.inj e; omega) (fun f hf hp => ?_)⟩
     rcases List.mem_cons.1 hf with rfl | hf
     ·exact fkC_grown hp H8.out.2 (fun e => by have := Option.some.inj e; omega)
     ·rw [List.mem_singleton.1 hf] at hp ⊢
      exact fkC_grown hp H8.out.2 (fun e => by have := Option.some.inj e; omega))
    clear H8
    go_roundw
    case rel => exact ⟨i + 1, by omega, by go_num, H9.out⟩
    case measure => simp [intOf]; omega
  ·obtain rfl : i = N := by omega
   have hs := HL.out.1
   have hin : ∀ z ∈ edgN x.o i, inI z.1 ∧ inI z.2.1 ∧ inI z.2.2 := fun z hz => by
    rw [show edgN x.o i = x.o.flatMap (edgL x.o) by rw [HX.out.2.2.1, edgN_all]] at hz
    obtain ⟨o, ho, hz⟩ := List.mem_flatMap.1 hz
    have hro := HR.out o ho
    unfold edgL at hz
    split at hz
    ·rename_i h9
     rw [List.mem_singleton] at hz
     subst hz
     have hc := hro.c
     obtain ⟨t, ht, rfl⟩ := mem_nth ho
     obtain ⟨-, -, hbd, -⟩ := HC.out t (by rw [HX.out.2.2.1]; exact ht)
     obtain ⟨-, -, hbd2, -⟩ := HC.out (nth x.o t).c.toNat (by rw [HX.out.2.2.1]; omega)
     exact ⟨hbd2.1, hbd2.2.1, hbd.1⟩
    ·exact absurd hz (by simp)
   have hlen9 : (edgN x.o i).length ≤ 1048576 := Nat.le_trans (edgN_len x.o i (by rw [HX.out.2.2.1]; exact Nat.le_refl _)) (by have := HX.out.2.1; have := HX.out.2.2.1; omega)
   have ha := ascC_any mb _ (edgN x.o i) wr hs (by omega) (by omega) hin
   rw [show edgN x.o i = edgN x.o x.o.length by rw [← HX.out.2.2.1]] at ha
   have HA := Lib.hid ha
   clear hs hin ha hlen9 hil
   go_wp2_with fail
   refine HA.out.mono ?_
   rintro e W5 ⟨a, c, L, rfl, ho, hp, hm, hb⟩
   have H5 := Lib.hid (And.intro (ho.mono9 HL.out.2.bel.size) (And.intro hp (And.intro hm (HL.out.2.bel.trans (hb.mono HL.out.2.bel.size)))))
   clear ho hp hm hb HA
   go_wp2_with fail
   go_ret
   exact ⟨a, c, L, rfl, H5.out.1, H5.out.2.1, H5.out.2.2.1, H5.out.2.2.2⟩
end Go.Proofs.YtnklnklkblgnfaaGreatDoor
end
section
namespace Go.Proofs.YtnklnklkblgnfaaGreatDoor
open Go.RowKit Go.Dfl Go.Obs Go.Hir
theorem sum_mem9 {α : Type} (f : α → Nat) : ∀ (l : List α) (x : α), x ∈ l → f x ≤ (l.map f).sum
 | [], _, h => by simp at h
 | a :: l, x, h => by
   rw [List.map_cons, List.sum_cons]
   rcases List.mem_cons.1 h with rfl | h
   ·omega
   ·have := sum_mem9 f l x h; omega
theorem sum_le9 {α : Type} (f g : α → Nat) (h : ∀ x, f x ≤ g x) : ∀ l : List α, (l.map f).sum ≤ (l.map g).sum
 | [] => Nat.le_refl _
 | a :: l => by
   rw [List.map_cons, List.map_cons, List.sum_cons, List.sum_cons]
   have := sum_le9 f g h l
   have := h a
   omega
theorem sum_one9 {α : Type} (f : α → Nat) (h : ∀ x, 1 ≤ f x) : ∀ l : List α, l.length ≤ (l.map f).sum
 | [] => Nat.le_refl _
 | a :: l => by
   rw [List.map_cons, List.sum_cons, List.length_cons]
   have := sum_one9 f h l
   have := h a
   omega
section
variable {α : Type} [Inhabited α]
theorem wt_len (V : Vw α) (h : ∀ x, 1 ≤ V.wt x) (l : List α) : l.length ≤ (vL V).wt l := by
 show l.length ≤ (l.map V.wt).sum + 1
 have := sum_one9 V.wt h l
 omega
theorem wt_mem (V : Vw α) {l : List α} {x : α} (h : x ∈ l) : V.wt x ≤ (vL V).wt l := by
 show V.wt x ≤ (l.map V.wt).sum + 1
 have := sum_mem9 V.wt l x h
 omega
theorem wt_sum (V : Vw α) (f : α → Nat) (h : ∀ x, f x ≤ V.wt x) (l : List α) : (l.map f).sum ≤ (vL V).wt l := by
 show (l.map f).sum ≤ (l.map V.wt).sum + 1
 have := sum_le9 f V.wt h l
 omega
end
theorem vd1 (x : Vd) : 1 ≤ vVd.wt x := by show 1 ≤ (x.n.size + 1) + (x.t.size + 1) + 1; omega
theorem sg1 (x : Sg) : 1 ≤ vSg.wt x := by show 1 ≤ (x.n.size + 1) + 1 + (vL vS).wt x.ps + (x.r.size + 1) + 1; omega
theorem s1 (x : ByteArray) : 1 ≤ vS.wt x := by show 1 ≤ x.size + 1; omega
theorem i1w (x : Int) : 1 ≤ vI.wt x := Nat.le_refl _
theorem is1 (x : Is) : 1 ≤ vIs.wt x := by show 1 ≤ 1 + 1 + 1 + 1 + 1 + (x.c.size + 1) + (x.m.size + 1) + (vL vI).wt x.ar + 1 + 1 + 1; omega
theorem cl_fs (x : Cl) : x.fs.length ≤ vCl.wt x := by
 show _ ≤ (x.n.size + 1) + (x.s.size + 1) + (vL vVd).wt x.fs + (vL vSg).wt x.ms + 1
 have := wt_len vVd vd1 x.fs
 omega
theorem cl_ms (x : Cl) : x.ms.length ≤ vCl.wt x := by
 show _ ≤ (x.n.size + 1) + (x.s.size + 1) + (vL vVd).wt x.fs + (vL vSg).wt x.ms + 1
 have := wt_len vSg sg1 x.ms
 omega
theorem cl_sg (x : Cl) {s : Sg} (h : s ∈ x.ms) : s.ps.length ≤ vCl.wt x := by
 show _ ≤ (x.n.size + 1) + (x.s.size + 1) + (vL vVd).wt x.fs + (vL vSg).wt x.ms + 1
 have h1 := wt_mem vSg h
 have h2 : s.ps.length ≤ vSg.wt s := by
  show _ ≤ (s.n.size + 1) + 1 + (vL vS).wt s.ps + (s.r.size + 1) + 1
  have := wt_len vS s1 s.ps
  omega
 omega
theorem fu_cd (x : Fu) : x.cd.length ≤ vFu.wt x := by
 show _ ≤ (x.c.size + 1) + (x.m.size + 1) + 1 + 1 + (vL vVd).wt x.vs + (x.r.size + 1) + (vL vIs).wt x.cd + 1
 have := wt_len vIs is1 x.cd
 omega
theorem fu_ar (x : Fu) {y : Is} (h : y ∈ x.cd) : y.ar.length ≤ vFu.wt x := by
 show _ ≤ (x.c.size + 1) + (x.m.size + 1) + 1 + 1 + (vL vVd).wt x.vs + (x.r.size + 1) + (vL vIs).wt x.cd + 1
 have h1 := wt_mem vIs h
 have h2 : y.ar.length ≤ vIs.wt y := by
  show _ ≤ 1 + 1 + 1 + 1 + 1 + (y.c.size + 1) + (y.m.size + 1) + (vL vI).wt y.ar + 1 + 1 + 1
  have := wt_len vI i1w y.ar
  omega
 omega
theorem siL_len9 (i : Nat) (f : Fu) : ∀ k, (siL i f k).length ≤ k ∧ (siL i f k).length ≤ f.cd.length
 | 0 => by rw [siL_zero]; simp
 | k + 1 => by
   obtain ⟨h1, h2⟩ := siL_len9 i f k
   by_cases h : (nth f.cd k).op = 6
   ·rw [siL_yes h, List.length_append, List.length_singleton]
    have hk : k < f.cd.length := by
     by_cases hk : k < f.cd.length
     ·exact hk
     ·rw [nth_out _ _ (by omega)] at h
      exact absurd h (by decide)
    omega
   ·rw [siL_no h]; omega
theorem siU_len9 (fs : List Fu) (i k : Nat) : (siU fs i k).length ≤ cdN fs := by
 have key : ∀ n, ((List.range n).flatMap fun a => siL a (nth fs a) (nth fs a).cd.length).length ≤ ((fs.take n).map fun f => f.cd.length).sum := by
  intro n
  induction n with
  | zero => simp
  | succ n ih =>
    rw [List.range_succ, List.flatMap_append, List.length_append]
    by_cases hn : n < fs.length
    ·rw [take_snoc _ _ hn, List.map_append, List.sum_append]
     have := (siL_len9 n (nth fs n) (nth fs n).cd.length).1
     simp at *
     omega
    ·have e1 : nth fs n = default := nth_out _ _ (by omega)
     have e2 : (siL n (default : Fu) (default : Fu).cd.length).length = 0 := rfl
     rw [List.take_of_length_le (by omega)] at ih ⊢
     simp only [List.flatMap_cons, List.flatMap_nil, List.append_nil, e1, e2]
     exact ih
 have h1 := key i
 have h2 := (siL_len9 i (nth fs i) k).2
 unfold siU cdN
 rw [List.length_append]
 by_cases hi : i < fs.length
 ·have h3 : ((fs.take i).map fun f => f.cd.length).sum + (nth fs i).cd.length ≤ (fs.map fun f => f.cd.length).sum := by
   conv => rhs; rw [← List.take_append_drop i fs, List.map_append, List.sum_append]
   have : fs.drop i = nth fs i :: fs.drop (i + 1) := by rw [nth_eq _ _ hi]; exact (List.getElem_cons_drop hi).symm
   rw [this]
   simp
  omega
 ·rw [nth_out _ _ (by omega)] at h2 ⊢
  rw [List.take_of_length_le (by omega)] at h1
  have : (default : Fu).cd.length = 0 := rfl
  omega
structure UnS (u : Un) : Prop where
 w : UnW u
 f : ∀ d ∈ u.cs, d.fs.length ≤ 1048576
 c : cdN u.fs ≤ 1048576
 s : ∀ i k, ((siU u.fs i k).length : Int) ≤ 9223372036854775807
theorem unit_small {u : Un} (h : vUnit.wt u ≤ 1048576) : UnS u := by
 have h0 : (vL vCl).wt u.cs + 1 + (vL vFu).wt u.fs + 1 + 1 ≤ 1048576 := h
 have hc : cdN u.fs ≤ 1048576 := by
  have := wt_sum vFu (fun f => f.cd.length) fu_cd u.fs
  unfold cdN
  omega
 refine ⟨⟨?_, fun c hc s hs => ?_, fun f hf x hx => ?_⟩, fun d hd => ?_, hc, fun i k => ?_⟩
 ·have := wt_sum vCl (fun c => c.ms.length) cl_ms u.cs
  unfold off
  rw [List.take_length]
  omega
 ·have := wt_mem vCl hc
  have := cl_sg c hs
  omega
 ·have := wt_mem vFu hf
  have := fu_ar f hx
  omega
 ·have := wt_mem vCl hd
  have := cl_fs d
  omega
 ·have := siU_len9 u.fs i k
  omega
theorem unit_ints {W : World} {v0 v1 : Value} {u : Un} (h : UnIn W v0 v1 u) : ∀ f ∈ u.fs, ∀ x ∈ f.cd, R64 x.n := by
 intro f hf x hx
 obtain ⟨i, hi, rfl⟩ := mem_nth hf
 obtain ⟨j, hj, rfl⟩ := mem_nth hx
 obtain ⟨fa, fc, -, -, -, hfc⟩ := InS.fu h.2
 obtain ⟨-, v4, v6, ⟨-, -, -, -, -, h6⟩, -⟩ := hfc i hi
 obtain ⟨xa, xc, -, -, -, hxc⟩ := InS.is h6
 obtain ⟨-, v7, ⟨-, -, -, -, hn, -⟩, -⟩ := hxc j hj
 exact hn
theorem ints_r64 {W : World} {v : Value} {l : List Int} (h : InS vI W v l) : ∀ x ∈ l, R64 x := by
 intro x hx
 obtain ⟨i, hi, rfl⟩ := mem_nth hx
 obtain ⟨c, -, h2⟩ := h
 exact (h2 i hi).2
end Go.Proofs.YtnklnklkblgnfaaGreatDoor
end
section
namespace Go.Dfl
section
variable {α : Type} [Inhabited α] {lt : α → α → Prop}
def Scn (p q : List α) (i k : Nat) : Prop := k ≤ q.length ∧ ∀ j, j < k → ∀ t, i ≤ t → t < p.length → nth q j ≠ nth p t
theorem Scn.zero (p q : List α) : Scn p q 0 0 := ⟨Nat.zero_le _, fun j hj => by omega⟩
theorem Scn.fits {p q : List α} {i k : Nat} (h : Scn p q i k) (hi : i < p.length) (hs : ∀ x ∈ p, x ∈ q) : k < q.length := by
 obtain ⟨j, hj, he⟩ := mem_nth (hs _ (nth_mem p i hi))
 have := h.1
 by_cases hk : k < q.length
 ·exact hk
 ·exact absurd he (h.2 j (by omega) i (Nat.le_refl _) hi)
theorem pw_nth {l : List α} (h : l.Pairwise lt) {i j : Nat} (hij : i < j) (hj : j < l.length) : lt (nth l i) (nth l j) := by
 rw [nth_eq _ _ (by omega), nth_eq _ _ hj]
 exact List.pairwise_iff_getElem.1 h i j (by omega) hj hij
theorem Scn.step (O : STO lt) {p q : List α} {i k : Nat} (h : Scn p q i k) (hp : p.Pairwise lt) (hq : q.Pairwise lt) (hs : ∀ x ∈ p, x ∈ q) (hi : i < p.length) (hk : k < q.length) (hne : nth q k ≠ nth p i) : Scn p q i (k + 1) := by
 refine ⟨hk, fun j hj t h1 h2 => ?_⟩
 by_cases e : j < k
 ·exact h.2 j e t h1 h2
 ·obtain rfl : j = k := by omega
  obtain ⟨y, hy, he⟩ := mem_nth (hs _ (nth_mem p i hi))
  have hky : j < y := by
   by_cases h9 : y < j
   ·exact absurd he (h.2 y h9 i (Nat.le_refl _) hi)
   ·have : y ≠ j := fun e => hne (by rw [← e]; exact he)
    omega
  have h5 : lt (nth q j) (nth p i) := by rw [← he]; exact pw_nth hq hky hy
  intro h6
  by_cases h7 : i = t
  ·subst h7; exact hne h6
  ·have h8 := pw_nth hp (show i < t by omega) h2
   rw [← h6] at h8
   exact O.asymm h5 h8
theorem Scn.next {p q : List α} {i k : Nat} (h : Scn p q i k) : Scn p q (i + 1) k := ⟨h.1, fun j hj t h1 h2 => h.2 j hj t (by omega) h2⟩
end
end Go.Dfl
end
section
namespace Go.Proofs.YtnklnklkblgnfaaGreatDoor
open Go.RowKit Go.Dfl Go.Gra Go.Obs Go.Sort Go.Maps
theorem _root_.Go.Dfl.InS.mk {α : Type} [Inhabited α] {V : Vw α} {W : World} {b n : Nat} {l : List α} (hn : l.length = n) (hm : n ≤ maxLen) (hb : b < W.heap.size) (css : List (List Value))
  (h : ∀ i, i < l.length → V.ok W (nth css i) (nth l i) ∧ (nth css i).length = V.sz ∧ ∀ j, j < V.sz → W.cell? ⟨b, i * V.sz + j, none⟩ = some (nth (nth css i) j)) : InS V W (.slice (some ⟨b, 0, none⟩) n n) l := by
 subst hn
 refine ⟨fun i j => nth (nth css i) j, ⟨some ⟨b, 0, none⟩, l.length, rfl, Nat.le_refl _, hm, fun i hi => ⟨rfl, hb, fun j hj => ?_⟩⟩, fun i hi => ?_⟩
 ·show W.cell? ⟨b, 0 + i * V.sz + j, none⟩ = _
  rw [Nat.zero_add]; exact (h i hi).2.2 j hj
 ·obtain ⟨h1, h2, -⟩ := h i hi
  have e1 : (List.range V.sz).map (fun j => nth (nth css i) j) = nth css i := by
   refine List.ext_getElem (by simp [h2]) fun j hj hj2 => ?_
   rw [List.getElem_map, List.getElem_range]
   exact nth_eq (nth css i) j hj2
  rw [e1]; exact h1
def awO : Ob := ⟨2, 0, 0, -1, [⟨1, 5, 0⟩, ⟨3, 0, 3⟩]⟩
def awX : Ex := ⟨0, [awO]⟩
theorem awX_pts : allP awX = [(2, 1, 3)] := by decide
theorem awX_ints : allN awX = [(2, 0, 0, 5)] := by decide
theorem one_eq {α : Type} {lt : α → α → Prop} (h : STO lt) {L : List α} {x : α} (hp : L.Pairwise lt) (hm : ∀ y, y ∈ L ↔ y ∈ [x]) : L = [x] := h.unique hp (List.pairwise_singleton _ _) hm
theorem aw_mem (W : World) : ∃ Z, Z = (((W.alloc (.cells #[.int .i64 1, .int .i64 5, .int .i64 0, .int .i64 3, .int .i64 0, .int .i64 3] 50)).alloc (.cells #[.int .i64 2, .int .i64 0, .int .i64 0, .int .i64 (-1), .slice (some ⟨W.heap.size, 0, none⟩) 2 2] 53)).alloc (.cells #[.int .i64 0, .slice (some ⟨W.heap.size + 1, 0, none⟩) 1 1] 32)) ∧ Below W.heap.size W Z ∧
  ExIn Z (.slice (some ⟨W.heap.size + 1, 0, none⟩) 1 1) awX ∧ Z.cell? ⟨W.heap.size + 1 + 1, 0, none⟩ = some (.int .i64 0) ∧ Z.cell? ⟨W.heap.size + 1 + 1, 1, none⟩ = some (.slice (some ⟨W.heap.size + 1, 0, none⟩) 1 1) := by
 obtain ⟨A, hA⟩ : ∃ A, A = W.alloc (.cells #[.int .i64 1, .int .i64 5, .int .i64 0, .int .i64 3, .int .i64 0, .int .i64 3] 50) := ⟨_, rfl⟩
 obtain ⟨B, hB⟩ : ∃ B, B = A.alloc (.cells #[.int .i64 2, .int .i64 0, .int .i64 0, .int .i64 (-1), .slice (some ⟨W.heap.size, 0, none⟩) 2 2] 53) := ⟨_, rfl⟩
 obtain ⟨C, hC⟩ : ∃ C, C = B.alloc (.cells #[.int .i64 0, .slice (some ⟨W.heap.size + 1, 0, none⟩) 1 1] 32) := ⟨_, rfl⟩
 have sA : A.heap.size = W.heap.size + 1 := by rw [hA, World.size_alloc]
 have sB : B.heap.size = W.heap.size + 2 := by rw [hB, World.size_alloc, sA]
 have sC : C.heap.size = W.heap.size + 3 := by rw [hC, World.size_alloc, sB]
 have bA : Below W.heap.size W A := by rw [hA]; exact (Below.refl _ _).alloc (Nat.le_refl _) _
 have gB : A.grownBy B none := by rw [hB]; exact grownBy_alloc _ _
 have gC : B.grownBy C none := by rw [hC]; exact grownBy_alloc _ _
 have bC : Below W.heap.size W C := (bA.grown gB bA.size (by simp)).grown gC (by omega) (by simp)
 have cA := cells_new (W := W) (cs := [.int .i64 1, .int .i64 5, .int .i64 0, .int .i64 3, .int .i64 0, .int .i64 3]) (t := 50) rfl
 have cB := cells_new (W := A) (cs := [.int .i64 2, .int .i64 0, .int .i64 0, .int .i64 (-1), .slice (some ⟨W.heap.size, 0, none⟩) 2 2]) (t := 53) rfl
 have cC := cells_new (W := B) (cs := [.int .i64 0, .slice (some ⟨W.heap.size + 1, 0, none⟩) 1 1]) (t := 32) rfl
 have cA' : ∀ j y, [Value.int .i64 1, .int .i64 5, .int .i64 0, .int .i64 3, .int .i64 0, .int .i64 3][j]? = some y → C.cell? ⟨W.heap.size, j, none⟩ = some y := fun j y h => gC.cell (gB.cell (by rw [hA]; exact cA j y h) (by simp)) (by simp)
 have cB' : ∀ j y, [Value.int .i64 2, .int .i64 0, .int .i64 0, .int .i64 (-1), .slice (some ⟨W.heap.size, 0, none⟩) 2 2][j]? = some y → C.cell? ⟨W.heap.size + 1, j, none⟩ = some y := fun j y h => gC.cell (by have h9 := cB j y h; rw [sA] at h9; rw [hB]; exact h9) (by simp)
 have hV : InS vVal C (.slice (some ⟨W.heap.size, 0, none⟩) 2 2) awO.vs := InS.mk rfl (by decide) (by omega) [[.int .i64 1, .int .i64 5, .int .i64 0], [.int .i64 3, .int .i64 0, .int .i64 3]] (fun i hi => by
  have hi2 : i = 0 ∨ i = 1 := by simp [awO] at hi; omega
  rcases hi2 with rfl | rfl
  ·refine ⟨⟨rfl, by decide, by decide, by decide⟩, rfl, fun j hj => ?_⟩
   have hj3 : j = 0 ∨ j = 1 ∨ j = 2 := by have : j < 3 := hj; omega
   rcases hj3 with rfl | rfl | rfl <;> exact cA' _ _ rfl
  ·refine ⟨⟨rfl, by decide, by decide, by decide⟩, rfl, fun j hj => ?_⟩
   have hj3 : j = 0 ∨ j = 1 ∨ j = 2 := by have : j < 3 := hj; omega
   rcases hj3 with rfl | rfl | rfl <;> exact cA' _ _ rfl)
 have hO : InS vOb C (.slice (some ⟨W.heap.size + 1, 0, none⟩) 1 1) awX.o := InS.mk rfl (by decide) (by omega) [[.int .i64 2, .int .i64 0, .int .i64 0, .int .i64 (-1), .slice (some ⟨W.heap.size, 0, none⟩) 2 2]] (fun i hi => by
  obtain rfl : i = 0 := by simp [awX] at hi; omega
  refine ⟨⟨_, rfl, ⟨by decide, by decide, by decide, by decide⟩, hV⟩, rfl, fun j hj => ?_⟩
  have hj5 : j = 0 ∨ j = 1 ∨ j = 2 ∨ j = 3 ∨ j = 4 := by have : j < 5 := hj; omega
  rcases hj5 with rfl | rfl | rfl | rfl | rfl <;> exact cB' _ _ rfl)
 refine ⟨C, by rw [hC, hB, hA], bC, ⟨by decide, hO⟩, ?_, ?_⟩
 ·have h9 := cC 0 _ rfl; rw [sB] at h9; rw [hC]; exact h9
 ·have h9 := cC 1 _ rfl; rw [sB] at h9; rw [hC]; exact h9
set_option maxHeartbeats 3200000 in
set_option maxRecDepth 100000 in
theorem awake_any (W : World) : Calls Tryz.prog 4 #[] W (TruePost W) := by
 obtain ⟨Z, hZ, hbz, hex, x0, x1⟩ := aw_mem W
 have HZ := Lib.hid (And.intro hZ (And.intro hbz hex))
 have HX := Lib.hid (And.intro x0 x1)
 clear hZ hbz hex x0 x1
 go_enter Tryz.func4, Tryz.ntmps4
 go_upto_region 2 with fail
 rw [← HZ.out.1]
 obtain ⟨x0, x1⟩ := HX.out
 obtain ⟨ov, hov⟩ : ∃ ov, ov = Value.slice (some ⟨W.heap.size + 1, 0, none⟩) 1 1 := ⟨_, rfl⟩
 obtain ⟨bx, hbx⟩ : ∃ bx, bx = W.heap.size + 1 + 1 := ⟨_, rfl⟩
 rw [← hbx] at x0
 rw [← hbx, ← hov] at x1
 rw [← hbx, ← hov]
 have H1 : Hid (ExIn Z ov awX ∧ Below W.heap.size W Z) := Lib.hid (by rw [hov]; exact ⟨HZ.out.2.2, HZ.out.2.1⟩)
 clear hov hbx HX HZ
 refine wp_region_plan (.take 0 (.take 2 (.alt 1 (.alt 3 (.take 4 (.take 5 .done)) .stop) .stop))) (fun w' => w'.cell? ⟨bx, 0, none⟩ = some (.int .i64 0) ∧ w'.cell? ⟨bx, 1, none⟩ = some ov) (by kernel_rfl) (by kernel_rfl) (by kernel_rfl) (by kernel_rfl) ⟨x0, x1⟩ ?_
 have hdr : Below Z.heap.size Z Z.drew := (Below.refl _ _).drew
 have hy : Z.drew.cell? ⟨bx, 0, none⟩ = some (.int .i64 0) ∧ Z.drew.cell? ⟨bx, 1, none⟩ = some ov := ⟨x0, x1⟩
 have H2 := Lib.hid (And.intro (H1.out.1.below hdr) (bel_trans H1.out.2 hdr))
 clear hdr x0 x1 H1
 generalize Z.drew = V at *
 have HV := Lib.hid hy
 clear hy
 repeat (
  refine plan_take (v := ?_) rfl (Or.inl ⟨by rfl, ?_⟩) ?_
  rotate_left
  ·(intro W hW; obtain ⟨q1, q2⟩ := hW; go_simp; try with_reducible rfl)
  simp only [Act.put, List.setIfInBounds_toArray, List.getElem_toArray, List.getElem_cons_zero, List.getElem_cons_succ, List.set_cons_succ, List.set_cons_zero])
 refine plan_alt rfl ?_ plan_stop
 have hp := points_any awX ov V H2.out.1 (by decide)
 have HP := Lib.hid hp
 clear hp
 go_wp2_with fail
 refine HP.out.mono ?_
 rintro e W2 ⟨pa, pc, L, rfl, ho, hpw, hm, b2⟩
 rw [awX_pts] at hm
 obtain rfl := one_eq sto3 hpw hm
 have H3 := Lib.hid (And.intro (H2.out.1.below b2) (And.intro (bel_trans H2.out.2 b2) (OwnE.sliced ho)))
 have hc : W2.cell? ⟨bx, 0, none⟩ = some (.int .i64 0) ∧ W2.cell? ⟨bx, 1, none⟩ = some ov := ⟨(b2.cell (World.block_lt_of_cell? _ _ HV.out.1)).trans HV.out.1, (b2.cell (World.block_lt_of_cell? _ _ HV.out.2)).trans HV.out.2⟩
 have HC := Lib.hid hc
 clear ho hpw hm b2 hc HP
 go_wp2_with fail
 refine tail_mk HC.out ?_
 refine plan_alt rfl ?_ plan_stop
 have hp := ints_any awX ov W2 H3.out.1 (by decide)
 have HP := Lib.hid hp
 clear hp
 go_wp2_with fail
 refine HP.out.mono ?_
 rintro e W3 ⟨na, nc, L, rfl, ho, hpw, hm, b2⟩
 rw [awX_ints] at hm
 obtain rfl := one_eq sto4 hpw hm
 have H4 := Lib.hid (And.intro (bel_trans H3.out.2.1 b2) (And.intro (Sliced.below H3.out.2.2 b2) (OwnE.sliced ho)))
 have hc : W3.cell? ⟨bx, 0, none⟩ = some (.int .i64 0) ∧ W3.cell? ⟨bx, 1, none⟩ = some ov := ⟨(b2.cell (World.block_lt_of_cell? _ _ HC.out.1)).trans HC.out.1, (b2.cell (World.block_lt_of_cell? _ _ HC.out.2)).trans HC.out.2⟩
 have HC3 := Lib.hid hc
 clear ho hpw hm b2 hc HP
 go_wp2_with fail
 refine tail_mk HC3.out ?_
 repeat (
  refine plan_take (v := ?_) rfl (Or.inl ⟨by rfl, ?_⟩) ?_
  rotate_left
  ·(intro W hW; go_simp; try with_reducible rfl)
  simp only [Act.put, List.setIfInBounds_toArray, List.getElem_toArray, List.getElem_cons_zero, List.getElem_cons_succ, List.set_cons_succ, List.set_cons_zero])
 refine plan_done ?_
 obtain ⟨pa', pc', he1, -, pi, pcl, -⟩ := Sliced.outN H4.out.2.1 sPf (by decide)
 simp only [Value.slice.injEq] at he1
 obtain ⟨rfl, -, rfl⟩ := he1
 obtain ⟨na', nc', he2, -, ni, ncl, -⟩ := Sliced.outN H4.out.2.2 sNf (by decide)
 simp only [Value.slice.injEq] at he2
 obtain ⟨rfl, -, rfl⟩ := he2
 have p0 := pcl 0 (by decide) 0 (by decide)
 have p1 := pcl 0 (by decide) 1 (by decide)
 have p2 := pcl 0 (by decide) 2 (by decide)
 have n3 := ncl 0 (by decide) 3 (by decide)
 have i1 := pi .i64 0 (by decide) (by decide)
 have i2 := ni .i64 0 (by decide) (by decide)
 simp [nth, elP, elN] at p0 p1 p2 n3 i1 i2
 have HB := Lib.hid H4.out.1
 clear pcl ncl pi ni H2 H3 H4 HC HC3 HV
 go_wp2_with fail
 go_ret
 exact ⟨rfl, HB.out⟩
end Go.Proofs.YtnklnklkblgnfaaGreatDoor
end
section
namespace Go.Proofs.YtnklnklkblgnfaaGreatDoor
open Go.ChangeShapes Go.WideShapes Go.ChangeAt Go.RowKit Go.Dfl Go.Obs Go.Hir
open Go.Gra (gen_code gen_calls)
theorem rdE {α : Type} [Inhabited α] {E : El α} {W : World} {B : Nat} {e t : TypeId} {a : Option Addr} {c : Nat} {l : List α} {P : Program} {z : Value} {by8 : Nat} (h : OwnE E W B e (.slice a l.length c) l) (ht : SliceOf P t e z E.sz by8) :
  (∀ x : Int, 0 ≤ x → x < l.length → ∀ Z, (Instr.indexAt t (.slice a l.length c) (.int .i64 x)).run P Z = .ok (.pointer (some ⟨blk a, ofs a + x.toNat * E.sz, none⟩)) Z) ∧ ∀ Z, Below W.heap.size W Z → ∀ k, k < l.length → ∀ j v, (E.c (nth l k))[j]? = some v → Z.cell? ⟨blk a, ofs a + k * E.sz + j, none⟩ = some v :=
 ⟨(OwnE.reads (s := ⟨a, l.length, c⟩) h ht).1, fun Z hZ => (OwnE.reads (s := ⟨a, l.length, c⟩) (h.grown (grownBy_below hZ) (by cases (Value.slice a l.length c).ownBlock <;> simp)) ht).2⟩
theorem lenE {α : Type} [Inhabited α] {E : El α} {W : World} {B : Nat} {e t : TypeId} {v : Value} {l : List α} {P : Program} {z : Value} {by8 : Nat} (h : OwnE E W B e v l) (ht : SliceOf P t e z E.sz by8) : l.length ≤ 9223372036854775807 := by
 obtain ⟨_, _, -, hl, -⟩ := (OwnE.sliced h).outN ht E.pos
 exact hl
theorem rd3 {W : World} {B : Nat} {e t : TypeId} {a : Option Addr} {c n : Nat} {l : List (Int × Int × Int)} {z : Value} {by8 : Nat} (h : OwnE elP W B e (.slice a l.length c) l) (ht : SliceOf Tryz.prog t e z 3 by8) (hn : n = l.length) :
  n ≤ 9223372036854775807 ∧ (∀ x : Nat, x < n → ∀ Z, (Instr.indexAt t (.slice a n c) (.int .i64 (x : Int))).run Tryz.prog Z = .ok (.pointer (some ⟨blk a, ofs a + x * 3, none⟩)) Z) ∧ ∀ Z, Below W.heap.size W Z → ∀ k, k < n → (Z.cell? ⟨blk a, ofs a + k * 3, none⟩ = some (.int .i64 (nth l k).1) ∧ Z.cell? ⟨blk a, ofs a + k * 3 + 1, none⟩ = some (.int .i64 (nth l k).2.1) ∧ Z.cell? ⟨blk a, ofs a + k * 3 + 2, none⟩ = some (.int .i64 (nth l k).2.2)) := by
 subst hn
 obtain ⟨h1, h2⟩ := rdE (E := elP) h ht
 refine ⟨lenE (E := elP) h ht, fun x hx Z => ?_, fun Z hZ k hk => ⟨h2 Z hZ k hk 0 _ rfl, h2 Z hZ k hk 1 _ rfl, h2 Z hZ k hk 2 _ rfl⟩⟩
 have := h1 (x : Int) (by omega) (by omega) Z
 rw [Int.toNat_natCast] at this
 exact this
theorem unit_ab {W : World} {v0 v1 : Value} {u : Un} (h : UnIn W v0 v1 u) : ∀ f ∈ u.fs, ∀ x ∈ f.cd, inI x.a ∧ inI x.b := by
 intro f hf x hx
 obtain ⟨i, hi, rfl⟩ := mem_nth hf
 obtain ⟨j, hj, rfl⟩ := mem_nth hx
 obtain ⟨fa, fc, -, -, -, hfc⟩ := InS.fu h.2
 obtain ⟨-, v4, v6, ⟨-, -, -, -, -, h6⟩, -⟩ := hfc i hi
 obtain ⟨xa, xc, -, -, -, hxc⟩ := InS.is h6
 obtain ⟨-, v7, ⟨-, -, ha, hb, -⟩, -⟩ := hxc j hj
 exact ⟨ha, hb⟩
set_option maxHeartbeats 12800000 in
set_option maxRecDepth 100000 in
theorem ObserveGrows_walk (c : Array Value) (u : Un) (iv : Value) (inp : List Int) (a b : Int) (W : World) (h : vUnit.ok W c.toList u) (hi : (vL vI).ok W [iv] inp) (hU : vUnit.wt u + (vL vI).wt inp ≤ 1048576) (hG : GF W) :
  Calls Tryz.prog 3 #[.agg c, iv, .int .i64 a, .int .i64 b] W (TruePost W) := by
 obtain ⟨v0, v1, he, hb, hc, hf⟩ := h
 obtain rfl : c = #[v0, v1, .int .i64 u.mn] := by cases c; simp_all
 have hun : UnIn W v0 v1 u := ⟨hc, hf⟩
 have hs := unit_small (u := u) (by omega)
 obtain ⟨iv', hie, hii⟩ := hi
 obtain rfl : iv = iv' := by simpa using hie
 obtain ⟨a0, k0, e0⟩ := hc.shape
 obtain ⟨a1, k1, e1⟩ := hf.shape
 have HU := Lib.hid (And.intro hun (And.intro hs (And.intro hii hG)))
 have HE0 := Lib.hid (And.intro e0 e1)
 have HE : Hid (Env W [fkC W.heap.size [v0, v1, .int .i64 u.mn]] (W.alloc (.cells #[v0, v1, .int .i64 u.mn] 27))) := Lib.hid ((Env.refl W).alloc [v0, v1, .int .i64 u.mn] 27)
 rw [e0, e1] at HE ⊢
 clear he hb hc hf hun hU hie hii hs e0 e1 hG
 go_enter Tryz.func3, Tryz.ntmps3
 go_upto_region 1 with fail
 rw [← HE0.out.1, ← HE0.out.2] at HE ⊢
 refine gen_code (fun Z => Env W [fkC W.heap.size [v0, v1, .int .i64 u.mn]] Z) HE.out ?_
 intro Z hZ
 obtain ⟨bu, hbu⟩ : ∃ b, b = W.heap.size := ⟨_, rfl⟩
 rw [← hbu] at hZ ⊢
 have HZ := Lib.hid hZ
 obtain ⟨u0, u1, u2⟩ : Z.cell? ⟨bu, 0, none⟩ = some v0 ∧ Z.cell? ⟨bu, 1, none⟩ = some v1 ∧ Z.cell? ⟨bu, 2, none⟩ = some (.int .i64 u.mn) := ⟨hZ.cell 0 rfl 0 rfl, hZ.cell 0 rfl 1 rfl, hZ.cell 0 rfl 2 rfl⟩
 clear hZ hbu HE
 by_cases ha0 : a < 0
 case pos =>
  have t1 : decide (a < 0) = true := decide_eq_true ha0
  go_wp2_with fail
  refine (awake_any _).mono ?_
  rintro E Z9 ⟨rfl, b9⟩
  have HB9 := Lib.hid (bel_trans HZ.out.bel b9)
  clear b9
  go_wp2_with fail
  go_ret
  exact ⟨rfl, HB9.out⟩
 have t1 : decide (a < 0) = false := decide_eq_false ha0
 by_cases hba : b < a
 case pos =>
  have t2 : decide (b < a) = true := decide_eq_true hba
  go_wp2_with fail
  refine (awake_any _).mono ?_
  rintro E Z9 ⟨rfl, b9⟩
  have HB9 := Lib.hid (bel_trans HZ.out.bel b9)
  clear b9
  go_wp2_with fail
  go_ret
  exact ⟨rfl, HB9.out⟩
 have t2 : decide (b < a) = false := decide_eq_false hba
 by_cases hb1 : b > 150
 case pos =>
  have t3 : decide (b > 150) = true := decide_eq_true hb1
  go_wp2_with fail
  refine (awake_any _).mono ?_
  rintro E Z9 ⟨rfl, b9⟩
  have HB9 := Lib.hid (bel_trans HZ.out.bel b9)
  clear b9
  go_wp2_with fail
  go_ret
  exact ⟨rfl, HB9.out⟩
 have t3 : decide (b > 150) = false := decide_eq_false hb1
 have HAB := Lib.hid (show 0 ≤ a ∧ a ≤ b ∧ b ≤ 150 by omega)
 have HRN := Lib.hid (rRun_any u v0 v1 iv inp a Z (HU.out.1.below HZ.out.bel) (HU.out.2.2.1.below HZ.out.bel) HU.out.2.1.w HU.out.2.1.f HU.out.2.1.c (unit_ints HU.out.1) (ints_r64 HU.out.2.2.1) HU.out.2.1.s)
 clear ha0 hba hb1
 go_wp2_with fail
 refine HRN.out.mono ?_
 rintro E Z2 ⟨ex, cd, s1, rfl, hb2, hok⟩
 have HOK := Lib.hid hok
 have HA := Lib.hid (And.intro ((HZ.out.below hb2).alloc [.int .i64 ex, .slice s1.a s1.n s1.c] 32) ((Below.refl Z2.heap.size Z2).alloc (Nat.le_refl _) (.cells #[.int .i64 ex, .slice s1.a s1.n s1.c] 32)))
 clear HRN u0 u1 u2 hb2 hok HZ t1 t2 t3
 go_upto_region 4 with fail
 refine gen_code (fun Z => Env W [fkC Z2.heap.size [.int .i64 ex, .slice s1.a s1.n s1.c], fkC bu [v0, v1, .int .i64 u.mn]] Z ∧ Below Z2.heap.size Z2 Z) HA.out ?_
 intro Z3 hZ3
 obtain ⟨bx, hbx⟩ : ∃ b, b = Z2.heap.size := ⟨_, rfl⟩
 rw [← hbx] at hZ3 ⊢
 have H3 := Lib.hid (And.intro hZ3.1 (show Below Z2.heap.size Z2 Z3 by rw [hbx] at hZ3; exact hZ3.2))
 obtain ⟨u0, u1, u2⟩ : Z3.cell? ⟨bu, 0, none⟩ = some v0 ∧ Z3.cell? ⟨bu, 1, none⟩ = some v1 ∧ Z3.cell? ⟨bu, 2, none⟩ = some (.int .i64 u.mn) := ⟨hZ3.1.cell 1 rfl 0 rfl, hZ3.1.cell 1 rfl 1 rfl, hZ3.1.cell 1 rfl 2 rfl⟩
 have HRN := Lib.hid (rRun_any u v0 v1 iv inp b Z3 (HU.out.1.below H3.out.1.bel) (HU.out.2.2.1.below H3.out.1.bel) HU.out.2.1.w HU.out.2.1.f HU.out.2.1.c (unit_ints HU.out.1) (ints_r64 HU.out.2.2.1) HU.out.2.1.s)
 clear hZ3 hbx HA
 go_wp2_with fail
 refine HRN.out.mono ?_
 rintro E Z4 ⟨ey, cd2, s2, rfl, hb4, hok2⟩
 have HOK2 := Lib.hid hok2
 have HA := Lib.hid (And.intro ((H3.out.1.below hb4).alloc [.int .i64 ey, .slice s2.a s2.n s2.c] 32) ((Below.refl Z4.heap.size Z4).alloc (Nat.le_refl _) (.cells #[.int .i64 ey, .slice s2.a s2.n s2.c] 32)))
 have HB4 := Lib.hid hb4
 clear HRN u0 u1 u2 hb4 hok2
 go_upto_region 5 with fail
 refine gen_code (fun Z => Env W [fkC Z4.heap.size [.int .i64 ey, .slice s2.a s2.n s2.c], fkC bx [.int .i64 ex, .slice s1.a s1.n s1.c], fkC bu [v0, v1, .int .i64 u.mn]] Z ∧ Below Z4.heap.size Z4 Z) HA.out ?_
 intro Z5 hZ5
 obtain ⟨by9, hby⟩ : ∃ b, b = Z4.heap.size := ⟨_, rfl⟩
 rw [← hby] at hZ5 ⊢
 have HE5 : Hid (Env W [fkC bx [.int .i64 ex, .slice s1.a s1.n s1.c], fkC by9 [.int .i64 ey, .slice s2.a s2.n s2.c], fkC bu [v0, v1, .int .i64 u.mn]] Z5) := Lib.hid (hZ5.1.sub fun q hq => by
  rcases List.mem_cons.1 hq with rfl | hq
  ·simp
  ·rcases List.mem_cons.1 hq with rfl | hq
   ·simp
   ·rw [List.mem_singleton.1 hq]; simp)
 have HZZ := Lib.hid (And.intro (bel_trans H3.out.2 (bel_trans HB4.out (show Below Z4.heap.size Z4 Z5 by rw [hby] at hZ5; exact hZ5.2))) (show Below Z4.heap.size Z4 Z5 by rw [hby] at hZ5; exact hZ5.2))
 clear hZ5 hby HA H3 HB4
 by_cases hcd : cd = 0
 case neg =>
  have t1 : (cd != 0) = true := by simpa using hcd
  clear hcd
  go_wp2_with fail
  refine (awake_any _).mono ?_
  rintro E Z9 ⟨rfl, b9⟩
  have HB9 := Lib.hid (bel_trans HE5.out.bel b9)
  clear b9
  go_wp2_with fail
  go_ret
  exact ⟨rfl, HB9.out⟩
 subst hcd
 by_cases hcd : cd2 = 0
 case neg =>
  have t1 : (cd2 != 0) = true := by simpa using hcd
  clear hcd
  go_wp2_with fail
  refine (awake_any _).mono ?_
  rintro E Z9 ⟨rfl, b9⟩
  have HB9 := Lib.hid (bel_trans HE5.out.bel b9)
  clear b9
  go_wp2_with fail
  go_ret
  exact ⟨rfl, HB9.out⟩
 subst hcd
 obtain ⟨hok, -, -, -, -, -, hmt1, hobs1⟩ := HOK.out rfl
 obtain ⟨-, -, -, -, -, -, hmt2, hobs2⟩ := HOK2.out rfl
 obtain ⟨m1, hm1⟩ : ∃ m, m = (Hir.runN u a.toNat (startM u inp)).1 := ⟨_, rfl⟩
 obtain ⟨m2, hm2⟩ : ∃ m, m = (Hir.runN u b.toNat (startM u inp)).1 := ⟨_, rfl⟩
 have hn0 : (startM u inp).ob.length = 0 := rfl
 have hob1 : m1.ob.length ≤ 150 := by
  have h9 := (run_ob (u := u) a.toNat (startM u inp)).1
  rw [← hm1] at h9
  have := HAB.out
  omega
 have hob2 : m2.ob.length ≤ 150 := by
  have h9 := (run_ob (u := u) b.toNat (startM u inp)).1
  rw [← hm2] at h9
  have := HAB.out
  omega
 have hmore : ∃ r, m2.ob = m1.ob ++ r := by
  obtain ⟨r, hr⟩ := run_more (u := u) a.toNat (b.toNat - a.toNat) (startM u inp)
  rw [show a.toNat + (b.toNat - a.toNat) = b.toNat by have := HAB.out; omega, ← hm1, ← hm2] at hr
  exact ⟨r, hr⟩
 rw [← hm1] at hmt1 hobs1
 rw [← hm2] at hmt2 hobs2
 have hval1 : valN ⟨ex, m1.ob⟩ ≤ 1048576 := by
  have h9 := vs_sum9 m1.ob 256 fun o ho => ob_vs hok hmt1 ho
  show (m1.ob.map fun o => o.vs.length).sum ≤ 1048576
  omega
 have hval2 : valN ⟨ey, m2.ob⟩ ≤ 1048576 := by
  have h9 := vs_sum9 m2.ob 256 fun o ho => ob_vs hok hmt2 ho
  show (m2.ob.map fun o => o.vs.length).sum ≤ 1048576
  omega
 have HOB1 := Lib.hid (And.intro hmt1 (And.intro hob1 (And.intro hval1 (hobs1.below HZZ.out.1))))
 have HOB2 := Lib.hid (And.intro hmt2 (And.intro hob2 (And.intro hval2 (hobs2.below HZZ.out.2))))
 have HMO := Lib.hid hmore
 have HOKU := Lib.hid hok
 have HUO := Lib.hid (show ∀ m : Mch, MT u m → ∀ o ∈ m.ob, (inI (insO u o).a ∧ inI (insO u o).b) ∧ (insO u o).ar.length ≤ 1048576 ∧ (0 ≤ (insO u o).op ∧ (insO u o).op ≤ 16) from fun m M o ho => by
  have h9 := obs_in M ho
  have hf := nth_mem u.fs o.f.toNat (by have := h9.f; omega)
  have hx := nth_mem (nth u.fs o.f.toNat).cd o.i.toNat (by have := h9.i; omega)
  refine ⟨unit_ab HU.out.1 _ hf _ hx, HU.out.2.1.w.ar _ hf _ hx, ?_⟩
  exact ((HOKU.out.fn o.f.toNat (by have := h9.f; omega)).ins o.i.toNat (by have := h9.i; omega)).op)
 clear hok hmt1 hmt2 hobs1 hobs2 hm1 hm2 hn0 hob1 hob2 hmore hval1 hval2 HOK HOK2 HZZ
 have HCE := Lib.hid (show ∀ w', Env W [fkC bx [.int .i64 ex, .slice s1.a s1.n s1.c], fkC by9 [.int .i64 ey, .slice s2.a s2.n s2.c], fkC bu [v0, v1, .int .i64 u.mn]] w' → (w'.cell? ⟨bx, 0, none⟩ = some (.int .i64 ex) ∧ w'.cell? ⟨bx, 1, none⟩ = some (.slice s1.a s1.n s1.c) ∧ w'.cell? ⟨by9, 0, none⟩ = some (.int .i64 ey) ∧ w'.cell? ⟨by9, 1, none⟩ = some (.slice s2.a s2.n s2.c) ∧ w'.cell? ⟨bu, 0, none⟩ = some v0 ∧ w'.cell? ⟨bu, 1, none⟩ = some v1 ∧ w'.cell? ⟨bu, 2, none⟩ = some (.int .i64 u.mn)) from fun w' hw =>
  ⟨hw.cell 0 rfl 0 rfl, hw.cell 0 rfl 1 rfl, hw.cell 1 rfl 0 rfl, hw.cell 1 rfl 1 rfl, hw.cell 2 rfl 0 rfl, hw.cell 2 rfl 1 rfl, hw.cell 2 rfl 2 rfl⟩)
 have HIO := Lib.hid (And.intro HOB1.out.2.2.2 HOB2.out.2.2.2)
 obtain ⟨W0, hW0⟩ : ∃ w, w = Z5 := ⟨_, rfl⟩
 have HB0 : Hid (Below W0.heap.size W0 Z5) := Lib.hid (by rw [hW0]; exact Below.refl _ _)
 rw [← hW0] at HIO
 clear hW0
 go_upto_region 7 with fail
 have HV := Lib.hid (And.intro HE5.out.drew (HB0.out.drew))
 refine wp_region_plan (.take 0 (.take 2 (.alt 1 (.alt 3 (.take 4 (.take 5 .done)) .stop) .stop))) (fun w' => Env W [fkC bx [.int .i64 ex, .slice s1.a s1.n s1.c], fkC by9 [.int .i64 ey, .slice s2.a s2.n s2.c], fkC bu [v0, v1, .int .i64 u.mn]] w') (by kernel_rfl) (by kernel_rfl) (by kernel_rfl) (by kernel_rfl) HV.out.1 ?_
 generalize Z5.drew = V at *
 repeat (
  refine plan_take (v := ?_) rfl (Or.inl ⟨by rfl, ?_⟩) ?_
  rotate_left
  ·(intro W hW; obtain ⟨x1, x2, x3, x4, x5, x6, x7⟩ := HCE.out W hW; (try go_simp); try with_reducible rfl)
  simp only [Act.put, List.setIfInBounds_toArray, List.getElem_toArray, List.getElem_cons_zero, List.getElem_cons_succ, List.set_cons_succ, List.set_cons_zero])
 refine plan_alt rfl ?_ plan_stop
 have HP := Lib.hid (points_any ⟨ex, m1.ob⟩ (.slice s1.a s1.n s1.c) V ⟨trivial, HIO.out.1.below HV.out.2⟩ HOB1.out.2.2.1)
 go_wp2_with fail
 refine HP.out.mono ?_
 rintro E V1 ⟨pa, pc, P, rfl, hpo, hpp, hpm1, hbv⟩
 obtain ⟨NP, hNP⟩ : ∃ n, n = P.length := ⟨_, rfl⟩
 have hpr := rd3 hpo sPf hNP
 rw [← hNP]
 have HV1 := Lib.hid (And.intro (HV.out.1.below hbv) (bel_trans HV.out.2 hbv))
 have HPR := Lib.hid (And.intro hpr hpp)
 have HNP := Lib.hid hNP
 have HPM := Lib.hid hpm1
 clear hpo hpp hpm1 hbv hpr HP hNP
 go_wp2_with fail
 refine tail_mk HV1.out.1 ?_
 refine plan_alt rfl ?_ plan_stop
 have HP := Lib.hid (points_any ⟨ey, m2.ob⟩ (.slice s2.a s2.n s2.c) V1 ⟨trivial, HIO.out.2.below HV1.out.2⟩ HOB2.out.2.2.1)
 go_wp2_with fail
 refine HP.out.mono ?_
 rintro E V2 ⟨qa, qc, Q, rfl, hqo, hqp, hpm2, hbv⟩
 obtain ⟨NQ, hNQ⟩ : ∃ n, n = Q.length := ⟨_, rfl⟩
 have hqr := rd3 hqo sPf hNQ
 rw [← hNQ]
 have HV2 := Lib.hid (And.intro (HV1.out.1.below hbv) (bel_trans HV1.out.2 hbv))
 have HPI := Lib.hid (And.intro HPR.out.1.2.1 (fun Z (hZ : Below V2.heap.size V2 Z) => HPR.out.1.2.2 Z (bel_trans hbv hZ)))
 have HQI := Lib.hid hqr.2
 have hNPb := HPR.out.1.1
 have hNQb := hqr.1
 have HSC := Lib.hid (And.intro HPR.out.2 (And.intro hqp (show ∀ x ∈ P, x ∈ Q from fun x hx => by
  have hpm1 := HPM.out
  obtain ⟨r, hr⟩ := HMO.out
  have h9 := pts_sub m1.ob r ((hpm1 x).1 hx)
  rw [← hr] at h9
  exact (hpm2 x).2 h9)))
 have HNN := Lib.hid (And.intro HNP.out hNQ)
 clear hqo hqp hpm2 hbv hqr HP hNQ HV HV1 HPR HNP HPM HE5
 go_wp2_with fail
 refine tail_mk HV2.out.1 ?_
 repeat (
  refine plan_take (v := ?_) rfl (Or.inl ⟨by rfl, ?_⟩) ?_
  rotate_left
  ·(intro W hW; obtain ⟨x1, x2, x3, x4, x5, x6, x7⟩ := HCE.out W hW; (try go_simp); try with_reducible rfl)
  simp only [Act.put, List.setIfInBounds_toArray, List.getElem_toArray, List.getElem_cons_zero, List.getElem_cons_succ, List.set_cons_succ, List.set_cons_zero])
 refine plan_done ?_
 go_wp2_with fail
 go_loopw [15, 16] (fun y z wr => ∃ i k : Nat, i ≤ NP ∧ y = .int .i64 (i : Int) ∧ z = .int .i64 (k : Int) ∧ Hid ((Env W [fkC bx [.int .i64 ex, .slice s1.a s1.n s1.c], fkC by9 [.int .i64 ey, .slice s2.a s2.n s2.c], fkC bu [v0, v1, .int .i64 u.mn]] wr ∧ Below V2.heap.size V2 wr) ∧ Scn P Q i k)) (fun y _ _ => NP - (intOf y).toNat)
 case atStart => exact ⟨0, 0, by omega, rfl, rfl, ⟨HV2.out.1, Below.refl _ _⟩, Scn.zero P Q⟩
 case round =>
  obtain ⟨i, k, hi, rfl, rfl, hh⟩ := hrel
  have HL := Lib.hid hh.out
  clear hh
  by_cases hil : i < NP
  ·have hlt : decide ((i : Int) < (NP : Int)) = true := decide_eq_true (by omega)
   have j1 := HPI.out.1 i hil
   obtain ⟨p, hp⟩ : ∃ p, p = nth P i := ⟨_, rfl⟩
   have HPP := Lib.hid hp
   clear hp
   go_wp2_with fail
   go_loopw [16] (fun z wr => ∃ k : Nat, z = .int .i64 (k : Int) ∧ Hid ((Env W [fkC bx [.int .i64 ex, .slice s1.a s1.n s1.c], fkC by9 [.int .i64 ey, .slice s2.a s2.n s2.c], fkC bu [v0, v1, .int .i64 u.mn]] wr ∧ Below V2.heap.size V2 wr) ∧ Scn P Q i k)) (fun z _ => NQ - (intOf z).toNat)
   case atStart => exact ⟨k, rfl, HL.out⟩
   case round =>
    obtain ⟨k, rfl, hh⟩ := hrel
    have HK := Lib.hid hh.out
    clear hh
    have hkl : k < NQ := by
     have h9 := HK.out.2.fits (by rw [← HNN.out.1]; exact hil) HSC.out.2.2
     rw [← HNN.out.2] at h9
     exact h9
    have hlk : decide ((k : Int) < (NQ : Int)) = true := decide_eq_true (by omega)
    have j2 := HQI.out.1 k hkl
    obtain ⟨p0, p1, p2⟩ := HPI.out.2 wr HK.out.1.2 i hil
    obtain ⟨q0, q1, q2⟩ := HQI.out.2 wr HK.out.1.2 k hkl
    obtain ⟨q, hq⟩ : ∃ q, q = nth Q k := ⟨_, rfl⟩
    rw [← HPP.out] at p0 p1 p2
    rw [← hq] at q0 q1 q2
    have HQQ := Lib.hid hq
    have HQ := Lib.hid (fun n : Nat => (And.intro (HK.out.1.1.below (below_drewN (Below.refl wr.heap.size wr) n)) (bel_trans HK.out.1.2 (below_drewN (Below.refl wr.heap.size wr) n)) : Env W [fkC bx [.int .i64 ex, .slice s1.a s1.n s1.c], fkC by9 [.int .i64 ey, .slice s2.a s2.n s2.c], fkC bu [v0, v1, .int .i64 u.mn]] (wr.drewN n) ∧ Below V2.heap.size V2 (wr.drewN n)))
    have HST := Lib.hid (show q ≠ p → Scn P Q i (k + 1) from fun hne => HK.out.2.step sto3 HSC.out.1 HSC.out.2.1 HSC.out.2.2 (by rw [← HNN.out.1]; exact hil) (by rw [← HNN.out.2]; exact hkl) (by rw [← HPP.out, ← HQQ.out]; exact hne))
    obtain ⟨pa1, pa2, pa3⟩ := p
    obtain ⟨qa1, qa2, qa3⟩ := q
    dsimp only at p0 p1 p2 q0 q1 q2
    clear hq
    by_cases e1 : qa1 = pa1
    case neg =>
     have t1 : (qa1 == pa1) = false := by simpa using e1
     have HS2 := Lib.hid (HST.out (fun h => e1 (congrArg Prod.fst h)))
     clear e1
     go_upto_region 11 with fail
     go_quiet (fail)
     go_wp2_with fail
     go_roundw
     case rel => exact ⟨k + 1, by go_num, HQ.out _, HS2.out⟩
     case measure => simp [intOf]; omega
    subst e1
    by_cases e2 : qa2 = pa2
    case neg =>
     have t1 : (qa2 == pa2) = false := by simpa using e2
     have HS2 := Lib.hid (HST.out (fun h => e2 (congrArg (fun x => x.2.1) h)))
     clear e2
     go_upto_region 11 with fail
     go_quiet (fail)
     go_wp2_with fail
     go_roundw
     case rel => exact ⟨k + 1, by go_num, HQ.out _, HS2.out⟩
     case measure => simp [intOf]; omega
    subst e2
    by_cases e3 : qa3 = pa3
    case neg =>
     have t1 : (qa3 == pa3) = false := by simpa using e3
     have HS2 := Lib.hid (HST.out (fun h => e3 (congrArg (fun x => x.2.2) h)))
     clear e3
     go_upto_region 11 with fail
     go_quiet (fail)
     go_wp2_with fail
     go_roundw
     case rel => exact ⟨k + 1, by go_num, HQ.out _, HS2.out⟩
     case measure => simp [intOf]; omega
    subst e3
    have t9 : ((k : Int) == (NQ : Int)) = false := by simp; omega
    have HS2 := Lib.hid HK.out.2.next
    go_upto_region 11 with fail
    go_quiet (fail)
    go_wp2_with fail
    go_roundw
    case rel => exact ⟨i + 1, k, by omega, by go_num, rfl, HQ.out _, HS2.out⟩
    case measure => simp [intOf]; omega
  ·obtain rfl : i = NP := by omega
   have hB := bel_trans HV2.out.2 HL.out.1.2
   have HE5 := Lib.hid HL.out.1.1
   have HB0 := Lib.hid hB
   clear hB hil hi hNPb hNQb HPI HQI HSC HNN HV2 HL
   obtain ⟨Y0, hY⟩ : ∃ w, w = wr := ⟨_, rfl⟩
   rw [← hY] at HE5 HB0 ⊢
   clear hY
   go_upto_region 15 with fail
   have HV := Lib.hid (And.intro HE5.out.drew (HB0.out.drew))
   refine wp_region_plan (.take 0 (.take 1 (.take 3 (.take 4 (.alt 2 (.alt 5 (.take 6 (.take 7 .done)) .stop) .stop))))) (fun w' => Env W [fkC bx [.int .i64 ex, .slice s1.a s1.n s1.c], fkC by9 [.int .i64 ey, .slice s2.a s2.n s2.c], fkC bu [v0, v1, .int .i64 u.mn]] w') (by kernel_rfl) (by kernel_rfl) (by kernel_rfl) (by kernel_rfl) HV.out.1 ?_
   generalize Y0.drew = V at *
   repeat (
    refine plan_take (v := ?_) rfl (Or.inl ⟨by rfl, ?_⟩) ?_
    rotate_left
    ·(intro W hW; obtain ⟨x1, x2, x3, x4, x5, x6, x7⟩ := HCE.out W hW; (try go_simp); try with_reducible rfl)
    simp only [Act.put, List.setIfInBounds_toArray, List.getElem_toArray, List.getElem_cons_zero, List.getElem_cons_succ, List.set_cons_succ, List.set_cons_zero])
   refine plan_alt rfl ?_ plan_stop
   have HP := Lib.hid (calls_any u v0 v1 ⟨ex, m1.ob⟩ (.slice s1.a s1.n s1.c) V (HU.out.1.below HV.out.1.bel) ⟨trivial, HIO.out.1.below HV.out.2⟩ (fun o ho => obs_in HOB1.out.1 ho) (by have := HOB1.out.2.1; show m1.ob.length ≤ 1048576; omega))
   go_wp2_with fail
   refine HP.out.mono ?_
   rintro E V1 ⟨pa, pc, P, rfl, hpo, hpp, hpm1, hbv⟩
   obtain ⟨NP, hNP⟩ : ∃ n, n = P.length := ⟨_, rfl⟩
   have hpr := rd3 hpo sCe hNP
   rw [← hNP]
   have HV1 := Lib.hid (And.intro (HV.out.1.below hbv) (bel_trans HV.out.2 hbv))
   have HPR := Lib.hid (And.intro hpr hpp)
   have HNP := Lib.hid hNP
   have HPM := Lib.hid hpm1
   clear hpo hpp hpm1 hbv hpr HP hNP
   go_wp2_with fail
   refine tail_mk HV1.out.1 ?_
   refine plan_alt rfl ?_ plan_stop
   have HP := Lib.hid (calls_any u v0 v1 ⟨ey, m2.ob⟩ (.slice s2.a s2.n s2.c) V1 (HU.out.1.below HV1.out.1.bel) ⟨trivial, HIO.out.2.below HV1.out.2⟩ (fun o ho => obs_in HOB2.out.1 ho) (by have := HOB2.out.2.1; show m2.ob.length ≤ 1048576; omega))
   go_wp2_with fail
   refine HP.out.mono ?_
   rintro E V2 ⟨qa, qc, Q, rfl, hqo, hqp, hpm2, hbv⟩
   obtain ⟨NQ, hNQ⟩ : ∃ n, n = Q.length := ⟨_, rfl⟩
   have hqr := rd3 hqo sCe hNQ
   rw [← hNQ]
   have HV2 := Lib.hid (And.intro (HV1.out.1.below hbv) (bel_trans HV1.out.2 hbv))
   have HPI := Lib.hid (And.intro HPR.out.1.2.1 (fun Z (hZ : Below V2.heap.size V2 Z) => HPR.out.1.2.2 Z (bel_trans hbv hZ)))
   have HQI := Lib.hid hqr.2
   have hNPb := HPR.out.1.1
   have hNQb := hqr.1
   have HSC := Lib.hid (And.intro HPR.out.2 (And.intro hqp (show ∀ x ∈ P, x ∈ Q from fun x hx => by
    have hpm1 := HPM.out
    obtain ⟨r, hr⟩ := HMO.out
    have h9 := edg_sub m1.ob r (fun o ho => obs_in HOB1.out.1 ho) ((hpm1 x).1 hx)
    rw [← hr] at h9
    exact (hpm2 x).2 h9)))
   have HNN := Lib.hid (And.intro HNP.out hNQ)
   clear hqo hqp hpm2 hbv hqr HP hNQ HV HV1 HPR HNP HPM HE5
   go_wp2_with fail
   refine tail_mk HV2.out.1 ?_
   repeat (
    refine plan_take (v := ?_) rfl (Or.inl ⟨by rfl, ?_⟩) ?_
    rotate_left
    ·(intro W hW; obtain ⟨x1, x2, x3, x4, x5, x6, x7⟩ := HCE.out W hW; (try go_simp); try with_reducible rfl)
    simp only [Act.put, List.setIfInBounds_toArray, List.getElem_toArray, List.getElem_cons_zero, List.getElem_cons_succ, List.set_cons_succ, List.set_cons_zero])
   refine plan_done ?_
   go_wp2_with fail
   go_loopw [19, 20] (fun y z wr => ∃ i k : Nat, i ≤ NP ∧ y = .int .i64 (i : Int) ∧ z = .int .i64 (k : Int) ∧ Hid ((Env W [fkC bx [.int .i64 ex, .slice s1.a s1.n s1.c], fkC by9 [.int .i64 ey, .slice s2.a s2.n s2.c], fkC bu [v0, v1, .int .i64 u.mn]] wr ∧ Below V2.heap.size V2 wr) ∧ Scn P Q i k)) (fun y _ _ => NP - (intOf y).toNat)
   case atStart => exact ⟨0, 0, by omega, rfl, rfl, ⟨HV2.out.1, Below.refl _ _⟩, Scn.zero P Q⟩
   case round =>
    obtain ⟨i, k, hi, rfl, rfl, hh⟩ := hrel
    have HL := Lib.hid hh.out
    clear hh
    by_cases hil : i < NP
    ·have hlt : decide ((i : Int) < (NP : Int)) = true := decide_eq_true (by omega)
     have j1 := HPI.out.1 i hil
     obtain ⟨p, hp⟩ : ∃ p, p = nth P i := ⟨_, rfl⟩
     have HPP := Lib.hid hp
     clear hp
     go_wp2_with fail
     go_loopw [20] (fun z wr => ∃ k : Nat, z = .int .i64 (k : Int) ∧ Hid ((Env W [fkC bx [.int .i64 ex, .slice s1.a s1.n s1.c], fkC by9 [.int .i64 ey, .slice s2.a s2.n s2.c], fkC bu [v0, v1, .int .i64 u.mn]] wr ∧ Below V2.heap.size V2 wr) ∧ Scn P Q i k)) (fun z _ => NQ - (intOf z).toNat)
     case atStart => exact ⟨k, rfl, HL.out⟩
     case round =>
      obtain ⟨k, rfl, hh⟩ := hrel
      have HK := Lib.hid hh.out
      clear hh
      have hkl : k < NQ := by
       have h9 := HK.out.2.fits (by rw [← HNN.out.1]; exact hil) HSC.out.2.2
       rw [← HNN.out.2] at h9
       exact h9
      have hlk : decide ((k : Int) < (NQ : Int)) = true := decide_eq_true (by omega)
      have j2 := HQI.out.1 k hkl
      obtain ⟨p0, p1, p2⟩ := HPI.out.2 wr HK.out.1.2 i hil
      obtain ⟨q0, q1, q2⟩ := HQI.out.2 wr HK.out.1.2 k hkl
      obtain ⟨q, hq⟩ : ∃ q, q = nth Q k := ⟨_, rfl⟩
      rw [← HPP.out] at p0 p1 p2
      rw [← hq] at q0 q1 q2
      have HQQ := Lib.hid hq
      have HQ := Lib.hid (fun n : Nat => (And.intro (HK.out.1.1.below (below_drewN (Below.refl wr.heap.size wr) n)) (bel_trans HK.out.1.2 (below_drewN (Below.refl wr.heap.size wr) n)) : Env W [fkC bx [.int .i64 ex, .slice s1.a s1.n s1.c], fkC by9 [.int .i64 ey, .slice s2.a s2.n s2.c], fkC bu [v0, v1, .int .i64 u.mn]] (wr.drewN n) ∧ Below V2.heap.size V2 (wr.drewN n)))
      have HST := Lib.hid (show q ≠ p → Scn P Q i (k + 1) from fun hne => HK.out.2.step sto3 HSC.out.1 HSC.out.2.1 HSC.out.2.2 (by rw [← HNN.out.1]; exact hil) (by rw [← HNN.out.2]; exact hkl) (by rw [← HPP.out, ← HQQ.out]; exact hne))
      obtain ⟨pa1, pa2, pa3⟩ := p
      obtain ⟨qa1, qa2, qa3⟩ := q
      dsimp only at p0 p1 p2 q0 q1 q2
      clear hq
      by_cases e1 : qa1 = pa1
      case neg =>
       have t1 : (qa1 == pa1) = false := by simpa using e1
       have HS2 := Lib.hid (HST.out (fun h => e1 (congrArg Prod.fst h)))
       clear e1
       go_upto_region 19 with fail
       go_quiet (fail)
       go_wp2_with fail
       go_roundw
       case rel => exact ⟨k + 1, by go_num, HQ.out _, HS2.out⟩
       case measure => simp [intOf]; omega
      subst e1
      by_cases e2 : qa2 = pa2
      case neg =>
       have t1 : (qa2 == pa2) = false := by simpa using e2
       have HS2 := Lib.hid (HST.out (fun h => e2 (congrArg (fun x => x.2.1) h)))
       clear e2
       go_upto_region 19 with fail
       go_quiet (fail)
       go_wp2_with fail
       go_roundw
       case rel => exact ⟨k + 1, by go_num, HQ.out _, HS2.out⟩
       case measure => simp [intOf]; omega
      subst e2
      by_cases e3 : qa3 = pa3
      case neg =>
       have t1 : (qa3 == pa3) = false := by simpa using e3
       have HS2 := Lib.hid (HST.out (fun h => e3 (congrArg (fun x => x.2.2) h)))
       clear e3
       go_upto_region 19 with fail
       go_quiet (fail)
       go_wp2_with fail
       go_roundw
       case rel => exact ⟨k + 1, by go_num, HQ.out _, HS2.out⟩
       case measure => simp [intOf]; omega
      subst e3
      have t9 : ((k : Int) == (NQ : Int)) = false := by simp; omega
      have HS2 := Lib.hid HK.out.2.next
      go_upto_region 19 with fail
      go_quiet (fail)
      go_wp2_with fail
      go_roundw
      case rel => exact ⟨i + 1, k, by omega, by go_num, rfl, HQ.out _, HS2.out⟩
      case measure => simp [intOf]; omega
    ·obtain rfl : i = NP := by omega
     have hB := bel_trans HV2.out.2 HL.out.1.2
     have HE5 := Lib.hid HL.out.1.1
     have HB0 := Lib.hid hB
     clear hB hil hi hNPb hNQb HPI HQI HSC HNN HV2 HL
     obtain ⟨Y1, hY⟩ : ∃ w, w = wr := ⟨_, rfl⟩
     rw [← hY] at HE5 HB0 ⊢
     clear hY
     go_upto_region 23 with fail
     have HV := Lib.hid (And.intro HE5.out.drew (HB0.out.drew))
     refine wp_region_plan (.take 0 (.take 1 (.take 3 (.take 4 (.alt 2 (.alt 5 (.take 6 (.take 7 .done)) .stop) .stop))))) (fun w' => Env W [fkC bx [.int .i64 ex, .slice s1.a s1.n s1.c], fkC by9 [.int .i64 ey, .slice s2.a s2.n s2.c], fkC bu [v0, v1, .int .i64 u.mn]] w') (by kernel_rfl) (by kernel_rfl) (by kernel_rfl) (by kernel_rfl) HV.out.1 ?_
     generalize Y1.drew = V at *
     repeat (
      refine plan_take (v := ?_) rfl (Or.inl ⟨by rfl, ?_⟩) ?_
      rotate_left
      ·(intro W hW; obtain ⟨x1, x2, x3, x4, x5, x6, x7⟩ := HCE.out W hW; (try go_simp); try with_reducible rfl)
      simp only [Act.put, List.setIfInBounds_toArray, List.getElem_toArray, List.getElem_cons_zero, List.getElem_cons_succ, List.set_cons_succ, List.set_cons_zero])
     refine plan_alt rfl ?_ plan_stop
     have HP := Lib.hid (unset_any u v0 v1 ⟨ex, m1.ob⟩ (.slice s1.a s1.n s1.c) V (HU.out.1.below HV.out.1.bel) ⟨trivial, HIO.out.1.below HV.out.2⟩ (fun o ho => obs_in HOB1.out.1 ho) (fun o ho => (HUO.out m1 HOB1.out.1 o ho).1) (fun o ho => (HUO.out m1 HOB1.out.1 o ho).2.1) (fun o ho => (HUO.out m1 HOB1.out.1 o ho).2.2) (HU.out.2.2.2.below HV.out.1.bel) HOB1.out.2.1)
     go_wp2_with fail
     refine HP.out.mono ?_
     rintro E V1 ⟨pa, pc, P, rfl, hpo, hpp, hpm1, hbv⟩
     obtain ⟨NP, hNP⟩ : ∃ n, n = P.length := ⟨_, rfl⟩
     have hpr := rd3 hpo sUs hNP
     rw [← hNP]
     have HV1 := Lib.hid (And.intro (HV.out.1.below hbv) (bel_trans HV.out.2 hbv))
     have HPR := Lib.hid (And.intro hpr hpp)
     have HNP := Lib.hid hNP
     have HPM := Lib.hid hpm1
     clear hpo hpp hpm1 hbv hpr HP hNP
     go_wp2_with fail
     refine tail_mk HV1.out.1 ?_
     refine plan_alt rfl ?_ plan_stop
     have HP := Lib.hid (unset_any u v0 v1 ⟨ey, m2.ob⟩ (.slice s2.a s2.n s2.c) V1 (HU.out.1.below HV1.out.1.bel) ⟨trivial, HIO.out.2.below HV1.out.2⟩ (fun o ho => obs_in HOB2.out.1 ho) (fun o ho => (HUO.out m2 HOB2.out.1 o ho).1) (fun o ho => (HUO.out m2 HOB2.out.1 o ho).2.1) (fun o ho => (HUO.out m2 HOB2.out.1 o ho).2.2) (HU.out.2.2.2.below HV1.out.1.bel) HOB2.out.2.1)
     go_wp2_with fail
     refine HP.out.mono ?_
     rintro E V2 ⟨qa, qc, Q, rfl, hqo, hqp, hpm2, hbv⟩
     obtain ⟨NQ, hNQ⟩ : ∃ n, n = Q.length := ⟨_, rfl⟩
     have hqr := rd3 hqo sUs hNQ
     rw [← hNQ]
     have HV2 := Lib.hid (And.intro (HV1.out.1.below hbv) (bel_trans HV1.out.2 hbv))
     have HPI := Lib.hid (And.intro HPR.out.1.2.1 (fun Z (hZ : Below V2.heap.size V2 Z) => HPR.out.1.2.2 Z (bel_trans hbv hZ)))
     have HQI := Lib.hid hqr.2
     have hNPb := HPR.out.1.1
     have hNQb := hqr.1
     have HSC := Lib.hid (And.intro HPR.out.2 (And.intro hqp (show ∀ x ∈ P, x ∈ Q from fun x hx => by
      have hpm1 := HPM.out
      obtain ⟨r, hr⟩ := HMO.out
      have h9 := uns_sub m1.ob r ((hpm1 x).1 hx)
      rw [← hr] at h9
      exact (hpm2 x).2 h9)))
     have HNN := Lib.hid (And.intro HNP.out hNQ)
     clear hqo hqp hpm2 hbv hqr HP hNQ HV HV1 HPR HNP HPM HE5
     go_wp2_with fail
     refine tail_mk HV2.out.1 ?_
     repeat (
      refine plan_take (v := ?_) rfl (Or.inl ⟨by rfl, ?_⟩) ?_
      rotate_left
      ·(intro W hW; obtain ⟨x1, x2, x3, x4, x5, x6, x7⟩ := HCE.out W hW; (try go_simp); try with_reducible rfl)
      simp only [Act.put, List.setIfInBounds_toArray, List.getElem_toArray, List.getElem_cons_zero, List.getElem_cons_succ, List.set_cons_succ, List.set_cons_zero])
     refine plan_done ?_
     go_wp2_with fail
     go_loopw [23, 24] (fun y z wr => ∃ i k : Nat, i ≤ NP ∧ y = .int .i64 (i : Int) ∧ z = .int .i64 (k : Int) ∧ Hid ((Env W [fkC bx [.int .i64 ex, .slice s1.a s1.n s1.c], fkC by9 [.int .i64 ey, .slice s2.a s2.n s2.c], fkC bu [v0, v1, .int .i64 u.mn]] wr ∧ Below V2.heap.size V2 wr) ∧ Scn P Q i k)) (fun y _ _ => NP - (intOf y).toNat)
     case atStart => exact ⟨0, 0, by omega, rfl, rfl, ⟨HV2.out.1, Below.refl _ _⟩, Scn.zero P Q⟩
     case round =>
      obtain ⟨i, k, hi, rfl, rfl, hh⟩ := hrel
      have HL := Lib.hid hh.out
      clear hh
      by_cases hil : i < NP
      ·have hlt : decide ((i : Int) < (NP : Int)) = true := decide_eq_true (by omega)
       have j1 := HPI.out.1 i hil
       obtain ⟨p, hp⟩ : ∃ p, p = nth P i := ⟨_, rfl⟩
       have HPP := Lib.hid hp
       clear hp
       go_wp2_with fail
       go_loopw [24] (fun z wr => ∃ k : Nat, z = .int .i64 (k : Int) ∧ Hid ((Env W [fkC bx [.int .i64 ex, .slice s1.a s1.n s1.c], fkC by9 [.int .i64 ey, .slice s2.a s2.n s2.c], fkC bu [v0, v1, .int .i64 u.mn]] wr ∧ Below V2.heap.size V2 wr) ∧ Scn P Q i k)) (fun z _ => NQ - (intOf z).toNat)
       case atStart => exact ⟨k, rfl, HL.out⟩
       case round =>
        obtain ⟨k, rfl, hh⟩ := hrel
        have HK := Lib.hid hh.out
        clear hh
        have hkl : k < NQ := by
         have h9 := HK.out.2.fits (by rw [← HNN.out.1]; exact hil) HSC.out.2.2
         rw [← HNN.out.2] at h9
         exact h9
        have hlk : decide ((k : Int) < (NQ : Int)) = true := decide_eq_true (by omega)
        have j2 := HQI.out.1 k hkl
        obtain ⟨p0, p1, p2⟩ := HPI.out.2 wr HK.out.1.2 i hil
        obtain ⟨q0, q1, q2⟩ := HQI.out.2 wr HK.out.1.2 k hkl
        obtain ⟨q, hq⟩ : ∃ q, q = nth Q k := ⟨_, rfl⟩
        rw [← HPP.out] at p0 p1 p2
        rw [← hq] at q0 q1 q2
        have HQQ := Lib.hid hq
        have HQ := Lib.hid (fun n : Nat => (And.intro (HK.out.1.1.below (below_drewN (Below.refl wr.heap.size wr) n)) (bel_trans HK.out.1.2 (below_drewN (Below.refl wr.heap.size wr) n)) : Env W [fkC bx [.int .i64 ex, .slice s1.a s1.n s1.c], fkC by9 [.int .i64 ey, .slice s2.a s2.n s2.c], fkC bu [v0, v1, .int .i64 u.mn]] (wr.drewN n) ∧ Below V2.heap.size V2 (wr.drewN n)))
        have HST := Lib.hid (show q ≠ p → Scn P Q i (k + 1) from fun hne => HK.out.2.step sto3 HSC.out.1 HSC.out.2.1 HSC.out.2.2 (by rw [← HNN.out.1]; exact hil) (by rw [← HNN.out.2]; exact hkl) (by rw [← HPP.out, ← HQQ.out]; exact hne))
        obtain ⟨pa1, pa2, pa3⟩ := p
        obtain ⟨qa1, qa2, qa3⟩ := q
        dsimp only at p0 p1 p2 q0 q1 q2
        clear hq
        by_cases e1 : qa1 = pa1
        case neg =>
         have t1 : (qa1 == pa1) = false := by simpa using e1
         have HS2 := Lib.hid (HST.out (fun h => e1 (congrArg Prod.fst h)))
         clear e1
         go_upto_region 27 with fail
         go_quiet (fail)
         go_wp2_with fail
         go_roundw
         case rel => exact ⟨k + 1, by go_num, HQ.out _, HS2.out⟩
         case measure => simp [intOf]; omega
        subst e1
        by_cases e2 : qa2 = pa2
        case neg =>
         have t1 : (qa2 == pa2) = false := by simpa using e2
         have HS2 := Lib.hid (HST.out (fun h => e2 (congrArg (fun x => x.2.1) h)))
         clear e2
         go_upto_region 27 with fail
         go_quiet (fail)
         go_wp2_with fail
         go_roundw
         case rel => exact ⟨k + 1, by go_num, HQ.out _, HS2.out⟩
         case measure => simp [intOf]; omega
        subst e2
        by_cases e3 : qa3 = pa3
        case neg =>
         have t1 : (qa3 == pa3) = false := by simpa using e3
         have HS2 := Lib.hid (HST.out (fun h => e3 (congrArg (fun x => x.2.2) h)))
         clear e3
         go_upto_region 27 with fail
         go_quiet (fail)
         go_wp2_with fail
         go_roundw
         case rel => exact ⟨k + 1, by go_num, HQ.out _, HS2.out⟩
         case measure => simp [intOf]; omega
        subst e3
        have t9 : ((k : Int) == (NQ : Int)) = false := by simp; omega
        have HS2 := Lib.hid HK.out.2.next
        go_upto_region 27 with fail
        go_quiet (fail)
        go_wp2_with fail
        go_roundw
        case rel => exact ⟨i + 1, k, by omega, by go_num, rfl, HQ.out _, HS2.out⟩
        case measure => simp [intOf]; omega
      ·obtain rfl : i = NP := by omega
       have hB := bel_trans HV2.out.2 HL.out.1.2
       have HE5 := Lib.hid HL.out.1.1
       have HB0 := Lib.hid hB
       clear hB hil hi hNPb hNQb HPI HQI HSC HNN HV2 HL
       go_wp2_with fail
       refine (awake_any _).mono ?_
       rintro E Z9 ⟨rfl, b9⟩
       have HB9 := Lib.hid (bel_trans HE5.out.bel b9)
       clear b9
       go_wp2_with fail
       go_ret
       exact ⟨rfl, HB9.out⟩
theorem opens_i64s : Opens Tryz.prog 28 (vL vI) := opens_int64.slice (by decide) Tryz.underlying28 (by kernel_rfl)
theorem gN : Tryz.prog.globalNamed "dataflow/ir.forms" = some 0 := by kernel_rfl
theorem gNT : (Tryz.prog.globals[0]?).map (·.type) = some 140 := by kernel_rfl
theorem cells_str : Tryz.prog.cellsOf 9 = 1 := by kernel_rfl
theorem laid_nth : ∀ n, n < 17 → ([.lit (.string []), .lit (.string [100, 110]), .lit (.string [100]), .lit (.string [100, 97]), .lit (.string [100, 97, 111, 98]), .lit (.string [100]), .lit (.string [100, 99]), .lit (.string [100, 97, 109]), .lit (.string [97, 109, 98]), .lit (.string [100, 97, 99, 109, 42]), .lit (.string [100, 99, 109, 42]), .lit (.string [97, 103]), .lit (.string [103]), .lit (.string [97]), .lit (.string [97]), .lit (.string [100, 99]), .lit (.string [100, 97, 110])] : List (DataW Unit))[n]? = some (.lit (.string (frmS n)))
 | 0, _ => rfl | 1, _ => rfl | 2, _ => rfl | 3, _ => rfl | 4, _ => rfl | 5, _ => rfl | 6, _ => rfl | 7, _ => rfl | 8, _ => rfl | 9, _ => rfl | 10, _ => rfl | 11, _ => rfl | 12, _ => rfl | 13, _ => rfl | 14, _ => rfl | 15, _ => rfl | 16, _ => rfl
 | n + 17, h => by omega
theorem gf_of_laid {W : World} (h : laidMetH Tryz.prog [("dataflow/ir.forms", Rows.laid_dataflow_ir_forms)] W) : GF W := by
 have h' : laidMet Tryz.prog [("dataflow/ir.forms", Rows.laid_dataflow_ir_forms)] W := h
 obtain ⟨ps, ⟨g', t', cs, fuel, p, q, hg', ht', hvar, hd, _, _⟩, _⟩ := h'
 obtain rfl := Option.some.inj (gN.symm.trans hg')
 obtain rfl := Option.some.inj (gNT.symm.trans ht')
 obtain ⟨xs, m, rfl, hx, hlen, hxl, hel⟩ := DataW.trod_array Tryz.underlying140 hd
 have hx1 := congrArg Prod.fst hx
 simp only [Rows.laid_dataflow_ir_forms] at hx1
 injection hx1 with hx2
 have key : ∀ n, n < 17 → W.cell? ⟨0, n, none⟩ = some (.string ⟨(frmS n).toArray⟩) := fun n hn => by
  have h1 := hel n hn
  have h2 := laid_nth n hn
  rw [hx2, List.getElem?_map, List.getElem?_eq_getElem (by omega)] at h2
  rw [cells_str, List.getElem?_eq_getElem (by omega)] at h1
  obtain ⟨s, he, hs, -⟩ := DataW.trod_string Tryz.underlying9 h1
  rw [hs] at h2
  simp only [Option.map_some, Option.some.injEq, DataW.lit.injEq, Lit.string.injEq] at h2
  have h3 : cs.toList[n]? = some (.string s) := by
   have := congrArg (·[0]?) he
   simpa [List.getElem?_take, List.getElem?_drop] using this
  rw [World.var?_cell gN hvar n]
  have h4 : s = ⟨(frmS n).toArray⟩ := by
   rw [← h2]
  rw [← h4]
  simpa using h3
 exact ⟨World.block_lt_of_cell? _ _ (key 0 (by decide)), key⟩
noncomputable def laidWorld (os : Os) : World :=
 { World.holding Tryz.prog os ⟨#[], #[], []⟩ with heap := (World.holding Tryz.prog os ⟨#[], #[], []⟩).heap.modify 0 fun
   | .cells _ t frozen => .cells #[.string ⟨#[]⟩, .string ⟨#[100, 110]⟩, .string ⟨#[100]⟩, .string ⟨#[100, 97]⟩, .string ⟨#[100, 97, 111, 98]⟩, .string ⟨#[100]⟩, .string ⟨#[100, 99]⟩, .string ⟨#[100, 97, 109]⟩, .string ⟨#[97, 109, 98]⟩, .string ⟨#[100, 97, 99, 109, 42]⟩, .string ⟨#[100, 99, 109, 42]⟩, .string ⟨#[97, 103]⟩, .string ⟨#[103]⟩, .string ⟨#[97]⟩, .string ⟨#[97]⟩, .string ⟨#[100, 99]⟩, .string ⟨#[100, 97, 110]⟩] t frozen
   | o => o }
theorem laid_met (os : Os) (args : Array Value) : laidMet Tryz.prog Rows.observeGrowsUptoRow.laid ((laidWorld os).forCall (fun _ _ => 0) ⟨#[], args, []⟩).memory :=
 laidMet_of_run' 8 (by kernel_rfl) (by kernel_rfl)
theorem witness_row (os : Os) {H : Type} (enc : TypeId × Value → H) :
  (Rows.OpenSpec.upto Rows.observeGrowsSpec).preRow enc Tryz.prog Tryz.f3 Rows.observeGrowsUptoRow.domain false Rows.observeGrowsUptoRow.laid ((laidWorld os).forCall (fun _ _ => 0) ⟨#[], #[.agg #[.slice none 0 0, .slice none 0 0, .int .i64 0], .slice none 0 0, .int .i64 0, .int .i64 0], []⟩).memory #[.agg #[.slice none 0 0, .slice none 0 0, .int .i64 0], .slice none 0 0, .int .i64 0, .int .i64 0] := by
 have hw : (DataW.whole enc Tryz.prog ((laidWorld os).forCall (fun _ _ => 0) ⟨#[], #[.agg #[.slice none 0 0, .slice none 0 0, .int .i64 0], .slice none 0 0, .int .i64 0, .int .i64 0], []⟩).memory Tryz.f3.params.toList (Rows.OpenSpec.upto Rows.observeGrowsSpec).vars false #[Value.agg #[.slice none 0 0, .slice none 0 0, .int .i64 0], .slice none 0 0, .int .i64 0, .int .i64 0].toList 8).map (fun x => (x.1, x.2.1)) =
   some ([.agg [.agg [.nil], .nil, .lit (.int .i64 0)], .nil, .lit (.int .i64 0), .lit (.int .i64 0)], []) := by kernel_rfl
 obtain ⟨⟨x1, x2, x3⟩, hx, hx1⟩ := Option.map_eq_some_iff.1 hw
 simp only [Prod.mk.injEq] at hx1
 obtain ⟨rfl, rfl⟩ := hx1
 exact OpenSpec.preRow_of_cond 8 hx (by kernel_rfl) (fun k hk => by cases hk; rfl) (by kernel_rfl) (laid_met os _)
set_option maxRecDepth 100000 in
theorem ObserveGrows_lifted (os : Os) (started : os.Started) (H : Type) (enc : TypeId × Value → H) (F : Stop.Interp) :
  ReturnsInHanded {} Tryz.checked os 3 .any ((Rows.OpenSpec.upto Rows.observeGrowsSpec).preRow enc Tryz.prog Tryz.f3 Rows.observeGrowsUptoRow.domain false Rows.observeGrowsUptoRow.laid) (((Rows.OpenSpec.upto Rows.observeGrowsSpec).at F).post enc Tryz.prog Tryz.f3 false true false false) := by
 refine returnsInHanded_of_row (C := Tryz.checked) (s := Rows.OpenSpec.upto Rows.observeGrowsSpec) own started (by kernel_rfl) Tryz.func3
  (witness_row_at (enc := enc) (C := Tryz.checked) false (laidWorld os) #[.agg #[.slice none 0 0, .slice none 0 0, .int .i64 0], .slice none 0 0, .int .i64 0, .int .i64 0] rfl (by kernel_rfl) (by kernel_rfl) (by kernel_rfl) (witness_row os enc)) ?_
 intro W base args ds gs before hval0 hW _ hk0 _ hL _ _
 have hk : Rows.uptoSmall H (ds ++ gs) = true := hk0 _ rfl
 have hval : ∀ (j : Nat) t v, Tryz.f3.params[j]? = some t → args[j]? = some v → Value.okWide Tryz.prog W .any base t v := hval0
 have hW' := hW
 obtain ⟨p, q, hA0, hV, rfl, hfz, hnd⟩ := hW
 have hA : DataW.TrodAll enc Tryz.prog W 0 (fun _ => true) true Tryz.f3.params.toList args.toList ds p := hA0
 rw [Tryz.params3] at hA hval
 obtain ⟨v0, vs0, d0, ds0, p0, q0, hargs, rfl, rfl, h0, r0⟩ := trodAll_cons hA
 obtain ⟨v1, vs1, d1, ds1, p1, q1, rfl, rfl, rfl, h1, r1⟩ := trodAll_cons r0
 obtain ⟨v2, vs2, d2, ds2, p2, q2, rfl, rfl, rfl, h2, r2⟩ := trodAll_cons r1
 obtain ⟨v3, vs3, d3, ds3, p3, q3, rfl, rfl, rfl, h3, r3⟩ := trodAll_cons r2
 obtain ⟨rfl, rfl, rfl⟩ := trodAll_nil r3
 obtain rfl : args = #[v0, v1, v2, v3] := by cases args; simp_all
 obtain ⟨rfl, rfl⟩ := trodVars_none hV
 obtain ⟨c0, rfl, sz0⟩ := okWide_struct Tryz.underlying27 (hval 0 27 v0 rfl rfl)
 have k0 := h0
 obtain ⟨x0, o0, u0⟩ := Opens.agg opens_unit h0
 have lt0 : ∀ x ∈ p0, x.block < W.heap.size := by obtain ⟨m, hm⟩ := k0; exact DataW.trod_lt m _ _ _ hm
 obtain ⟨a1, len1, cap1, rfl⟩ := okWide_slice Tryz.underlying28 (hval 1 28 v1 rfl rfl)
 have k1 := h1
 obtain ⟨x1, o1, u1⟩ := Opens.sl opens_i64s h1
 have lt1 : ∀ x ∈ p1, x.block < W.heap.size := by obtain ⟨m, hm⟩ := k1; exact DataW.trod_lt m _ _ _ hm
 obtain ⟨a2, rfl, rfl, rfl, w2⟩ := open_int Tryz.underlying3 (hval 2 3 v2 rfl rfl) h2
 obtain ⟨a3, rfl, rfl, rfl, w3⟩ := open_int Tryz.underlying3 (hval 3 3 v3 rfl rfl) h3
 have hb : Rows.uptoBulkAll ([_, _, _, _] ++ []) ≤ 1048576 := of_decide_eq_true hk
 simp only [List.append_nil, Rows.uptoBulkAll] at hb
 clear hA0 hval0
 refine (ObserveGrows_walk c0 x0 _ x1 a2 a3 W o0 o1 (by omega) (gf_of_laid hL)).mono fun e W' ⟨he, bel⟩ => ?_
 subst he
 exact ⟨_, rfl, _, _, _, [], _, [], hW', trodAll_mk1 (shut_bool Tryz.underlying4 _), (trodAll_cons_mk (Below.trod laidOut (by kernel_rfl) (of_decide_eq_true (by kernel_rfl)) k0 bel lt0) (trodAll_cons_mk (Below.trod laidOut (by kernel_rfl) (of_decide_eq_true (by kernel_rfl)) k1 bel lt1) (trodAll_cons_mk (shut_int Tryz.underlying3 w2) (trodAll_cons_mk (shut_int Tryz.underlying3 w3) trodAll_mk0)))), rfl, bel.frame _, fun h => by cases h⟩
theorem ObserveGrows_row : Rows.ObserveGrowsUptoSaid :=
 OpenClaim.holds_of_cond 3 Tryz.f3 rfl rfl rfl rfl rfl rfl rfl ⟨rfl, rfl, rfl, rfl, rfl⟩ rfl rfl rfl rfl rfl (by kernel_rfl) Tryz.func3 (by kernel_rfl)
  (of_decide_eq_true (by kernel_rfl)) (by unfold Func.isWrapper; first | (rw [if_pos (by decide +kernel)]; kernel_rfl) | (rw [if_neg (by decide +kernel)]; exact ⟨rfl, rfl⟩))
  (fun os started H enc _ F => by rw [OpenClaim.pre_eq_preRow]; exact ObserveGrows_lifted os started H enc F)
theorem ObserveGrows_holds : Rows.ObserveGrowsUptoCardSaid :=
 Claim7.holds_tied_plain_at .later [] [.data] true (true, "5ae8e3f1f16500bc07b14e0e8e9a48098f4277fd941057f4b4b872011feaeb7b") false
  ObserveGrows_row (fun _ h => by cases h) (by kernel_rfl) (fun _ h => by cases h) observeGrowsUpto_row_tie rfl ⟨rfl, rfl⟩ (by kernel_rfl) rfl
  (fun f fn hf hfn => by
   obtain rfl : f = 3 := Option.some.inj ((show Tryz.prog.funcNamed "dataflow/dataflowlaw16.ObserveGrows" = some 3 by kernel_rfl).symm.trans hf) |>.symm
   obtain rfl : fn = Tryz.f3 := (Option.some.inj (Tryz.func3.symm.trans hfn)).symm
   exact ⟨by kernel_rfl, fun j t ht => by
    rw [Tryz.params3] at ht
    rcases j with _ | _ | _ | _ | j
    ·obtain rfl : t = 27 := by simpa using ht.symm
     exact (show Tryz.prog.wantsStandIn 27 = false by kernel_rfl)
    ·obtain rfl : t = 28 := by simpa using ht.symm
     exact (show Tryz.prog.wantsStandIn 28 = false by kernel_rfl)
    ·obtain rfl : t = 3 := by simpa using ht.symm
     exact (show Tryz.prog.wantsStandIn 3 = false by kernel_rfl)
    ·obtain rfl : t = 3 := by simpa using ht.symm
     exact (show Tryz.prog.wantsStandIn 3 = false by kernel_rfl)
    ·simp at ht⟩)
  (by kernel_rfl)
end Go.Proofs.YtnklnklkblgnfaaGreatDoor
end
