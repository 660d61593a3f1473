/- Contract of search. -/
import Derived.Test.YtchmjgjagaaomaaScv
import Derived.Test.YtchmjgjagaaomaaScs
import Derived.Test.YtchmjgjagaaomaaGv
namespace Go.Gra
open Go.Dfl (nth nth_mem mem_nth nth_eq nth_ext nth_set)
/-- Edges between nodes. -/
def eG (g : G) (a b : Nat) : Prop := a < g.n.toNat ∧ b ∈ suc g.es a
end Go.Gra
namespace Go.Proofs.Ytchmjgjagaaomaa
open Go.RowKit Go.Dfl Go.Gra Go.Tj
/-- The least node of each component. -/
def HdsAre (g : G) (l : List Int) : Prop := l.length = g.n.toNat ∧ ∀ v, v < g.n.toNat → ∃ m : Nat, nth l v = (m : Int) ∧ IsHd (eG g) v m
theorem HdsAre.unique {g : G} {l m : List Int} (h : HdsAre g l) (k : HdsAre g m) : l = m := nth_ext (h.1.trans k.1.symm) fun i hi => by
  obtain ⟨a, h1, h2⟩ := h.2 i (by rw [← h.1]; exact hi)
  obtain ⟨b, h3, h4⟩ := k.2 i (by rw [← h.1]; exact hi)
  rw [h1, h3, h2.unique h4]
def SearchR (g : G) (W : World) (e : Ending) (W' : World) : Prop := ∃ a c l, e = .returned (.slice a g.n.toNat c) ∧ OwnI W' W.heap.size 3 (.slice a g.n.toNat c) l ∧ HdsAre g l ∧ Below W.heap.size W W'
/-- Three boxes that are laid one after the other. -/
structure New3 (w : World) (x y z : Value) (Z : World) : Prop where
  bel : Below w.heap.size w Z
  x : Z.cell? ⟨w.heap.size, 0, none⟩ = some x
  y : Z.cell? ⟨w.heap.size + 1, 0, none⟩ = some y
  z : Z.cell? ⟨w.heap.size + 1 + 1, 0, none⟩ = some z
  fx : Z.frozen? ⟨w.heap.size, 0, none⟩ = false
  fy : Z.frozen? ⟨w.heap.size + 1, 0, none⟩ = false
  siz : Z.heap.size = w.heap.size + 1 + 1 + 1
theorem three_new (w : World) (x y z : Value) (t1 t2 t3 : TypeId) : New3 w x y z (((w.alloc (.cells #[x] t1)).alloc (.cells #[y] t2)).alloc (.cells #[z] t3)) := by
  have z1 : (w.alloc (.cells #[x] t1)).heap.size = w.heap.size + 1 := World.size_alloc _ _
  have z2 : ((w.alloc (.cells #[x] t1)).alloc (.cells #[y] t2)).heap.size = w.heap.size + 1 + 1 := by rw [World.size_alloc, z1]
  have g2 := grownBy_alloc (w.alloc (.cells #[x] t1)) (.cells #[y] t2)
  have g3 := grownBy_alloc ((w.alloc (.cells #[x] t1)).alloc (.cells #[y] t2)) (.cells #[z] t3)
  have cy := cell_alloc1 (w.alloc (.cells #[x] t1)) y t2
  have cz := cell_alloc1 ((w.alloc (.cells #[x] t1)).alloc (.cells #[y] t2)) z t3
  have fy := frozen_alloc1 (w.alloc (.cells #[x] t1)) y t2
  rw [z1] at cy fy
  rw [z2] at cz
  exact ⟨(((Below.refl w.heap.size w).alloc (Nat.le_refl _) _).alloc (by omega) _).alloc (by omega) _, g3.cell (g2.cell (cell_alloc1 w x t1) (by simp)) (by simp), g3.cell cy (by simp), cz, Go.Proofs.Ytchmjgjagaaomaa.frozen_kept g3 (by omega) (by simp) (Go.Proofs.Ytchmjgjagaaomaa.frozen_kept g2 (by omega) (by simp) (frozen_alloc1 w x t1)), Go.Proofs.Ytchmjgjagaaomaa.frozen_kept g3 (by omega) (by simp) fy, by rw [World.size_alloc, z2]⟩
/-- What each block is for. -/
def roleS (sn sl sh : Option Addr) (n cn cl ch bc bs q : Nat) : Nat :=
  if (Value.slice sn n cn).ownBlock = some q then 2 else if (Value.slice sl n cl).ownBlock = some q then 3 else if (Value.slice sh n ch).ownBlock = some q then 4 else if q = bc then 1 else if q = bs then 5 else 0
set_option maxHeartbeats 6400000 in
set_option maxRecDepth 100000 in
theorem gSearch_any (g : G) (cv : Value) (W : World) (h : Pairs W cv g.es) (hvg : VG g) : Calls Try.prog 44 #[GV g cv] W (SearchR g W) := by
  obtain ⟨ca, cc, rfl, -, -, -⟩ := pairs_rd h
  have hal := (Below.refl W.heap.size W).alloc (Nat.le_refl _) (.cells #[.int .i64 g.n, .slice ca g.es.length cc] 24)
  have H0 := Lib.hid (And.intro (h.below hal) (And.intro hal (BoxG.new W g.n (.slice ca g.es.length cc) 24)))
  obtain ⟨n, hn⟩ : ∃ n : Nat, g.n = n := ⟨g.n.toNat, by have := hvg.n0; omega⟩
  have hn8 : n ≤ 8192 := by have := hvg.n1; omega
  have HV := Lib.hid (And.intro hvg hn)
  unfold GV
  rw [hn] at H0 ⊢
  clear h hal hvg hn
  obtain ⟨c0, c1⟩ := H0.out.2.2
  have n1 : W.heap.size < (W.alloc (.cells #[.int .i64 (n : Int), .slice ca g.es.length cc] 24)).heap.size := H0.out.2.2.lt
  go_enter Try.func44, Try.ntmps44
  go_wp2_with fail
  have hsu := successors_any g (.slice ca g.es.length cc) _ H0.out.1 HV.out.1
  unfold GV at hsu
  rw [HV.out.2] at hsu
  refine hsu.mono ?_
  rintro e W1 ⟨ra, rc, us, rfl, hown, b1⟩
  rw [HV.out.2, Int.toNat_natCast] at hown ⊢
  have H1 := Lib.hid (And.intro (H0.out.2.2.below b1) (And.intro (H0.out.2.1.trans (b1.mono H0.out.2.1.size)) (OwnN.mono hown (Nat.le_of_lt n1))))
  clear hsu hown b1 c0 c1 n1
  obtain ⟨c0, c1⟩ := H1.out.1
  go_upto_region 2 with fail
  have hbA := (Below.refl W1.heap.size W1).alloc (Nat.le_refl _) (.cells #[.slice ra n rc] 28)
  have hz2 : (W1.alloc (.cells #[.slice ra n rc] 28)).heap.size = W1.heap.size + 1 := World.size_alloc _ _
  have hcu := cell_alloc1 W1 (.slice ra n rc) 28
  have hbo := H1.out.1.below hbA
  have hro := H1.out.2.2.below kIIg hbA
  have hbw := H1.out.2.1.trans (hbA.mono H1.out.2.1.size)
  have hft : ∀ q, Foot (.slice ra n rc) us q → W.heap.size ≤ q ∧ q < W1.heap.size := fun q hq => H1.out.2.2.foot kIIg q hq
  refine gen_code (fun Z => BoxG Z W.heap.size (n : Int) (.slice ca g.es.length cc) ∧ OwnN IIg Z W.heap.size 32 (.slice ra n rc) us (listsTo g.es n g.es.length) ∧ Below W.heap.size W Z ∧ Z.cell? ⟨W1.heap.size, 0, none⟩ = some (.slice ra n rc) ∧ Z.heap.size = W1.heap.size + 1) ⟨hbo, hro, hbw, hcu, hz2⟩ ?_
  intro W2 h2
  obtain ⟨bu, hbu⟩ : ∃ bu, bu = W1.heap.size := ⟨_, rfl⟩
  rw [← hbu] at h2 hft ⊢
  have H2 := Lib.hid (And.intro h2 hft)
  have hbuW : W.heap.size ≤ bu := by have := H1.out.2.1.size; omega
  clear hbA hz2 hcu hbo hro hbw hft h2 hbu c0 c1 H1
  obtain ⟨c0, c1⟩ := H2.out.1.1
  -- number
  go_upto_region 3 with (at_make; refine wp_make (f := Value.int .i64) 0 sIntG rfl _ rfl _ _ rfl .i64 .i64 _ _ n rfl rfl rfl rfl (by omega) (by unfold maxLen; omega) ?_; intro sn cn W3 hrow hb; have HN := Lib.hid (And.intro hrow hb); clear hrow hb c0 c1)
  have hbA := (Below.refl W3.heap.size W3).alloc (Nat.le_refl _) (.cells #[.slice sn n cn] 32)
  have hbB := HN.out.2.trans (hbA.mono HN.out.2.size)
  have hz4 : (W3.alloc (.cells #[.slice sn n cn] 32)).heap.size = W3.heap.size + 1 := World.size_alloc _ _
  have hcn := cell_alloc1 W3 (.slice sn n cn) 32
  refine gen_code (fun Z => Below W2.heap.size W2 Z ∧ OwnI Z W2.heap.size 3 (.slice sn n cn) (List.replicate n 0) ∧ Z.cell? ⟨W3.heap.size, 0, none⟩ = some (.slice sn n cn) ∧ Z.heap.size = W3.heap.size + 1) ⟨hbB, HN.out.1.below hbA, hcn, hz4⟩ ?_
  intro W4 h4
  have hW23 := HN.out.2.size
  have hnq := HN.out.1.lt
  obtain ⟨bn, hbn⟩ : ∃ bn, bn = W3.heap.size := ⟨_, rfl⟩
  rw [← hbn] at h4 hW23 hnq ⊢
  have H4 := Lib.hid (And.intro h4 (And.intro hW23 hnq))
  clear hbA hbB hz4 hcn h4 hW23 hnq hbn HN
  obtain ⟨c0, c1⟩ := H2.out.1.1.below H4.out.1.1
  -- low
  go_upto_region 4 with (at_make; refine wp_make (f := Value.int .i64) 0 sIntG rfl _ rfl _ _ rfl .i64 .i64 _ _ n rfl rfl rfl rfl (by omega) (by unfold maxLen; omega) ?_; intro sl cl W5 hrow hb; have HL := Lib.hid (And.intro hrow hb); clear hrow hb c0 c1)
  have hbA := (Below.refl W5.heap.size W5).alloc (Nat.le_refl _) (.cells #[.slice sl n cl] 32)
  have hbB := HL.out.2.trans (hbA.mono HL.out.2.size)
  have hz6 : (W5.alloc (.cells #[.slice sl n cl] 32)).heap.size = W5.heap.size + 1 := World.size_alloc _ _
  have hcn := cell_alloc1 W5 (.slice sl n cl) 32
  refine gen_code (fun Z => Below W4.heap.size W4 Z ∧ OwnI Z W4.heap.size 3 (.slice sl n cl) (List.replicate n 0) ∧ Z.cell? ⟨W5.heap.size, 0, none⟩ = some (.slice sl n cl) ∧ Z.heap.size = W5.heap.size + 1) ⟨hbB, HL.out.1.below hbA, hcn, hz6⟩ ?_
  intro W6 h6
  have hW45 := HL.out.2.size
  have hlq := HL.out.1.lt
  obtain ⟨bl, hbl⟩ : ∃ bl, bl = W5.heap.size := ⟨_, rfl⟩
  rw [← hbl] at h6 hW45 hlq ⊢
  have H6 := Lib.hid (And.intro h6 (And.intro hW45 hlq))
  clear hbA hbB hz6 hcn h6 hW45 hlq hbl HL
  have hb26 := H4.out.1.1.trans (H6.out.1.1.mono H4.out.1.1.size)
  obtain ⟨c0, c1⟩ := H2.out.1.1.below hb26
  have HB26 := Lib.hid hb26
  clear hb26
  -- head
  go_upto_region 5 with (at_make; refine wp_make (f := Value.int .i64) 0 sIntG rfl _ rfl _ _ rfl .i64 .i64 _ _ n rfl rfl rfl rfl (by omega) (by unfold maxLen; omega) ?_; intro sh ch W7 hrow hb; have HH := Lib.hid (And.intro hrow hb); clear hrow hb c0 c1)
  have hbA := (Below.refl W7.heap.size W7).alloc (Nat.le_refl _) (.cells #[.slice sh n ch] 32)
  have hbB := HH.out.2.trans (hbA.mono HH.out.2.size)
  have hz8 : (W7.alloc (.cells #[.slice sh n ch] 32)).heap.size = W7.heap.size + 1 := World.size_alloc _ _
  have hcn := cell_alloc1 W7 (.slice sh n ch) 32
  refine gen_code (fun Z => Below W6.heap.size W6 Z ∧ OwnI Z W6.heap.size 3 (.slice sh n ch) (List.replicate n 0) ∧ Z.cell? ⟨W7.heap.size, 0, none⟩ = some (.slice sh n ch) ∧ Z.heap.size = W7.heap.size + 1) ⟨hbB, HH.out.1.below hbA, hcn, hz8⟩ ?_
  intro W8 h8
  have hW67 := HH.out.2.size
  have hhq := HH.out.1.lt
  obtain ⟨bh, hbh⟩ : ∃ bh, bh = W7.heap.size := ⟨_, rfl⟩
  rw [← hbh] at h8 hW67 hhq ⊢
  have H8 := Lib.hid (And.intro h8 (And.intro hW67 hhq))
  clear hbA hbB hz8 hcn h8 hW67 hhq hbh HH
  have u1 := H8.out.1.2.2.1
  go_wp2_with fail
  clear u1
  go_loopw [25] (fun x wr => ∃ (j : Nat) (l : List Int), j ≤ n ∧ x = .int .i64 (j : Int) ∧ Hid (OwnI wr W6.heap.size 3 (.slice sh n ch) l ∧ l.length = n ∧ (∀ x, x < j → nth l x = -1) ∧ wr.cell? ⟨bh, 0, none⟩ = some (.slice sh n ch) ∧ Below W6.heap.size W6 wr ∧ wr.heap.size = bh + 1)) (fun x _ => n - (intOf x).toNat)
  case atStart => exact ⟨0, _, by omega, rfl, H8.out.1.2.1, by simp, fun x hx => by omega, H8.out.1.2.2.1, H8.out.1.1, H8.out.1.2.2.2⟩
  case round =>
    obtain ⟨j, l, hj, rfl, hh⟩ := hrel
    have HK := Lib.hid hh.out
    clear hh
    have u1 := HK.out.2.2.2.1
    by_cases hjt : j < n
    · have hjl : (j : Int) < (n : Int) := by omega
      obtain ⟨a1, a2, a3⟩ := own_int HK.out.1 HK.out.2.1 hjt
      have hob := own_blk HK.out.1 HK.out.2.1 (by omega)
      have hq := H8.out.2.2 _ hob
      have hst := HK.out.1.set j (-1 : Int)
      have hbn : bh ≠ blk sh := by omega
      have hce : (wr.setCell ⟨blk sh, ofs sh + j, none⟩ (.int .i64 (-1))).cell? ⟨bh, 0, none⟩ = some (.slice sh n ch) := by
        rw [World.cell?_setCell_other _ _ _ _ (by intro e9; have h9 := congrArg Addr.block e9; first | exact hbn h9 | exact hbn h9.symm)]; exact u1
      have hbe := HK.out.2.2.2.2.1.setCell (p := ⟨blk sh, ofs sh + j, none⟩) hq.1 (.int .i64 (-1))
      have hnew : ∀ x, x < j + 1 → nth (l.set j (-1)) x = -1 := fun x hx => by
        rw [nth_set, HK.out.2.1]
        by_cases e : j = x
        · rw [if_pos ⟨e, hjt⟩]
        · rw [if_neg fun h => e h.1]; exact HK.out.2.2.1 x (by omega)
      have HST := Lib.hid (And.intro hst (And.intro (show (l.set j (-1)).length = n by rw [List.length_set]; exact HK.out.2.1) (And.intro hnew (And.intro hce (And.intro hbe (show (wr.setCell ⟨blk sh, ofs sh + j, none⟩ (.int .i64 (-1))).heap.size = bh + 1 by rw [World.size_setCell]; exact HK.out.2.2.2.2.2))))))
      clear hob hq hst hbn hce hbe hnew
      go_wp2_with fail
      go_roundw
      case rel => exact ⟨j + 1, l.set j (-1), by omega, by go_num, HST.out⟩
      case measure => simp [intOf]; omega
    · obtain rfl : n = j := by omega
      have hb6 := HB26.out.trans (HK.out.2.2.2.2.1.mono HB26.out.size)
      obtain ⟨c0, c1⟩ := H2.out.1.1.below hb6
      have hszn : W.heap.size < wr.heap.size := World.block_lt_of_cell? _ _ c0
      have hb0 := H2.out.1.2.2.1.trans (hb6.mono H2.out.1.2.2.1.size)
      have HB6 := Lib.hid (And.intro hb6 hb0)
      clear hb6 hb0 hjt hj
      go_upto_region 14 with fail
      have h9 := three_new wr (.slice none 0 0) (.int .i64 0) (.func (.func 62) #[] #[.pointer (some ⟨wr.heap.size + 1, 0, none⟩), .pointer (some ⟨bn, 0, none⟩), .pointer (some ⟨bl, 0, none⟩), .pointer (some ⟨wr.heap.size, 0, none⟩), .pointer (some ⟨bu, 0, none⟩), .pointer (some ⟨wr.heap.size + 1 + 1, 0, none⟩), .pointer (some ⟨bh, 0, none⟩)]) 32 3 73
      refine gen_code (fun Z => New3 wr (.slice none 0 0) (.int .i64 0) (.func (.func 62) #[] #[.pointer (some ⟨wr.heap.size + 1, 0, none⟩), .pointer (some ⟨bn, 0, none⟩), .pointer (some ⟨bl, 0, none⟩), .pointer (some ⟨wr.heap.size, 0, none⟩), .pointer (some ⟨bu, 0, none⟩), .pointer (some ⟨wr.heap.size + 1 + 1, 0, none⟩), .pointer (some ⟨bh, 0, none⟩)]) Z) h9 ?_
      clear h9
      intro WI hI
      obtain ⟨zs, hzs⟩ : ∃ zs, zs = wr.heap.size := ⟨_, rfl⟩
      have hzb : zs = bh + 1 := by rw [hzs]; exact HK.out.2.2.2.2.2
      have e1 : W2.heap.size = bu + 1 := H2.out.1.2.2.2.2
      have e2 : W4.heap.size = bn + 1 := H4.out.1.2.2.2
      have e3 : W6.heap.size = bl + 1 := H6.out.1.2.2.2
      have o1 : W2.heap.size ≤ bn := H4.out.2.1
      have o2 : W4.heap.size ≤ bl := H6.out.2.1
      have o3 : W6.heap.size ≤ bh := H8.out.2.1
      have qn : ∀ q, (Value.slice sn n cn).ownBlock = some q → bu < q ∧ q < bn := fun q e => by have := H4.out.2.2 q e; omega
      have ql : ∀ q, (Value.slice sl n cl).ownBlock = some q → bn < q ∧ q < bl := fun q e => by have := H6.out.2.2 q e; omega
      have qh : ∀ q, (Value.slice sh n ch).ownBlock = some q → bl < q ∧ q < bh := fun q e => by have := H8.out.2.2 q e; omega
      have r0 : ∀ q, (q ≤ bu ∨ q = bn ∨ q = bl ∨ q = bh ∨ q = zs + 1 + 1) → roleS sn sl sh n cn cl ch (zs + 1) zs q = 0 := fun q hq => by
        unfold roleS
        rw [if_neg fun e => by have := qn q e; omega, if_neg fun e => by have := ql q e; omega, if_neg fun e => by have := qh q e; omega, if_neg (by omega), if_neg (by omega)]
      have r1 : roleS sn sl sh n cn cl ch (zs + 1) zs (zs + 1) = 1 := by
        unfold roleS
        rw [if_neg fun e => by have := qn _ e; omega, if_neg fun e => by have := ql _ e; omega, if_neg fun e => by have := qh _ e; omega, if_pos rfl]
      have r5 : roleS sn sl sh n cn cl ch (zs + 1) zs zs = 5 := by
        unfold roleS
        rw [if_neg fun e => by have := qn _ e; omega, if_neg fun e => by have := ql _ e; omega, if_neg fun e => by have := qh _ e; omega, if_neg (by omega), if_pos rfl]
      have r2 : ∀ q, (Value.slice sn n cn).ownBlock = some q → roleS sn sl sh n cn cl ch (zs + 1) zs q = 2 := fun q e => by unfold roleS; rw [if_pos e]
      have r3 : ∀ q, (Value.slice sl n cl).ownBlock = some q → roleS sn sl sh n cn cl ch (zs + 1) zs q = 3 := fun q e => by
        unfold roleS; rw [if_neg fun e2 => by have := qn _ e2; have := ql _ e; omega, if_pos e]
      have r4 : ∀ q, (Value.slice sh n ch).ownBlock = some q → roleS sn sl sh n cn cl ch (zs + 1) zs q = 4 := fun q e => by
        unfold roleS; rw [if_neg fun e2 => by have := qn _ e2; have := qh _ e; omega, if_neg fun e2 => by have := ql _ e2; have := qh _ e; omega, if_pos e]
      have b6I : Below W6.heap.size W6 WI := HK.out.2.2.2.2.1.trans (hI.bel.mono HK.out.2.2.2.2.1.size)
      have b4I : Below W4.heap.size W4 WI := H6.out.1.1.trans (b6I.mono H6.out.1.1.size)
      have b2I : Below W2.heap.size W2 WI := H4.out.1.1.trans (b4I.mono H4.out.1.1.size)
      have b0I : Below W.heap.size W WI := H2.out.1.2.2.1.trans (b2I.mono H2.out.1.2.2.1.size)
      have hsI := hI.siz
      rw [← hzs] at hI hsI ⊢
      have hIx := hI.x
      have hIy := hI.y
      have hIz := hI.z
      have hIf := hI.fx
      have hIg := hI.fy
      rw [← hzs] at hIx hIy hIz hIf hIg
      obtain ⟨L, hL⟩ : ∃ L : SeL, L = { bc := zs + 1, bn := bn, bl := bl, bs := zs, bu := bu, bf := zs + 1 + 1, bh := bh, sn := sn, sl := sl, sh := sh, cn := cn, cl := cl, ch := ch, su := ra, cu := rc, us := us, B0 := W.heap.size, B := zs + 1 + 1 + 1, rl := roleS sn sl sh n cn cl ch (zs + 1) zs, W0 := WI, n := n, ll := listsTo g.es n g.es.length, fv := .func (.func 62) #[] #[.pointer (some ⟨zs + 1, 0, none⟩), .pointer (some ⟨bn, 0, none⟩), .pointer (some ⟨bl, 0, none⟩), .pointer (some ⟨zs, 0, none⟩), .pointer (some ⟨bu, 0, none⟩), .pointer (some ⟨zs + 1 + 1, 0, none⟩), .pointer (some ⟨bh, 0, none⟩)] } := ⟨_, rfl⟩
      have hS : SeS L := by
        subst hL
        exact {
          kc := ⟨r1, by show zs + 1 < zs + 1 + 1 + 1; omega, by show W.heap.size ≤ zs + 1; omega⟩
          kn := fun q e => ⟨r2 q e, by have := qn q e; show q < zs + 1 + 1 + 1; omega⟩
          kl := fun q e => ⟨r3 q e, by have := ql q e; show q < zs + 1 + 1 + 1; omega⟩
          kh := fun q e => ⟨r4 q e, by have := qh q e; show q < zs + 1 + 1 + 1; omega⟩
          ks := ⟨r5, by show zs < zs + 1 + 1 + 1; omega, by show W.heap.size ≤ zs; omega⟩
          xn := ⟨b4I.cell (p := ⟨bn, 0, none⟩) (by show bn < W4.heap.size; omega) ▸ H4.out.1.2.2.1, r0 _ (.inr (.inl rfl)), by show bn < zs + 1 + 1 + 1; omega⟩
          xl := ⟨b6I.cell (p := ⟨bl, 0, none⟩) (by show bl < W6.heap.size; omega) ▸ H6.out.1.2.2.1, r0 _ (.inr (.inr (.inl rfl))), by show bl < zs + 1 + 1 + 1; omega⟩
          xh := ⟨hI.bel.cell (p := ⟨bh, 0, none⟩) (by show bh < wr.heap.size; omega) ▸ HK.out.2.2.2.1, r0 _ (.inr (.inr (.inr (.inl rfl)))), by show bh < zs + 1 + 1 + 1; omega⟩
          xu := ⟨b2I.cell (p := ⟨bu, 0, none⟩) (by show bu < W2.heap.size; omega) ▸ H2.out.1.2.2.2.1, r0 _ (.inl (Nat.le_refl _)), by show bu < zs + 1 + 1 + 1; omega⟩
          xf := ⟨hIz, r0 _ (.inr (.inr (.inr (.inr rfl)))), by show zs + 1 + 1 < zs + 1 + 1 + 1; omega⟩
          gr := H2.out.1.2.1.below kIIg b2I
          gl := listsTo_len _ _ _
          gf := fun q hq => by have h9 := H2.out.2 q hq; exact ⟨r0 q (.inl (by omega)), by show q < zs + 1 + 1 + 1; omega⟩
          n8 := hn8
          bb := by show W.heap.size ≤ zs + 1 + 1 + 1; omega }
      obtain ⟨num0, hnum0⟩ : ∃ num0 : List Nat, num0 = List.replicate n 0 := ⟨_, rfl⟩
      have hcast : castL num0 = List.replicate n 0 := by rw [hnum0]; unfold castL; rw [List.map_replicate]; rfl
      have hlen0 : num0.length = n := by rw [hnum0, List.length_replicate]
      have hz0 : ∀ v, nth num0 v = 0 := fun v => by
        false_or_by_contra
        rename_i hne
        have h9 := nth_in hne
        rw [hnum0, nth_eq _ _ (by rw [← hnum0]; exact h9), List.getElem_replicate] at hne
        exact hne rfl
      have hW : SeW L 0 num0 num0 l [] WI := by
        subst hL
        exact {
          c := hIy
          cf := hIg
          num := by rw [hcast]; exact (H4.out.1.2.1.below b4I).mono (by have := H2.out.1.2.2.1.size; exact this)
          low := by rw [hcast]; exact (H6.out.1.2.1.below b6I).mono (by show W.heap.size ≤ W4.heap.size; omega)
          hd := (HK.out.1.below hI.bel).mono (by show W.heap.size ≤ W6.heap.size; omega)
          stk := ⟨⟨_, hIx, Go.Dfl.Own.nil _ _ _ _⟩, hIf, by show zs < zs + 1 + 1 + 1; omega⟩
          imm := fun q _ _ => rfl
          bel := Below.refl _ _
          top := by show zs + 1 + 1 + 1 ≤ WI.heap.size; omega }
      have hnL : L.n = n := by rw [hL]
      have hR : RowsAre L (fun v => suc g.es v) := by
        subst hL
        refine ⟨fun v hv => ?_, fun v hv w hw => ?_, rfl⟩
        · show nth (listsTo g.es n g.es.length) v = castL (suc g.es v)
          rw [listsTo_nth hv, succK_suc HV.out.1 (by omega), Int.toNat_natCast]; rfl
        · have h9 := suc_node HV.out.1 hw
          rw [HV.out.2, Int.toNat_natCast] at h9; exact h9
      have hTI : TI (Ev L fun v => suc g.es v) n [] 0 num0 l [] := TI.start hlen0 HK.out.2.1 (fun v _ => hz0 v) (fun v hv => by rw [HK.out.2.2.1 v hv]; decide)
      have hEv : (Ev L fun v => suc g.es v) = eG g := by
        funext a b
        unfold Ev eG
        rw [hnL, HV.out.2, Int.toNat_natCast]
      rw [hEv] at hTI
      have hpt : L.bc = zs + 1 ∧ L.bn = bn ∧ L.bl = bl ∧ L.bs = zs ∧ L.bu = bu ∧ L.bf = zs + 1 + 1 ∧ L.bh = bh := by rw [hL]; exact ⟨rfl, rfl, rfl, rfl, rfl, rfl, rfl⟩
      have hsh : L.sn = sn ∧ L.cn = cn ∧ L.sh = sh ∧ L.ch = ch ∧ L.B0 = W.heap.size ∧ L.W0 = WI := by rw [hL]; exact ⟨rfl, rfl, rfl, rfl, rfl, rfl⟩
      obtain ⟨c0, -⟩ := H2.out.1.1.below b2I
      have HP := Lib.hid (And.intro hS (And.intro hR (And.intro hEv (And.intro hnL (And.intro hpt (And.intro hsh b0I))))))
      have HQ := Lib.hid (And.intro hW (And.intro hTI hlen0))
      clear hS hR hEv hnL hpt hsh b0I hW hTI hlen0 hL hIx hIy hIz hIf hIg b2I b4I b6I r0 r1 r2 r3 r4 r5 qn ql qh o1 o2 o3 e1 e2 e3 hzb hsI hI hnum0 hcast hz0 hszn c1
      have HZS := Lib.hid hzs
      clear hzs
      go_wp2_with fail
      clear c0
      go_loopw [35] (fun x wr => ∃ (v cnt : Nat) (num low : List Nat) (hd : List Int), v ≤ n ∧ x = .int .i64 (v : Int) ∧ Hid (SeW L cnt num low hd [] wr ∧ TI (eG g) n [] cnt num hd [] ∧ low.length = n ∧ ∀ x, x < v → nth num x ≠ 0)) (fun x _ => n - (intOf x).toNat)
      case atStart => exact ⟨0, 0, num0, num0, l, by omega, rfl, HQ.out.1, HQ.out.2.1, HQ.out.2.2, fun x hx => by omega⟩
      case round =>
        obtain ⟨v, cnt, num, low, hd, hv, rfl, hh⟩ := hrel
        have HI := Lib.hid hh.out
        clear hh
        obtain ⟨p1, p2, p3, p4, p5, p6, p7⟩ := HP.out.2.2.2.2.1
        obtain ⟨k1, k2, k3, k4, k5, k6⟩ := HP.out.2.2.2.2.2.1
        have hnL := HP.out.2.2.2.1
        have u2 := HI.out.1.stays ⟨HP.out.1.xn.2.1, HP.out.1.xn.2.2⟩ HP.out.1.xn.1
        have u7 := HI.out.1.stays ⟨HP.out.1.xh.2.1, HP.out.1.xh.2.2⟩ HP.out.1.xh.1
        have u6 := HI.out.1.stays ⟨HP.out.1.xf.2.1, HP.out.1.xf.2.2⟩ HP.out.1.xf.1
        rw [HP.out.2.1.fv] at u6
        unfold visV at u6
        rw [p2, k1, k2, hnL] at u2
        rw [p7, k3, k4, hnL] at u7
        rw [p1, p2, p3, p4, p5, p6, p7] at u6
        by_cases hvt : v < n
        · have hvl : (v : Int) < (n : Int) := by omega
          obtain ⟨a1, a2, -⟩ := HI.out.1.rdN (by rw [hnL]; exact HI.out.2.1.lenN) (x := v) (by rw [hnL]; exact hvt)
          rw [k1] at a1
          rw [k1, k2, hnL] at a2
          by_cases h0 : nth num v = 0
          · rw [h0] at a1
            have hti := HI.out.2.1
            rw [← HP.out.2.2.1] at hti
            have hcall := tvisit_any L HP.out.1 (fun v => suc g.es v) HP.out.2.1 n v [] cnt num low hd [] wr HI.out.1 (by rw [hnL]; exact hti) (by rw [hnL]; exact HI.out.2.2.1) (by rw [hnL]; exact hvt) h0 (fun z hz => by cases hz) (by rw [hnL]; omega)
            rw [p1, p2, p3, p4, p5, p6, p7] at hcall
            have HCALL := Lib.hid hcall
            have HNL := Lib.hid hnL
            clear hcall hti p1 p2 p3 p4 p5 p6 p7 k1 k2 k3 k4 k5 k6 hnL
            go_wp2_with fail
            refine HCALL.out.mono ?_
            rintro e Y ⟨rfl, cnt', num', low', hd', stk', q1, q2⟩
            rw [HP.out.2.2.1, HNL.out] at q2
            have hse := q2.inv.empty
            subst hse
            have HY := Lib.hid (And.intro q1 (And.intro q2.inv (And.intro q2.lenL (show ∀ x, x < v + 1 → nth num' x ≠ 0 from fun x hx => by
              by_cases e : x = v
              · rw [e]; exact q2.vis
              · rw [q2.keepN x (by omega) (HI.out.2.2.2 x (by omega))]; exact HI.out.2.2.2 x (by omega)))))
            clear q1 q2
            go_wp2_with fail
            go_roundw
            case rel => exact ⟨v + 1, cnt', num', low', hd', by omega, by go_num, HY.out⟩
            case measure => simp [intOf]; omega
          · have w1 : (((nth num v : Nat) : Int) == 0) = false := by simp; exact h0
            have HY : Hid (∀ x, x < v + 1 → nth num x ≠ 0) := Lib.hid fun x hx => by
              by_cases e : x = v
              · rw [e]; exact h0
              · exact HI.out.2.2.2 x (by omega)
            clear h0 p1 p2 p3 p4 p5 p6 p7 k1 k2 k3 k4 k5 k6 hnL
            go_wp2_with fail
            go_roundw
            case rel => exact ⟨v + 1, cnt, num, low, hd, by omega, by go_num, HI.out.1, HI.out.2.1, HI.out.2.2.1, HY.out⟩
            case measure => simp [intOf]; omega
        · obtain rfl : n = v := by omega
          have hfin := HI.out.1.hd
          rw [k5, k3, k4, hnL] at hfin
          have hbel := HI.out.1.bel
          rw [k5, k6] at hbel
          have HF := Lib.hid (And.intro hfin hbel)
          clear hfin hbel p1 p2 p3 p4 p5 p6 p7 k1 k2 k3 k4 k5 k6 hnL
          go_wp2_with fail
          go_ret
          refine ⟨sh, ch, hd, by rw [HV.out.2]; rfl, by rw [HV.out.2, Int.toNat_natCast]; exact HF.out.1, ⟨by rw [HV.out.2, Int.toNat_natCast]; exact HI.out.2.1.lenH, fun x hx => ?_⟩, HP.out.2.2.2.2.2.2.trans HF.out.2⟩
          rw [HV.out.2, Int.toNat_natCast] at hx
          exact HI.out.2.1.fin HI.out.2.2.2 hx
end Go.Proofs.Ytchmjgjagaaomaa
