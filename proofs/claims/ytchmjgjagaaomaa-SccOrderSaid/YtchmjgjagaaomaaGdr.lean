/- Contract of the reference's Distances. -/
import Derived.Test.YtchmjgjagaaomaaGls
import Derived.Test.YtchmjgjagaaomaaGv
namespace Go.Gra
open Go.Dfl (nth nth_mem mem_nth nth_eq nth_ext nth_set take_snoc)
theorem cohB_start (n : Nat) : CohB n (List.replicate n (-1), []) := by
  refine ⟨coh_start n, List.nodup_nil, fun w hw => ?_, fun w hw => ?_⟩
  all_goals
    dsimp only
    rw [nth_eq _ _ (by simpa using hw), List.getElem_replicate]
    first | omega | simp
/-- The start, from the first k nodes that are asked for. -/
def dSk (n : Nat) (l : List Int) (k : Nat) : List Int × List Nat := (l.take k).foldl (fun s v => if nodeB (n : Int) v then dvs 0 s v.toNat else s) (List.replicate n (-1), [])
theorem dSk_succ {n : Nat} {l : List Int} {k : Nat} (h : k < l.length) : dSk n l (k + 1) = if nodeB (n : Int) (nth l k) then dvs 0 (dSk n l k) (nth l k).toNat else dSk n l k := by
  unfold dSk; rw [take_snoc _ _ h, List.foldl_append]; rfl
theorem dSk_all {n : Nat} {l : List Int} : dSk n l l.length = dS (n : Int) l := by unfold dSk dS; rw [List.take_length, Int.toNat_natCast]
theorem suc_take {es : List Nat} {d : Int} {t : List Int × List Nat} {k : Nat} (h : k < es.length) : (es.take (k + 1)).foldl (dvs d) t = dvs d ((es.take k).foldl (dvs d) t) (nth es k) := by
  rw [take_snoc _ _ h, List.foldl_append]; rfl
end Go.Gra
namespace Go.Proofs.Ytchmjgjagaaomaa
open Go.RowKit Go.Dfl Go.Gra

/-- The state of the search. -/
structure RdW (B n cap : Nat) (s : Option Addr) (t : List Int × List Nat) (nv : Value) (W : World) : Prop where
  row : OwnI W B 3 (.slice s n cap) t.1
  lst : OwnI W B 3 nv (t.2.map fun x : Nat => (x : Int))
  sep : ∀ k, (Value.slice s n cap).ownBlock = some k → nv.ownBlock ≠ some k
  coh : CohB n t
  hB : B ≤ W.heap.size
section
variable {B n cap : Nat} {s : Option Addr} {t : List Int × List Nat} {nv : Value} {W W' : World}
theorem RdW.grown (h : RdW B n cap s t nv W) (hg : W.grownBy W' none) : RdW B n cap s t nv W' :=
  ⟨h.row.grown hg (by cases (Value.slice s n cap).ownBlock <;> simp), h.lst.grown hg (by cases nv.ownBlock <;> simp), h.sep, h.coh, Nat.le_trans h.hB hg.size⟩
theorem RdW.lstSet (h : RdW B n cap s t nv W) {x : Nat} (hx : x < n) (d : Int) : OwnI (W.setCell ⟨blk s, ofs s + x, none⟩ (.int .i64 d)) B 3 nv (t.2.map fun x : Nat => (x : Int)) := by
  obtain ⟨ho, -⟩ := own_at h.row (by rw [h.coh.coh.len]; omega)
  exact h.lst.setOther (p := ⟨blk s, ofs s + x, none⟩) (h.sep _ ho) _
theorem RdW.add (h : RdW B n cap s t nv W) {x : Nat} (hx : x < n) (hneg : nth t.1 x < 0) {d : Int} (hd : 0 ≤ d) (hd2 : d ≤ t.2.length + 1) {w3 : World} {v' : Value}
    (hown : OwnI w3 B 3 v' ((t.2.map fun x : Nat => (x : Int)) ++ [(x : Int)])) (hgr : ((W.setCell ⟨blk s, ofs s + x, none⟩ (.int .i64 d)).alloc (.cells #[.int .i64 (x : Int)] 3)).grownBy w3 nv.ownBlock)
    (hat : v'.ownBlock = nv.ownBlock ∨ v'.ownBlock = some ((W.setCell ⟨blk s, ofs s + x, none⟩ (.int .i64 d)).alloc (.cells #[.int .i64 (x : Int)] 3)).heap.size) :
    RdW B n cap s (dvs d t x) v' w3 ∧ Below B W w3 := by
  obtain ⟨ho, -⟩ := own_at h.row (by rw [h.coh.coh.len]; omega)
  have gA := grownBy_alloc (W.setCell ⟨blk s, ofs s + x, none⟩ (.int .i64 d)) (.cells #[.int .i64 (x : Int)] 3)
  have hz2 : ((W.setCell ⟨blk s, ofs s + x, none⟩ (.int .i64 d)).alloc (.cells #[.int .i64 (x : Int)] 3)).heap.size = W.heap.size + 1 := by rw [World.size_alloc, World.size_setCell]
  have hz1 : (W.setCell ⟨blk s, ofs s + x, none⟩ (.int .i64 d)).heap.size = W.heap.size := World.size_setCell _ _ _
  have hz3 := hgr.size
  rw [hz2] at hz3 hat
  have hbs := h.row.lt _ ho
  have hB := h.hB
  have hdv : dvs d t x = (t.1.set x d, t.2 ++ [x]) := by unfold dvs; rw [if_pos hneg]
  refine ⟨⟨?_, ?_, fun k e e2 => ?_, (h.coh.dvs hx hd hd2).1, by omega⟩, ?_⟩
  · rw [hdv]
    exact ((h.row.set x d).grown gA (by rw [ho]; simp)).grown hgr (.inr (by rw [ho]; exact fun e => h.sep _ ho e.symm))
  · rw [hdv, List.map_append]; exact hown
  · rcases hat with h1 | h1
    · exact h.sep k e (h1 ▸ e2)
    · have := h.row.lt k e
      have := Option.some.inj (e2.symm.trans h1)
      omega
  · exact (((Below.refl B W).setCell (p := ⟨blk s, ofs s + x, none⟩) hbs.1 _).alloc (by rw [hz1]; omega) _).grown hgr (by rw [hz2]; omega) (fun k e => (h.lst.lt k e).1)
theorem RdW.rd (h : RdW B n cap s t nv W) (hn8 : n ≤ 8192) {j : Nat} (hj : j < n) : W.cell? ⟨blk s, ofs s + j, none⟩ = some (.int .i64 (nth t.1 j)) ∧ (∀ Y', (Instr.indexAt 32 (.slice s n cap) (.int .i64 (j : Int))).run Try.prog Y' = .ok (.pointer (some ⟨blk s, ofs s + j, none⟩)) Y') ∧ W.frozen? ⟨blk s, ofs s + j, none⟩ = false := by
  obtain ⟨a9, c9, he, hm9, hidx, hcell, -⟩ := h.row.lst.out1 sIntG
  rw [h.coh.coh.len] at he hm9 hidx hcell
  simp only [Value.slice.injEq] at he
  obtain ⟨rfl, -, rfl⟩ := he
  exact ⟨hcell j hj, fun Y' => by have := hidx .i64 (j : Int) (by omega) (by omega) Y'; rw [Int.toNat_natCast] at this; exact this, h.row.frozen (by rw [h.coh.coh.len]; omega) _⟩
end
/-- The search beside the lists of the successors. -/
structure RnW (W1 : World) (z0 z1 n cap : Nat) (s ga : Option Addr) (gc : Nat) (vs : List Value) (ll : List (List Int)) (t : List Int × List Nat) (nv : Value) (W : World) : Prop where
  rd : RdW W1.heap.size n cap s t nv W
  gr : OwnN IIg W z0 32 (.slice ga n gc) vs ll
  ft : ∀ q, Foot (.slice ga n gc) vs q → z0 ≤ q ∧ q < z1
  rb : ∀ q, (Value.slice s n cap).ownBlock = some q → q < z0
  nb : ∀ q, nv.ownBlock = some q → q < z0 ∨ z1 ≤ q
  hz : z1 ≤ W.heap.size
  bel : Below W1.heap.size W1 W
theorem RnW.add {W1 : World} {z0 z1 n cap : Nat} {s ga : Option Addr} {gc : Nat} {vs : List Value} {ll : List (List Int)} {t : List Int × List Nat} {nv : Value} {W : World} (h : RnW W1 z0 z1 n cap s ga gc vs ll t nv W) {x : Nat} (hx : x < n) (hneg : nth t.1 x < 0) {d : Int} (hd : 0 ≤ d) (hd2 : d ≤ t.2.length + 1) {w3 : World} {v' : Value}
    (hown : OwnI w3 W1.heap.size 3 v' ((t.2.map fun x : Nat => (x : Int)) ++ [(x : Int)])) (hgr : ((W.setCell ⟨blk s, ofs s + x, none⟩ (.int .i64 d)).alloc (.cells #[.int .i64 (x : Int)] 3)).grownBy w3 nv.ownBlock)
    (hat : v'.ownBlock = nv.ownBlock ∨ v'.ownBlock = some ((W.setCell ⟨blk s, ofs s + x, none⟩ (.int .i64 d)).alloc (.cells #[.int .i64 (x : Int)] 3)).heap.size) :
    RnW W1 z0 z1 n cap s ga gc vs ll (dvs d t x) v' w3 := by
  obtain ⟨m1, m2⟩ := h.rd.add hx hneg hd hd2 hown hgr hat
  obtain ⟨ho, -⟩ := own_at h.rd.row (by rw [h.rd.coh.coh.len]; omega)
  have gS := grownBy_setCell W ⟨blk s, ofs s + x, none⟩ (.int .i64 d)
  have gA := grownBy_alloc (W.setCell ⟨blk s, ofs s + x, none⟩ (.int .i64 d)) (.cells #[.int .i64 (x : Int)] 3)
  have hz2 : ((W.setCell ⟨blk s, ofs s + x, none⟩ (.int .i64 d)).alloc (.cells #[.int .i64 (x : Int)] 3)).heap.size = W.heap.size + 1 := by rw [World.size_alloc, World.size_setCell]
  have hsz := m2.size
  refine ⟨m1, ((h.gr.grown kIIg gS fun q e hf => ?_).grown kIIg gA (by simp)).grown kIIg hgr fun q e hf => ?_, h.ft, h.rb, fun q e => ?_, Nat.le_trans h.hz hsz, h.bel.trans m2⟩
  · have e2 : blk s = q := Option.some.inj e
    have := h.rb _ ho
    have := h.ft q hf
    omega
  · have := h.ft q hf
    rcases h.nb q e with h1 | h1 <;> omega
  · rcases hat with h1 | h1
    · exact h.nb q (h1 ▸ e)
    · rw [hz2] at h1
      have := Option.some.inj (h1.symm.trans e)
      have := h.hz
      omega
def RDisR (g : G) (l : List Int) (W : World) (e : Ending) (W' : World) : Prop := ∃ a c, e = .returned (.slice a g.n.toNat c) ∧ OwnI W' W.heap.size 3 (.slice a g.n.toNat c) (distL g l) ∧ Below W.heap.size W W'
set_option maxHeartbeats 3200000 in
set_option maxRecDepth 100000 in
theorem rDistances_any (g : G) (cv lv : Value) (l : List Int) (W : World) (h : Pairs W cv g.es) (hf : Ints W lv l) (hvg : VG g) : Calls Try.prog 15 #[GV g cv, lv] W (RDisR g l W) := by
  obtain ⟨ca, cc, rfl, -, -, -⟩ := pairs_rd h
  obtain ⟨fa, fc, rfl, hfm, hfi, hfc, hfb⟩ := hf.out1 sIntG
  have hal := (Below.refl W.heap.size W).alloc (Nat.le_refl _) (.cells #[.int .i64 g.n, .slice ca g.es.length cc] 24)
  have H1 := Lib.hid (And.intro (h.below hal) (And.intro hal (BoxG.new W g.n (.slice ca g.es.length cc) 24)))
  have HF := Lib.hid (And.intro hfc hfb)
  obtain ⟨n, hn⟩ : ∃ n : Nat, g.n = n := ⟨g.n.toNat, by have := hvg.n0; omega⟩
  have hn8 : n ≤ 8192 := by have := hvg.n1; omega
  have hl := hvg.len
  have HV := Lib.hid (And.intro hvg hn)
  unfold GV
  rw [hn] at H1 ⊢
  clear h hf hal hfc hfb hvg hn
  obtain ⟨c0, c1⟩ := H1.out.2.2
  have n1 : W.heap.size < (W.alloc (.cells #[.int .i64 (n : Int), .slice ca g.es.length cc] 24)).heap.size := H1.out.2.2.lt
  go_enter Try.func15, Try.ntmps15
  go_wp2_with (at_make; refine wp_make (f := Value.int .i64) 0 sIntG rfl _ rfl _ _ rfl .i64 .i64 _ _ n rfl rfl rfl rfl (by omega) (by unfold maxLen; omega) ?_)
  intro s cap W2 hrow hb2
  rw [← World.size_alloc W (.cells #[.int .i64 (n : Int), .slice ca g.es.length cc] 24)] at hrow hb2
  generalize W.alloc (.cells #[.int .i64 (n : Int), .slice ca g.es.length cc] 24) = W1 at *
  have HL0 := Lib.hid (And.intro hrow hb2)
  clear hrow hb2
  go_wp2_with fail
  generalize hbs : W.heap.size = bs at *
  have HBS := Lib.hid hbs
  clear hbs
  go_loopw [7] (fun x wr => ∃ k : Nat, k ≤ n ∧ x = .int .i64 k ∧ Hid (∃ f, OwnI wr W1.heap.size 3 (.slice s n cap) f ∧ Below W1.heap.size W1 wr ∧ f.length = n ∧ ∀ j, j < k → nth f j = -1)) (fun x _ => n - (intOf x).toNat)
  case atStart => exact ⟨0, by omega, rfl, _, HL0.out.1, HL0.out.2, by simp, fun j hj => by omega⟩
  case round =>
    obtain ⟨k, hk, rfl, hh⟩ := hrel
    obtain ⟨f, hro, hbe, hfl, hneg⟩ := hh.out
    have HRS := Lib.hid (And.intro hro (And.intro hbe (And.intro hfl hneg)))
    obtain ⟨d0, d1⟩ := H1.out.2.2.below hbe
    clear hh hneg
    by_cases hlt : k < n
    · obtain ⟨a9, c9, he, hm9, hidx, hcell, -⟩ := hro.lst.out1 sIntG
      rw [hfl] at he hm9 hidx hcell
      simp only [Value.slice.injEq] at he
      obtain ⟨rfl, -, rfl⟩ := he
      have hci := hcell k hlt
      have hii := hidx .i64 (k : Int) (by omega) (by omega)
      have hf0 := hro.frozen (by omega) (ofs s + k)
      rw [Int.toNat_natCast] at hii
      have hkl : (k : Int) < (n : Int) := by omega
      clear hro hidx hcell hbe
      go_wp2_with fail
      go_roundw
      case rel =>
        obtain ⟨h1, h2, h3, h4⟩ := HRS.out
        obtain ⟨ho, -⟩ := own_at h1 (by omega)
        exact ⟨k + 1, by omega, by go_num, _, h1.set k (-1), h2.setCell (p := ⟨blk s, ofs s + k, none⟩) (h1.lt _ ho).1 _, by rw [List.length_set]; exact h3, fun j hj => by
          rw [nth_set]
          split
          · rfl
          · rename_i hne
            by_cases e : k = j
            · exact absurd ⟨e, by rw [h3]; exact hlt⟩ hne
            · exact h4 j (by omega)⟩
      case measure => simp [intOf]; omega
    · obtain rfl : k = n := by omega
      have hlr : f = List.replicate k (-1) := nth_ext (by rw [hfl, List.length_replicate]) fun i hi => by
        rw [hfl] at hi
        rw [HRS.out.2.2.2 i hi, nth_eq _ _ (by simpa using hi), List.getElem_replicate]
      subst hlr
      have hr0 : RdW W1.heap.size k cap s (dSk k l 0) (.slice none 0 0) wr := ⟨hro, Go.Dfl.Own.nil _ _ _ _, fun q _ e => by simp [Value.ownBlock] at e, cohB_start k, hbe.size⟩
      have HR0 := Lib.hid (And.intro hr0 hbe)
      clear hr0 hro hbe HRS hlt hfl hk HL0
      go_wp2_with fail
      go_loopw [6, 8] (fun nv x wr => ∃ i : Nat, i ≤ l.length ∧ x = .int .i64 i ∧ Hid (RdW W1.heap.size k cap s (dSk k l i) nv wr ∧ Below W1.heap.size W1 wr)) (fun _ x _ => l.length - (intOf x).toNat)
      case atStart => exact ⟨0, by omega, rfl, HR0.out⟩
      case round =>
        obtain ⟨i, hi, rfl, hh⟩ := hrel
        obtain ⟨hrd, hbe⟩ := hh.out
        obtain ⟨os, oc, rfl⟩ := hrd.lst.shape (n := (dSk k l i).2.length) (by rw [List.length_map])
        have hql := hrd.coh.qlen
        have hsz := hbe.size
        by_cases hlt : i < l.length
        · have hbW := H1.out.2.1.trans (hbe.mono (Nat.le_of_lt n1))
          obtain ⟨y, hy⟩ : ∃ y, y = nth l i := ⟨_, rfl⟩
          have hcl : ∀ Z, Below wr.heap.size wr Z → Z.cell? ⟨blk fa, ofs fa + i, none⟩ = some (.int .i64 y) ∧ Z.cell? ⟨bs, 0, none⟩ = some (.int .i64 (k : Int)) := fun Z hZ => by
            have hbZ := hbW.trans (hZ.mono (by rw [← HBS.out]; exact hbW.size))
            refine ⟨?_, (H1.out.2.2.below (hbe.trans (hZ.mono hsz))).1⟩
            rw [hbZ.cell (p := ⟨blk fa, ofs fa + i, none⟩) (HF.out.2 i hlt), HF.out.1 i hlt, hy]
          have hil : (i : Int) < (l.length : Int) := by omega
          have hfx := hfi .i64 (i : Int) (by omega) (by omega)
          rw [Int.toNat_natCast] at hfx
          have HB := Lib.hid (And.intro hrd (And.intro hbe (And.intro hcl hy)))
          have hsd := dSk_succ (n := k) hlt
          rw [← hy] at hsd
          have HSD := Lib.hid hsd
          clear hrd hbe hcl hy hh hbW hsd
          by_cases hy0 : 0 ≤ y
          · have q1 : decide (0 ≤ y) = true := by simpa using hy0
            by_cases hyk : y < (k : Int)
            · have q2 : decide (y < (k : Int)) = true := by simpa using hyk
              obtain ⟨x, rfl⟩ : ∃ x : Nat, y = x := ⟨y.toNat, by omega⟩
              have hx : x < k := by omega
              have hnb : nodeB (k : Int) (x : Int) = true := nodeB_iff.2 ⟨by omega, by omega⟩
              obtain ⟨z, hz⟩ : ∃ z, z = nth (dSk k l i).1 x := ⟨_, rfl⟩
              have hfr : ∀ Z, Below wr.heap.size wr Z → Z.cell? ⟨blk s, ofs s + x, none⟩ = some (.int .i64 z) ∧ Z.frozen? ⟨blk s, ofs s + x, none⟩ = false := fun Z hZ => by
                obtain ⟨c1, -, c3⟩ := (HB.out.1.grown (grownBy_below hZ)).rd hn8 hx
                exact ⟨by rw [c1, hz], c3⟩
              have hix := (HB.out.1.rd hn8 hx).2.1
              have HFR := Lib.hid hfr
              have HZ := Lib.hid (And.intro hz hnb)
              clear hfr hz hnb
              by_cases hzn : z < 0
              · have q3 : decide (z < 0) = true := by simpa using hzn
                go_upto_region 10 with fail
                obtain ⟨Cls, hCls⟩ : ∃ Cls : World → Prop, ∀ Z', Cls Z' ↔ Below wr.heap.size wr Z' := ⟨_, fun _ => Iff.rfl⟩
                have hC : Cls wr.drew := (hCls _).2 ((Below.refl _ _).drew)
                have k0 : ∀ q : Wd Cls, Below wr.heap.size wr q.val := fun q => (hCls _).1 q.ok
                have HK := Lib.hid k0
                have HCC := Lib.hid hC
                haveI hne : Nonempty (Wd Cls) := ⟨⟨_, hC⟩⟩
                have e0 : ∀ q : Wd Cls, q.val.cell? ⟨blk fa, ofs fa + i, none⟩ = some (.int .i64 (x : Int)) := fun q => (HB.out.2.2.1 _ (k0 q)).1
                have e1 : ∀ q : Wd Cls, q.val.cell? ⟨bs, 0, none⟩ = some (.int .i64 (k : Int)) := fun q => (HB.out.2.2.1 _ (k0 q)).2
                have e2 : ∀ q : Wd Cls, q.val.cell? ⟨blk s, ofs s + x, none⟩ = some (.int .i64 z) := fun q => (HFR.out _ (k0 q)).1
                clear k0 hCls hC
                refine wp_region_class Cls (by kernel_rfl) (by kernel_rfl) HCC.out ?_
                repeat (go_big_quiet_step (fail))
                refine wpQuiet_nil ?_
                rintro _ ⟨q9, rfl⟩
                have HM8 := Lib.hid (HK.out q9)
                clear e0 e1 e2 HCC hne
                generalize q9.val = Z at *
                clear q9 HK Cls
                have hrZ := HB.out.1.grown (grownBy_below HM8.out)
                obtain ⟨c2, f2⟩ := HFR.out Z HM8.out
                obtain ⟨c3, c4⟩ := HB.out.2.2.1 Z HM8.out
                have HX := Lib.hid (And.intro (hrZ.lstSet hx 0) (And.intro (show ((dSk k l i).2.map fun x : Nat => (x : Int)).length < 17592186044416 by rw [List.length_map]; omega) hrZ.hB))
                have hca : blk s ≠ blk fa := by
                  obtain ⟨ho, -⟩ := own_at hrZ.row (by rw [hrZ.coh.coh.len]; omega)
                  have h1 := (hrZ.row.lt _ ho).1
                  have h2 := HF.out.2 i hlt
                  have h3 := HBS.out
                  omega
                have HRZ := Lib.hid hrZ
                have HZN := Lib.hid hzn
                clear hrZ hzn
                go_upto_region 12 with fail
                obtain ⟨c5, c6⟩ : (Z.setCell ⟨blk s, ofs s + x, none⟩ (.int .i64 0)).cell? ⟨blk fa, ofs fa + i, none⟩ = some (.int .i64 (x : Int)) ∧ True := ⟨by rw [World.cell?_setCell_other _ _ _ _ (fun e => by have := congrArg Addr.block e; dsimp only at this; omega)]; exact c3, trivial⟩
                go_wp2_with (at_builtin; refine wp_append1at (f := Value.int .i64) sIntG rfl _ rfl _ _ rfl W1.heap.size _ ((dSk k l i).2.map fun x : Nat => (x : Int)) rfl (HX.out.1.alloc _) (x : Int) ⟨Z.heap.size, 0, none⟩ rfl (by have h9 := cell_alloc1 (Z.setCell ⟨blk s, ofs s + x, none⟩ (.int .i64 0)) (.int .i64 (x : Int)) 3; rw [World.size_setCell] at h9; exact h9) rfl HX.out.2.1 (by omega) (le_alloc _ (by rw [World.size_setCell]; exact HX.out.2.2)) ?_; intro v' w3 hown hgr hat; obtain ⟨s9, c9, rfl⟩ := hown.shape (n := (dSk k l i).2.length + 1) (by rw [List.length_append, List.length_map]; rfl); have HO := Lib.hid (And.intro hown (And.intro hgr hat)); clear hown hgr hat)
                obtain ⟨m1, m2⟩ := HRZ.out.add hx (by rw [← HZ.out.1]; exact HZN.out) (Int.le_refl 0) (by omega) HO.out.1 HO.out.2.1 HO.out.2.2
                have HM := Lib.hid (And.intro m1 m2)
                clear m1 m2
                go_roundw
                case rel =>
                  refine ⟨i + 1, by omega, by go_num, ?_, HB.out.2.1.trans ((HM8.out.mono hsz).trans HM.out.2)⟩
                  rw [HSD.out, if_pos HZ.out.2]
                  exact HM.out.1
                case measure => simp [intOf]; omega
              · have q3 : decide (z < 0) = false := by simpa using hzn
                have HZN := Lib.hid hzn
                clear hzn
                go_upto_region 10 with fail
                obtain ⟨Cls, hCls⟩ : ∃ Cls : World → Prop, ∀ Z', Cls Z' ↔ Below wr.heap.size wr Z' := ⟨_, fun _ => Iff.rfl⟩
                have hC : Cls wr.drew := (hCls _).2 ((Below.refl _ _).drew)
                have k0 : ∀ q : Wd Cls, Below wr.heap.size wr q.val := fun q => (hCls _).1 q.ok
                have HK := Lib.hid k0
                have HCC := Lib.hid hC
                haveI hne : Nonempty (Wd Cls) := ⟨⟨_, hC⟩⟩
                have e0 : ∀ q : Wd Cls, q.val.cell? ⟨blk fa, ofs fa + i, none⟩ = some (.int .i64 (x : Int)) := fun q => (HB.out.2.2.1 _ (k0 q)).1
                have e1 : ∀ q : Wd Cls, q.val.cell? ⟨bs, 0, none⟩ = some (.int .i64 (k : Int)) := fun q => (HB.out.2.2.1 _ (k0 q)).2
                have e2 : ∀ q : Wd Cls, q.val.cell? ⟨blk s, ofs s + x, none⟩ = some (.int .i64 z) := fun q => (HFR.out _ (k0 q)).1
                clear k0 hCls hC
                refine wp_region_class Cls (by kernel_rfl) (by kernel_rfl) HCC.out ?_
                repeat (go_big_quiet_step (fail))
                refine wpQuiet_nil ?_
                rintro _ ⟨q9, rfl⟩
                have HM8 := Lib.hid (HK.out q9)
                clear e0 e1 e2 HCC hne
                generalize q9.val = Z at *
                clear q9 HK Cls
                go_wp2_with fail
                go_roundw
                case rel =>
                  refine ⟨i + 1, by omega, by go_num, ?_, HB.out.2.1.trans (HM8.out.mono hsz)⟩
                  rw [HSD.out, if_pos HZ.out.2]
                  show RdW _ _ _ _ (dvs 0 (dSk k l i) x) _ _
                  unfold dvs
                  rw [if_neg (by rw [← HZ.out.1]; exact HZN.out)]
                  exact HB.out.1.grown (grownBy_below HM8.out)
                case measure => simp [intOf]; omega
            · have q2 : decide (y < (k : Int)) = false := by simpa using hyk
              have HN : Hid (nodeB (k : Int) y = false) := Lib.hid (by cases e : nodeB (k : Int) y with | false => rfl | true => have := nodeB_iff.1 e; omega)
              clear hyk
              go_upto_region 10 with fail
              obtain ⟨Cls, hCls⟩ : ∃ Cls : World → Prop, ∀ Z', Cls Z' ↔ Below wr.heap.size wr Z' := ⟨_, fun _ => Iff.rfl⟩
              have hC : Cls wr.drew := (hCls _).2 ((Below.refl _ _).drew)
              have k0 : ∀ q : Wd Cls, Below wr.heap.size wr q.val := fun q => (hCls _).1 q.ok
              have HK := Lib.hid k0
              have HCC := Lib.hid hC
              haveI hne : Nonempty (Wd Cls) := ⟨⟨_, hC⟩⟩
              have e0 : ∀ q : Wd Cls, q.val.cell? ⟨blk fa, ofs fa + i, none⟩ = some (.int .i64 y) := fun q => (HB.out.2.2.1 _ (k0 q)).1
              have e1 : ∀ q : Wd Cls, q.val.cell? ⟨bs, 0, none⟩ = some (.int .i64 (k : Int)) := fun q => (HB.out.2.2.1 _ (k0 q)).2
              clear k0 hCls hC
              refine wp_region_class Cls (by kernel_rfl) (by kernel_rfl) HCC.out ?_
              repeat (go_big_quiet_step (fail))
              refine wpQuiet_nil ?_
              rintro _ ⟨q9, rfl⟩
              have HM8 := Lib.hid (HK.out q9)
              clear e0 e1 HCC hne
              generalize q9.val = Z at *
              clear q9 HK Cls
              go_wp2_with fail
              go_roundw
              case rel => exact ⟨i + 1, by omega, by go_num, by rw [HSD.out, HN.out]; exact HB.out.1.grown (grownBy_below HM8.out), HB.out.2.1.trans (HM8.out.mono hsz)⟩
              case measure => simp [intOf]; omega
          · have q1 : decide (0 ≤ y) = false := by simpa using hy0
            have HN : Hid (nodeB (k : Int) y = false) := Lib.hid (by cases e : nodeB (k : Int) y with | false => rfl | true => have := nodeB_iff.1 e; omega)
            clear hy0
            go_upto_region 10 with fail
            obtain ⟨Cls, hCls⟩ : ∃ Cls : World → Prop, ∀ Z', Cls Z' ↔ Below wr.heap.size wr Z' := ⟨_, fun _ => Iff.rfl⟩
            have hC : Cls wr.drew := (hCls _).2 ((Below.refl _ _).drew)
            have k0 : ∀ q : Wd Cls, Below wr.heap.size wr q.val := fun q => (hCls _).1 q.ok
            have HK := Lib.hid k0
            have HCC := Lib.hid hC
            haveI hne : Nonempty (Wd Cls) := ⟨⟨_, hC⟩⟩
            have e0 : ∀ q : Wd Cls, q.val.cell? ⟨blk fa, ofs fa + i, none⟩ = some (.int .i64 y) := fun q => (HB.out.2.2.1 _ (k0 q)).1
            clear k0 hCls hC
            refine wp_region_class Cls (by kernel_rfl) (by kernel_rfl) HCC.out ?_
            repeat (go_big_quiet_step (fail))
            refine wpQuiet_nil ?_
            rintro _ ⟨q9, rfl⟩
            have HM8 := Lib.hid (HK.out q9)
            clear e0 HCC hne
            generalize q9.val = Z at *
            clear q9 HK Cls
            go_wp2_with fail
            go_roundw
            case rel => exact ⟨i + 1, by omega, by go_num, by rw [HSD.out, HN.out]; exact HB.out.1.grown (grownBy_below HM8.out), HB.out.2.1.trans (HM8.out.mono hsz)⟩
            case measure => simp [intOf]; omega
        · obtain rfl : i = l.length := by omega
          rw [dSk_all] at hrd hql hh ⊢
          have hpg := H1.out.1.below hbe
          obtain ⟨d0, d1⟩ := H1.out.2.2.below hbe
          have HB := Lib.hid (And.intro hrd hbe)
          clear hlt hi hrd hbe hh
          go_wp2_with fail
          have hli := rLists_any g (.slice ca g.es.length cc) wr hpg HV.out.1
          unfold GV at hli
          rw [HV.out.2] at hli
          refine hli.mono ?_
          rintro e W3 ⟨ga, gc, vs, rfl, gr, gb⟩
          rw [HV.out.2, Int.toNat_natCast] at gr ⊢
          obtain ⟨t0, ht0⟩ : ∃ t, t = dS (k : Int) l := ⟨_, rfl⟩
          rw [← ht0] at HB hql ⊢
          have hrn : RnW W1 wr.heap.size W3.heap.size k cap s ga gc vs (listsTo g.es k g.es.length) t0 (.slice os t0.2.length oc) W3 :=
            ⟨HB.out.1.grown (grownBy_below gb), gr, fun q hq => gr.foot kIIg q hq, fun q e => (HB.out.1.row.lt q e).2, fun q e => .inl (HB.out.1.lst.lt q e).2, Nat.le_refl _, HB.out.2.trans (gb.mono hsz)⟩
          have HG := Lib.hid (And.intro hrn ht0)
          clear hli gr gb hrn ht0 hpg d0 d1 hsz
          have hgl : (listsTo g.es k g.es.length).length = k := listsTo_len _ _ _
          go_wp2_with fail
          generalize wr.heap.size = zz0 at *
          go_loopg [6, 10] (k + 1) (fun m nv x wr => ∃ (i : Nat) (t : List Int × List Nat) (os : Option Addr) (oc : Nat), nv = .slice os t.2.length oc ∧ x = .int .i64 i ∧ i ≤ t.2.length ∧ m + i = k + 1 ∧ Hid (dG g.es m i t = dG g.es (k + 1) 0 t0 ∧ RnW W1 zz0 W3.heap.size k cap s ga gc vs (listsTo g.es k g.es.length) t (.slice os t.2.length oc) wr))
          case atStart => exact ⟨0, t0, os, oc, rfl, rfl, by omega, by omega, rfl, HG.out.1⟩
          case round =>
            obtain ⟨i, t, os, oc, rfl, rfl, hi, hki, hh⟩ := hrel
            obtain ⟨hdg, hrn⟩ := hh.out
            have hql := hrn.rd.coh.qlen
            by_cases hlt : i < t.2.length
            · obtain ⟨a9, c9, he, hm9, hidx, hcell, -⟩ := hrn.rd.lst.lst.out1 sIntG
              rw [List.length_map] at he hm9 hidx hcell
              simp only [Value.slice.injEq] at he
              obtain ⟨rfl, -, rfl⟩ := he
              have hci := hcell i hlt
              obtain ⟨v, hv⟩ : ∃ v, v = nth t.2 i := ⟨_, rfl⟩
              rw [show nth (t.2.map fun x : Nat => (x : Int)) i = (v : Int) by rw [nth_eq _ _ (by rw [List.length_map]; exact hlt), List.getElem_map, hv, nth_eq _ _ hlt]] at hci
              have hii := hidx .i64 (i : Int) (by omega) (by omega)
              rw [Int.toNat_natCast] at hii
              have hil : (i : Int) < (t.2.length : Int) := by omega
              have hvm : v ∈ t.2 := by rw [hv]; exact nth_mem _ _ hlt
              have hvk : v < k := hrn.rd.coh.coh.mem v hvm
              have h0v : 0 ≤ nth t.1 v := (hrn.rd.coh.coh.iff v hvk).2 hvm
              have hdt : nth t.1 v ≤ t.2.length := hrn.rd.coh.top v hvk
              obtain ⟨m, rfl⟩ : ∃ m, gk = m + 1 := ⟨gk - 1, by omega⟩
              have hstep : dG g.es m (i + 1) ((suc g.es v).foldl (dvs (nth t.1 v + 1)) t) = dG g.es (k + 1) 0 t0 := by
                rw [← hdg]
                conv => rhs; unfold dG
                rw [if_pos hlt, ← hv]
              have hrow : nth (listsTo g.es k g.es.length) v = (suc g.es v).map fun x : Nat => (x : Int) := by
                rw [listsTo_nth hvk, succK_suc HV.out.1 (by omega)]; rfl
              have hsn : ∀ w ∈ suc g.es v, w < k := fun w hw => by have := suc_node HV.out.1 hw; rw [HV.out.2] at this; exact this
              have hsl : (suc g.es v).length ≤ 32768 := Nat.le_trans (suc_len _ _) hl
              have HS := Lib.hid (And.intro hvm (And.intro h0v (And.intro hdt (And.intro hstep (And.intro hrow (And.intro hsn hrn))))))
              clear hidx hcell hv hvm h0v hdt hstep hrow hsn hrn hdg hh
              go_wp2_with fail
              go_loopw [6, 12] (fun nv x wr => ∃ (j : Nat) (os : Option Addr) (oc : Nat), j ≤ (suc g.es v).length ∧ nv = .slice os (((suc g.es v).take j).foldl (dvs (nth t.1 v + 1)) t).2.length oc ∧ x = .int .i64 j ∧ Hid (RnW W1 zz0 W3.heap.size k cap s ga gc vs (listsTo g.es k g.es.length) (((suc g.es v).take j).foldl (dvs (nth t.1 v + 1)) t) (.slice os (((suc g.es v).take j).foldl (dvs (nth t.1 v + 1)) t).2.length oc) wr)) (fun _ x _ => (suc g.es v).length - (intOf x).toNat)
              case atStart => exact ⟨0, os, oc, by omega, rfl, rfl, HS.out.2.2.2.2.2.2⟩
              case round =>
                obtain ⟨j, os, oc, hj, rfl, rfl, hh⟩ := hrel
                obtain ⟨t', ht'⟩ : ∃ t', t' = ((suc g.es v).take j).foldl (dvs (nth t.1 v + 1)) t := ⟨_, rfl⟩
                have hpre : ∀ w ∈ (suc g.es v).take j, w < k := fun w hw => HS.out.2.2.2.2.2.1 w (List.mem_of_mem_take hw)
                have h0d : 0 ≤ nth t.1 v + 1 := by have := HS.out.2.1; omega
                have hpx : t.2 <+: t'.2 := by rw [ht']; exact dvsl_prefix _ _ _
                have hq3 : nth t'.1 v = nth t.1 v := by rw [ht']; exact dvsl_old h0d HS.out.2.2.2.2.2.2.rd.coh.coh HS.out.1 hpre
                have hd2 : nth t.1 v + 1 ≤ t'.2.length + 1 := by have := HS.out.2.2.1; have := hpx.length_le; omega
                have hrn := hh.out
                rw [← ht'] at hrn
                have HT := Lib.hid (And.intro ht' (And.intro h0d (And.intro hd2 hrn)))
                have hql' := hrn.rd.coh.qlen
                obtain ⟨a4, c4, he, hm4, hidx4, hcell4, -⟩ := hrn.gr.out.lst.out1 sRowsG
                rw [hrn.gr.len, hgl] at he hm4 hidx4 hcell4
                simp only [Value.slice.injEq] at he
                obtain ⟨rfl, -, rfl⟩ := he
                have cg := hcell4 v hvk
                have ig := hidx4 .i64 (v : Int) (by omega) (by omega)
                rw [Int.toNat_natCast] at ig
                have hinn := hrn.gr.inn v (by rw [hgl]; exact hvk)
                rw [HS.out.2.2.2.2.1] at hinn
                obtain ⟨rs, rc, hvs⟩ := hinn.shape (n := (suc g.es v).length) (by rw [List.length_map])
                rw [hvs] at cg hinn
                obtain ⟨a5, c5, he, hm5, hidx5, hcell5, -⟩ := hinn.lst.out1 sIntG
                rw [List.length_map] at he hm5 hidx5 hcell5
                simp only [Value.slice.injEq] at he
                obtain ⟨rfl, -, rfl⟩ := he
                obtain ⟨cv, ivv, -⟩ := hrn.rd.rd hn8 hvk
                rw [hq3] at cv
                rw [← ht']
                have HVS := Lib.hid hvs
                clear hpre h0d hpx hq3 hd2 hidx4 hcell4 hinn hm4 hvs ht' hh
                by_cases hltj : j < (suc g.es v).length
                · have hcj := hcell5 j hltj
                  have hijj := hidx5 .i64 (j : Int) (by omega) (by omega)
                  rw [Int.toNat_natCast] at hijj
                  have hjl : (j : Int) < ((suc g.es v).length : Int) := by omega
                  obtain ⟨x, hxe⟩ : ∃ x, x = nth (suc g.es v) j := ⟨_, rfl⟩
                  rw [show nth ((suc g.es v).map fun x : Nat => (x : Int)) j = (x : Int) by rw [nth_eq _ _ (by rw [List.length_map]; exact hltj), List.getElem_map, hxe, nth_eq _ _ hltj]] at hcj
                  have hx : x < k := by rw [hxe]; exact HS.out.2.2.2.2.2.1 _ (nth_mem _ _ hltj)
                  have hst := suc_take (es := suc g.es v) (d := nth t.1 v + 1) (t := t) hltj
                  rw [← HT.out.1, ← hxe] at hst
                  obtain ⟨cx, ixx, fx⟩ := hrn.rd.rd hn8 hx
                  obtain ⟨y, hy⟩ : ∃ y, y = nth t'.1 x := ⟨_, rfl⟩
                  rw [← hy] at cx
                  have HY := Lib.hid (And.intro hy hst)
                  clear hy hst hxe hcell5 hidx5 hm5
                  by_cases hyn : y < 0
                  · have q3 : decide (y < 0) = true := by simpa using hyn
                    obtain ⟨dv, hdv⟩ : ∃ dv, dv = nth t.1 v := ⟨_, rfl⟩
                    rw [← hdv] at cv
                    have hwr : IntKind.i64.wrap (dv + 1) = dv + 1 := IntWalk.i64_in _ (by have := HT.out.2.1; have := HT.out.2.2.1; omega)
                    have HX := Lib.hid (And.intro (hrn.rd.lstSet hx (dv + 1)) (And.intro (show (t'.2.map fun x : Nat => (x : Int)).length < 17592186044416 by rw [List.length_map]; omega) hrn.rd.hB))
                    have HYN := Lib.hid (And.intro hyn hdv)
                    clear hyn hdv hrn
                    go_wp2_with (at_builtin; refine wp_append1at (f := Value.int .i64) sIntG rfl _ rfl _ _ rfl W1.heap.size _ (t'.2.map fun x : Nat => (x : Int)) rfl (HX.out.1.alloc _) (x : Int) ⟨wr.heap.size, 0, none⟩ rfl (by have h9 := cell_alloc1 (wr.setCell ⟨blk s, ofs s + x, none⟩ (.int .i64 (dv + 1))) (.int .i64 (x : Int)) 3; rw [World.size_setCell] at h9; exact h9) rfl HX.out.2.1 (by omega) (le_alloc _ (by rw [World.size_setCell]; exact HX.out.2.2)) ?_; intro v' w3 hown hgr hat; obtain ⟨s9, c9, rfl⟩ := hown.shape (n := t'.2.length + 1) (by rw [List.length_append, List.length_map]; rfl); have HO := Lib.hid (And.intro hown (And.intro hgr hat)); clear hown hgr hat)
                    have hm := HT.out.2.2.2.add hx (by rw [← HY.out.1]; exact HYN.out.1) (d := dv + 1) (by rw [HYN.out.2]; exact HT.out.2.1) (by rw [HYN.out.2]; exact HT.out.2.2.1) HO.out.1 HO.out.2.1 HO.out.2.2
                    rw [HYN.out.2, ← HY.out.2] at hm
                    have hln : (dvs (nth t.1 v + 1) t' x).2.length = t'.2.length + 1 := by unfold dvs; rw [if_pos (by rw [← HY.out.1]; exact HYN.out.1)]; simp
                    rw [← HY.out.2] at hln
                    have HM := Lib.hid (And.intro hm hln)
                    clear hm hln
                    go_roundw
                    case rel => exact ⟨j + 1, s9, c9, by omega, by rw [HM.out.2], by go_num, by rw [HM.out.2]; exact HM.out.1⟩
                    case measure => simp [intOf]; omega
                  · have q3 : decide (y < 0) = false := by simpa using hyn
                    have hsame : dvs (nth t.1 v + 1) t' x = t' := by unfold dvs; rw [if_neg (by rw [← HY.out.1]; exact hyn)]
                    have HM := Lib.hid (HY.out.2.trans hsame)
                    clear hyn hsame hrn
                    go_wp2_with fail
                    go_roundw
                    case rel => exact ⟨j + 1, os, oc, by omega, by rw [HM.out], by go_num, by rw [HM.out]; exact HT.out.2.2.2⟩
                    case measure => simp [intOf]; omega
                · obtain rfl : j = (suc g.es v).length := by omega
                  have hfull := HT.out.1
                  rw [List.take_length] at hfull
                  have hlen := (dvsl_prefix (nth t.1 v + 1) (suc g.es v) t).length_le
                  rw [← hfull] at hlen
                  have HM := Lib.hid (And.intro hfull hlen)
                  clear hfull hlen hltj hj hcell5 hidx5 hm5 hrn
                  go_wp2_with fail
                  go_roundg m
                  case rel => exact ⟨i + 1, t', os, oc, rfl, by go_num, by have := HM.out.2; omega, by omega, by rw [HM.out.1]; exact HS.out.2.2.2.1, HT.out.2.2.2⟩
                  case measure => omega
            · obtain rfl : i = t.2.length := by omega
              have hL : t.1 = distL g l := by
                unfold distL
                rw [HV.out.2, Int.toNat_natCast, ← HG.out.2, ← hdg]
                cases gk with
                | zero => rfl
                | succ kk => unfold dG; rw [if_neg (Nat.lt_irrefl _)]
              have HL := Lib.hid (And.intro hL hrn)
              clear hL hdg hrn hh hlt hi
              go_wp2_with fail
              go_ret
              refine ⟨s, cap, by rw [HV.out.2]; rfl, ?_, by rw [HBS.out]; exact H1.out.2.1.trans (HL.out.2.bel.mono (Nat.le_of_lt n1))⟩
              rw [HV.out.2, HBS.out, Int.toNat_natCast, ← HL.out.1]
              exact HL.out.2.rd.row.mono (Nat.le_of_lt n1)
end Go.Proofs.Ytchmjgjagaaomaa
